/- Plain functions on lists of bytes: paths. -/
import Derived.Lib.Strings
namespace Go.Proofs.YtbkjjapeojclpaaGreatDoor
set_option linter.unusedVariables false
set_option linter.unusedSimpArgs false

abbrev Bs := List UInt8
/-- A text at each '/'. -/
def split47 : Bs → List Bs
  | [] => [[]]
  | c :: s => if c = 47 then [] :: split47 s else match split47 s with | [] => [[c]] | h :: t => (c :: h) :: t
theorem split47_ne (s : Bs) : split47 s ≠ [] := by
  cases s with
  | nil => simp [split47]
  | cons c s =>
    unfold split47
    split
    · simp
    · split <;> simp
def partOk (s : Bs) : Bool :=
  !s.isEmpty && decide (s.length ≤ 60) && !s.contains 47 && !s.contains 0 && s != [46] && s != [46, 46] && !(([46, 119, 104, 46] : Bs).isPrefixOf s)
def pathOk (p : Bs) : Bool := p.isEmpty || (decide (p.length ≤ 200) && (split47 p).all partOk && decide ((split47 p).length ≤ 10))
/-- The last place of a '/', or -1. -/
def lastI (p : Bs) : Int := ((p.reverse.dropWhile (· != 47)).length : Int) - 1
/-- A path without its last part. -/
def parentOf (p : Bs) : Bs := p.take (lastI p).toNat
def parentR (p : Bs) : Bs := if pathOk p then parentOf p else []
def parentB (p : Bs) : Bool := !p.isEmpty && pathOk p
end Go.Proofs.YtbkjjapeojclpaaGreatDoor
