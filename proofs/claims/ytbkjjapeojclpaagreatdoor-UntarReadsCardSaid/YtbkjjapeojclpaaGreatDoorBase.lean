/- What the walks of this seat share: the facts on the library's package-level variables, and small lemmas. -/
import Derived.Test.YtbkjjapeojclpaaGreatDoorProg
import Derived.Test.YtbkjjapeojclpaaGreatDoorWWords
import Derived.WalkKit
import Derived.WalkSpells
import Derived.WalkLawsBesides
import Derived.Deep.QuietTactic
import Derived.BigQuiet
import Derived.Deep.DeepFit
import Derived.Deep.LoopGhost
import Derived.Deep.RegionHeld3
import Derived.Deep.DeepCutAuto
import Derived.Deep.CutBlock
import Derived.Lib.Hide
import Derived.Lib.LaidTab
import Derived.Lib.ItoaNum
namespace Go.Proofs.YtbkjjapeojclpaaGreatDoor
set_option linter.unusedVariables false
set_option linter.unusedSimpArgs false
open Go.RowKit

/-- The listed variables of the library read as listed; there are at least so many blocks. -/
structure Glob (w : World) : Prop where
  size : 8 ≤ w.heap.size
  maxLen : ∃ m, w.cell? ⟨2, 0, none⟩ = some (.int .i64 m)
  pow10 : Lib.TabIs Tryz.prog w "internal/strconv.uint64pow10" .u64 Lib.pow10Tab
  tz64 : Lib.TabIs Tryz.prog w "math/bits.deBruijn64tab" .u8 [0, 1, 56, 2, 57, 49, 28, 3, 61, 58, 42, 50, 38, 29, 17, 4, 62, 47, 59, 36, 45, 43, 51, 22, 53, 39, 33, 30, 24, 18, 12, 5, 63, 55, 48, 27, 60, 41, 37, 16, 46, 35, 44, 21, 52, 32, 23, 11, 54, 26, 40, 15, 34, 20, 31, 10, 25, 14, 19, 9, 13, 8, 7, 6]
  esyn : ∃ t p, w.var? Tryz.prog "strconv.ErrSyntax" = some #[.iface t p]
  erng : ∃ t p, w.var? Tryz.prog "strconv.ErrRange" = some #[.iface t p]

theorem gn_pow10 : Tryz.prog.globalNamed "internal/strconv.uint64pow10" = some 5 := by kernel_rfl
theorem gn_tz64 : Tryz.prog.globalNamed "math/bits.deBruijn64tab" = some 7 := by kernel_rfl
theorem gn_esyn : Tryz.prog.globalNamed "strconv.ErrSyntax" = some 3 := by kernel_rfl
theorem gn_erng : Tryz.prog.globalNamed "strconv.ErrRange" = some 4 := by kernel_rfl

theorem var?_same {w w' : World} {n : String} {g : Nat} (hg : Tryz.prog.globalNamed n = some g) (h : w'.heap[g]? = w.heap[g]?) : w'.var? Tryz.prog n = w.var? Tryz.prog n := by
  simp only [World.var?, hg, Option.bind_some, h]

theorem Glob.same {w w' : World} (h : Glob w) (hs : w.heap.size ≤ w'.heap.size) (hb : ∀ i, i < 8 → w'.heap[i]? = w.heap[i]?) : Glob w' := by
  obtain ⟨h1, ⟨m, h2⟩, h3, h4, h5, h6⟩ := h
  refine ⟨by omega, ⟨m, ?_⟩, ?_, ?_, ?_, ?_⟩
  · rw [← h2]; exact World.cell?_of_block (w := w) (hb 2 (by decide))
  · unfold Lib.TabIs at *; rw [var?_same gn_pow10 (hb _ (by decide))]; exact h3
  · unfold Lib.TabIs at *; rw [var?_same gn_tz64 (hb _ (by decide))]; exact h4
  · rw [var?_same gn_esyn (hb _ (by decide))]; exact h5
  · rw [var?_same gn_erng (hb _ (by decide))]; exact h6
theorem Glob.below {w w' : World} (h : Glob w) {B : Nat} (hb : Below B w w') (hB : 8 ≤ B) : Glob w' := h.same hb.size (fun i hi => hb.block i (by omega))
theorem Glob.below' {w w' : World} (h : Glob w) (hb : Below w.heap.size w w') : Glob w' := h.below hb h.size
theorem Glob.alloc {w : World} (h : Glob w) (o : Obj) : Glob (w.alloc o) := h.below' ((Below.refl w.heap.size w).alloc (Nat.le_refl _) o)
theorem Glob.drew {w : World} (h : Glob w) : Glob w.drew := h.same (Nat.le_refl _) (fun _ _ => rfl)
theorem Glob.drewN {w : World} (h : Glob w) (n : Nat) : Glob (w.drewN n) := h.same (Nat.le_refl _) (fun _ _ => rfl)

/-- What a call may do that leaves all that was: new blocks, draws. -/
theorem Below.of_eq {w w' : World} (h : w' = w) : Below w.heap.size w w' := h ▸ Below.refl _ _
theorem below_drewN (w : World) (n : Nat) : Below w.heap.size w (w.drewN n) := ⟨rfl, rfl, rfl, Nat.le_refl _, fun _ _ => rfl⟩
theorem below_drewN' (B : Nat) (w : World) (n : Nat) : Below B w (w.drewN n) := ⟨rfl, rfl, rfl, Nat.le_refl _, fun _ _ => rfl⟩
theorem below_two {w w1 w2 : World} (h : Below w.heap.size w w1) (k : Below w1.heap.size w1 w2) : Below w.heap.size w w2 := h.trans (k.mono h.size)
theorem bcell {W w1 : World} (hb : Below W.heap.size W w1) : (∀ b o, b < W.heap.size → w1.cell? ⟨b, o, none⟩ = W.cell? ⟨b, o, none⟩) ∧ (∀ b o, b < W.heap.size → w1.frozen? ⟨b, o, none⟩ = W.frozen? ⟨b, o, none⟩) :=
  ⟨fun b o h => hb.cell (p := ⟨b, o, none⟩) h, fun b o h => hb.frozen (p := ⟨b, o, none⟩) h⟩

/-! ### A region that draws its order, whose calls make memory but whose values do not hang on it: the class of worlds 'w, and more behind it' -/
structure Ext where
  blocks : Array Obj
  drawn : Nat
instance : Inhabited Ext := ⟨⟨#[], 0⟩⟩
/-- w with further blocks, and another count of draws. -/
def wext (w : World) (e : Ext) : World := { w with heap := w.heap ++ e.blocks, drawn := e.drawn }
theorem wext_below (w : World) (e : Ext) : Below w.heap.size w (wext w e) :=
  ⟨rfl, rfl, rfl, by simp [wext], fun k hk => by simp only [wext]; rw [Array.getElem?_append_left hk]⟩
theorem wext_of_below {w w' : World} (h : Below w.heap.size w w') : ∃ e, w' = wext w e := by
  refine ⟨⟨w'.heap.extract w.heap.size w'.heap.size, w'.drawn⟩, ?_⟩
  obtain ⟨h1, h2, h3, h4, h5⟩ := h
  have hh : w'.heap = w.heap ++ w'.heap.extract w.heap.size w'.heap.size := by
    apply Array.ext_getElem?
    intro i
    rcases Nat.lt_or_ge i w.heap.size with hi | hi
    · rw [Array.getElem?_append_left hi, h5 i hi]
    · rw [Array.getElem?_append_right hi, Array.getElem?_extract]
      split
      · congr 1; omega
      · rw [Array.getElem?_eq_none]; omega
  cases w'; cases w
  simp only [wext] at *
  subst h1 h2 h3
  rw [← hh]
theorem wext_trans {w : World} {e : Ext} {w' : World} (h : Below (wext w e).heap.size (wext w e) w') : ∃ e', w' = wext w e' :=
  wext_of_below (below_two (wext_below w e) h)
theorem wext_drew (w : World) : ∃ e, ({ w with drawn := w.drawn + 1 } : World) = wext w e := wext_of_below ⟨rfl, rfl, rfl, Nat.le_refl _, fun _ _ => rfl⟩
theorem wext_cell {w : World} {a : Addr} {v : Value} (h : w.cell? a = some v) : ∀ e, (wext w e).cell? a = some v := fun e => Go.Proofs.YtbkjjapeojclpaaGreatDoorW.PrintWords.pw_cell_below (wext_below w e) h
theorem Calls.wext_of {P : Program} {f : FuncId} {args : Array Value} {w : World} {x : Ext} {v : Value}
    (h : Calls P f args (wext w x) fun e w' => e = .returned v ∧ Below (wext w x).heap.size (wext w x) w') : Calls P f args (wext w x) fun e w'' => e = .returned v ∧ ∃ y, w'' = wext w y :=
  h.mono fun _ _ ⟨he, hm⟩ => ⟨he, wext_trans hm⟩
theorem wp_region_ext {P : Program} {id : Nat} {Q : Exit → Act → World → Prop} {a : Act} {w : World} {l : List Oper} (hm : P.follows .mixedOrders = true) (hB : Region.lexB .any l.toArray = true)
    (h : wpQuiet P l.toArray (fun w' => ∃ e, w' = wext w e) (fun a' => ∀ w', (∃ e, w' = wext w e) → Q .normal a' w') l a) : (Code.region id l.toArray true).wp P Q a w :=
  wp_region_quiet (C := fun w' => ∃ e, w' = wext w e) hm hB (wext_drew w) (by simpa using h)
theorem Glob.wext {w : World} (h : Glob w) (e : Ext) : Glob (wext w e) := h.below' (wext_below w e)

/-- A fact that the walk does not look into. -/
structure As (p : Prop) : Prop where mk :: (out : p)
end Go.Proofs.YtbkjjapeojclpaaGreatDoor
