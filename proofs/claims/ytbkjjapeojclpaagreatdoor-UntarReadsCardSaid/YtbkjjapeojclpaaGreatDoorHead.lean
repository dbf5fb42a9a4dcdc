/- Package head. -/
import Derived.Test.YtbkjjapeojclpaaGreatDoorOct
import Derived.Test.YtbkjjapeojclpaaGreatDoorPath
namespace Go.Proofs.YtbkjjapeojclpaaGreatDoor
set_option linter.unusedVariables false
set_option linter.unusedSimpArgs false
open Go.RowKit Go.Proofs.YtbkjjapeojclpaaGreatDoorW.PrintWords
set_option maxHeartbeats 400000

def octB (n d : Nat) : Bool := decide ((mn8 n).length ≤ d)
def octR (n d : Nat) : Bs := if octB n d then rep 48 (d - (mn8 n).length) ++ mn8 n else []

def modeOf (k : Int) : Bs := if k = 1 ∨ k = 3 then [48, 48, 48, 48, 55, 53, 53] else if k = 4 then [48, 48, 48, 48, 55, 55, 55] else [48, 48, 48, 48, 54, 52, 52]
def signOf (k : Int) : Bs := if k = 1 then [53] else if k = 4 then [50] else if k = 5 then [120] else [48]
def textB (s : Bs) : Bool := decide (s.length ≤ 100) && !s.contains 0
def mayB (s : Bs) (k n : Int) (l : Bs) : Bool :=
  !s.isEmpty && textB s && textB l && decide (1 ≤ k) && decide (k ≤ 5) && ((!l.isEmpty) == (k == 4)) && (n == 0 || (k != 1 && k != 4))

theorem Octal_any (n d : Nat) (h1 : 1 ≤ d) (h2 : d ≤ 11) (hn : n < 8 ^ 20) (w : World) (hG : Glob w) :
    Calls Tryz.prog 86 #[.int .i64 n, .int .i64 d] w fun e w' => e = .returned (.tuple #[.string ⟨(octR n d).toArray⟩, .bool (octB n d)]) ∧ Below w.heap.size w w' := by
  have d0 : decide ((n : Int) < 0) = false := decide_eq_false (by omega)
  have d1 : decide ((d : Int) < 1) = false := decide_eq_false (by omega)
  have d2 : decide ((11 : Int) < (d : Int)) = false := decide_eq_false (by omega)
  have hsz : (⟨(mn8 n).toArray⟩ : ByteArray).size = (mn8 n).length := by rw [size_len]
  by_cases hl : (mn8 n).length ≤ d
  · have d3 : decide ((d : Int) < ((⟨(mn8 n).toArray⟩ : ByteArray).size : Int)) = false := decide_eq_false (by omega)
    have hrl : (rep 48 (d - (mn8 n).length)).length + (mn8 n).length ≤ 9223372036854775807 := by unfold rep; rw [List.length_replicate]; omega
    have hR := Lib.hid (fun W => show Calls Tryz.prog 104 #[.string ⟨#[48]⟩, .int .i64 ((d : Int) - ((mn8 n).length : Int))] W _ from by rw [← Int.ofNat_sub hl]; exact Repeat_any 48 (d - (mn8 n).length) W (by omega))
    go_enter Tryz.func86, Tryz.ntmps86
    go_wp2_with (first | (go_at_call 103; refine (FormatInt_any n hn _ hG).mono ?_; rintro e w' ⟨rfl, hb⟩) | (go_at_call 104; refine (hR.out _).mono ?_; rintro e w2 ⟨rfl, hb2⟩))
    go_ret2
    exact ⟨by unfold octR octB; rw [mk_append, decide_eq_true hl]; rfl, below_two hb hb2⟩
  · have d3 : decide ((d : Int) < ((⟨(mn8 n).toArray⟩ : ByteArray).size : Int)) = true := decide_eq_true (by omega)
    go_enter Tryz.func86, Tryz.ntmps86
    go_wp2_with (go_at_call 103; refine (FormatInt_any n hn _ hG).mono ?_; rintro e w' ⟨rfl, hb⟩)
    go_ret2
    exact ⟨by unfold octR octB; rw [decide_eq_false hl]; rfl, hb⟩
theorem mode_any (k : Int) (w : World) :
    Calls Tryz.prog 89 #[.int .i64 k] w fun e w' => e = .returned (.string ⟨(modeOf k).toArray⟩) ∧ w = w' := by
  go_enter Tryz.func89, Tryz.ntmps89
  go_wp2_with fail
  all_goals (go_ret; exact ⟨by simp_all [modeOf], rfl⟩)
theorem sign_any (k : Int) (w : World) :
    Calls Tryz.prog 90 #[.int .i64 k] w fun e w' => e = .returned (.string ⟨(signOf k).toArray⟩) ∧ w = w' := by
  go_enter Tryz.func90, Tryz.ntmps90
  go_wp2_with fail
  all_goals (go_ret; exact ⟨by simp_all [signOf], rfl⟩)
theorem text_any (s : ByteArray) (w : World) :
    Calls Tryz.prog 105 #[.string s] w fun e w' => e = .returned (.bool (textB s.data.toList)) ∧ w = w' := by
  go_enter Tryz.func105, Tryz.ntmps105
  go_wp2_with (go_at_call 63; refine (IndexByte_any _ _ _).mono ?_; rintro e w' ⟨rfl, rfl⟩)
  all_goals go_ret
  all_goals refine ⟨congrArg (fun b => Ending.returned (Value.bool b)) (?_ : _ = textB s.data.toList), rfl⟩
  all_goals simp only [size_len] at *
  all_goals generalize s.data.toList = l at *
  all_goals unfold textB
  all_goals (have hi := index_lt l 0; cases hc : l.contains 0 <;> rw [hc] at hi <;> by_cases h1 : l.length ≤ 100 <;> simp [h1] <;> first | omega | simp_all)
theorem may_any (s l : ByteArray) (k n : Int) (w : World) :
    Calls Tryz.prog 87 #[.string s, .int .i64 k, .int .i64 n, .string l] w fun e w' => e = .returned (.bool (mayB s.data.toList k n l.data.toList)) ∧ w = w' := by
  go_enter Tryz.func87, Tryz.ntmps87
  go_wp2_with (go_at_call 105; refine (text_any _ _).mono ?_; rintro e w' ⟨rfl, rfl⟩)
  all_goals go_ret
  all_goals refine ⟨congrArg (fun b => Ending.returned (Value.bool b)) (?_ : _ = mayB s.data.toList k n l.data.toList), rfl⟩
  all_goals simp only [Lib.toList_data] at *
  all_goals generalize s.data.toList = s at *
  all_goals generalize l.data.toList = l at *
  all_goals unfold mayB
  all_goals (try simp_all)
  all_goals (try omega)
  trace_state
end Go.Proofs.YtbkjjapeojclpaaGreatDoor
