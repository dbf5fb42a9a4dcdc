/- GreatNodes. -/
import Derived.Test.YtbkjjapeojclpaaGreatDoorLaw1
namespace Go.Proofs.YtbkjjapeojclpaaGreatDoor
set_option linter.unusedVariables false
set_option linter.unusedSimpArgs false
open Go.RowKit Go.Proofs.YtbkjjapeojclpaaGreatDoorW.PrintWords
set_option maxHeartbeats 400000

def bigNd (n : Nd) : Bool := decide (300 < n.path.length) || decide (500 < n.data.length)
def greatF (t : List Nd) (m : Nat) : Bool := decide (m < t.length) || t.any bigNd
theorem GreatNodes_any (t : List Nd) (A : Option Addr) (c : Nat) (m : Nat) (w : World) (hC : kNd.C w A t.length t) (hc : t.length ≤ c) (hm : m ≤ 1000000) :
    Calls Tryz.prog 15 #[.slice A t.length c, .int .i64 m] w fun e w' => e = .returned (.bool (greatF t m)) ∧ w = w' := by
  have hmx := C_max hC
  have HC := Lib.hid hC
  clear hC
  by_cases hl : t.length ≤ m
  · have b1 : decide ((t.length : Int) ≤ (m : Int)) = true := decide_eq_true (by omega)
    have b2 : decide ((m : Int) < (t.length : Int)) = false := decide_eq_false (by omega)
    have b3 : decide (t.length ≤ m) = true := decide_eq_true hl
    have b4 : decide (m < t.length) = false := decide_eq_false (by omega)
    go_enter Tryz.func15, Tryz.ntmps15
    go_wp2_with fail
    go_loopw [5] (fun i wr => ∃ k : Nat, i = .int .i64 k ∧ k ≤ t.length ∧ Hid ((t.take k).any bigNd = false) ∧ Hid (wr = w)) (fun i _ => t.length - (intOf i).toNat)
    case atStart => exact ⟨0, rfl, by omega, Lib.hid rfl, Lib.hid rfl⟩
    case round =>
      obtain ⟨k, rfl, hk, HE, HW⟩ := hrel
      obtain rfl := HW.out
      clear HW
      by_cases hlt : k < t.length
      · obtain ⟨a1, e, e1, f1, g1⟩ := at_nd HC.out k hlt
        cases e
        have hk1 : (k : Int) < (c : Int) := by omega
        have hkn : (k : Int) < (t.length : Int) := by omega
        have hk0 : (0 : Int) ≤ (k : Int) := by omega
        obtain ⟨x, hxx⟩ : ∃ x, x = t.getD k default := ⟨_, rfl⟩
        rw [← hxx] at e1 f1 g1
        have hany : (t.take (k + 1)).any bigNd = bigNd x := by
          rw [List.take_succ_eq_append_getElem hlt, List.any_append, HE.out, hxx, List.getD_eq_getElem?_getD, List.getElem?_eq_getElem hlt]
          simp
        have HANY := Lib.hid hany
        clear hany hxx
        by_cases hp : 300 < x.path.length
        · have c1 : decide ((300 : Int) < (x.path.length : Int)) = true := decide_eq_true (by omega)
          have HB : Hid (bigNd x = true) := Lib.hid (by unfold bigNd; rw [decide_eq_true hp]; rfl)
          go_wp2_with fail
          go_ret
          have hg : greatF t m = true := by
            unfold greatF
            rw [Bool.or_eq_true]; right
            rw [List.any_eq_true]
            have h1 := HANY.out
            rw [HB.out, List.any_eq_true] at h1
            obtain ⟨y, hy, h2⟩ := h1
            exact ⟨y, List.mem_of_mem_take hy, h2⟩
          exact ⟨by rw [hg]; rfl, rfl⟩
        · have c1 : decide ((300 : Int) < (x.path.length : Int)) = false := decide_eq_false (by omega)
          by_cases hd : 500 < x.data.length
          · have c2 : decide ((500 : Int) < (x.data.length : Int)) = true := decide_eq_true (by omega)
            have HB : Hid (bigNd x = true) := Lib.hid (by unfold bigNd; rw [decide_eq_true hd, Bool.or_true])
            go_wp2_with fail
            go_ret
            have hg : greatF t m = true := by
              unfold greatF
              rw [Bool.or_eq_true]; right
              rw [List.any_eq_true]
              have h1 := HANY.out
              rw [HB.out, List.any_eq_true] at h1
              obtain ⟨y, hy, h2⟩ := h1
              exact ⟨y, List.mem_of_mem_take hy, h2⟩
            exact ⟨by rw [hg]; rfl, rfl⟩
          · have c2 : decide ((500 : Int) < (x.data.length : Int)) = false := decide_eq_false (by omega)
            have HB : Hid ((t.take (k + 1)).any bigNd = false) := Lib.hid (by rw [HANY.out]; unfold bigNd; rw [decide_eq_false hp, decide_eq_false hd]; rfl)
            go_wp2_with fail
            go_roundw
            case rel => exact ⟨k + 1, by go_num, by omega, HB, trivial⟩
            case measure => simp [intOf]; omega
      · obtain rfl : k = t.length := by omega
        go_wp2_with fail
        go_ret
        have hg : greatF t m = false := by
          have h1 := HE.out
          rw [List.take_length] at h1
          unfold greatF
          rw [h1, b4]; rfl
        exact ⟨by rw [hg]; rfl, rfl⟩
  · have b1 : decide ((t.length : Int) ≤ (m : Int)) = false := decide_eq_false (by omega)
    have b2 : decide ((m : Int) < (t.length : Int)) = true := decide_eq_true (by omega)
    have b3 : decide (t.length ≤ m) = false := decide_eq_false hl
    have b4 : decide (m < t.length) = true := decide_eq_true (by omega)
    have hg : greatF t m = true := by unfold greatF; rw [b4]; rfl
    rw [hg]
    have b5 : decide ((0 : Int) < (t.length : Int)) = true := decide_eq_true (by omega)
    go_enter Tryz.func15, Tryz.ntmps15
    go_wp2_with fail
    go_loopw [5] (fun i wr => i = .int .i64 0 ∧ Hid (wr = w)) (fun _ _ => 0)
    case atStart => exact ⟨rfl, Lib.hid rfl⟩
    case round =>
      obtain ⟨rfl, HW⟩ := hrel
      obtain rfl := HW.out
      clear HW
      go_wp2_with fail
      go_ret
      exact ⟨rfl, rfl⟩
end Go.Proofs.YtbkjjapeojclpaaGreatDoor
