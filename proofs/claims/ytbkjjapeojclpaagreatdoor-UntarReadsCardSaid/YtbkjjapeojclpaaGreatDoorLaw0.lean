/- What the statements share. -/
import Derived.Test.YtbkjjapeojclpaaGreatDoorHRead
import Derived.Test.YtbkjjapeojclpaaGreatDoorOwnN
namespace Go.Proofs.YtbkjjapeojclpaaGreatDoor
set_option linter.unusedVariables false
set_option linter.unusedSimpArgs false
open Go.RowKit Go.Proofs.YtbkjjapeojclpaaGreatDoorW.PrintWords
set_option maxHeartbeats 400000

theorem take_eq_succ {α : Type} {xs ys : List α} {k : Nat} {d : α} (h : xs.take k = ys.take k) (h1 : k < xs.length) (h2 : k < ys.length) (he : xs.getD k d = ys.getD k d) : xs.take (k + 1) = ys.take (k + 1) := by
  rw [List.take_succ_eq_append_getElem h1, List.take_succ_eq_append_getElem h2, h]
  rw [List.getD_eq_getElem?_getD, List.getD_eq_getElem?_getD, List.getElem?_eq_getElem h1, List.getElem?_eq_getElem h2] at he
  simp only [Option.getD_some] at he
  rw [he]
theorem SameBytes_any (A1 A2 : Option Addr) (n1 n2 c1 c2 : Nat) (xs ys : List UInt8) (w : World) (h1 : kByte.C w A1 n1 xs) (h2 : kByte.C w A2 n2 ys) (hc1 : n1 ≤ c1) (hc2 : n2 ≤ c2) :
    Calls Tryz.prog 17 #[.slice A1 n1 c1, .slice A2 n2 c2] w fun e w' => e = .returned (.bool (decide (xs = ys))) ∧ Below w.heap.size w w' := by
  have hmx := C_max h1
  have hx := C_len h1
  have hy := C_len h2
  by_cases hn : n1 = n2
  · subst hn
    have H1 := Lib.hid h1
    have H2 := Lib.hid h2
    have HX := Lib.hid hx
    have HY := Lib.hid hy
    clear h1 h2 hx hy
    go_enter Tryz.func17, Tryz.ntmps17
    go_wp2_with fail
    go_loopw [5] (fun i wr => ∃ k : Nat, i = .int .i64 k ∧ k ≤ n1 ∧ Hid (xs.take k = ys.take k) ∧ Hid (Below w.heap.size w wr)) (fun i _ => n1 - (intOf i).toNat)
    case atStart => exact ⟨0, rfl, by omega, Lib.hid rfl, Lib.hid (Below.refl _ _)⟩
    case round =>
      obtain ⟨k, rfl, hk, HE, HB⟩ := hrel
      by_cases hlt : k < n1
      · obtain ⟨a1, e, e1⟩ := at_byte (Kd.C_below H1.out HB.out) k hlt
        cases e
        obtain ⟨a2, e, e2⟩ := at_byte (Kd.C_below H2.out HB.out) k hlt
        cases e
        have hk1 : (k : Int) < (c1 : Int) := by omega
        have hk2 : (k : Int) < (c2 : Int) := by omega
        have hkn : (k : Int) < (n1 : Int) := by omega
        have hk0 : (0 : Int) ≤ (k : Int) := by omega
        obtain ⟨x, hxx⟩ : ∃ x, x = xs.getD k 0 := ⟨_, rfl⟩
        obtain ⟨y, hyy⟩ : ∃ y, y = ys.getD k 0 := ⟨_, rfl⟩
        rw [← hxx] at e1; rw [← hyy] at e2
        have HXX := Lib.hid hxx
        have HYY := Lib.hid hyy
        clear hxx hyy hlt
        cases hb : decide (x = y) with
        | true =>
          have hxy := of_decide_eq_true hb
          have HE2 : Hid (xs.take (k + 1) = ys.take (k + 1)) := Lib.hid (take_eq_succ HE.out (by rw [HX.out]; omega) (by rw [HY.out]; omega) (by rw [← HXX.out, ← HYY.out]; exact hxy))
          have bq : ((x.toNat : Int) == (y.toNat : Int)) = true := by rw [u8i]; exact hb
          clear hb hxy
          go_wp2_with fail
          go_quiet (fail)
          go_wp2_with fail
          go_roundw
          case rel => exact ⟨k + 1, by go_num, by omega, HE2, Lib.hid (HB.out.trans (below_drewN' _ _ _))⟩
          case measure => simp [intOf]; omega
        | false =>
          have hxy := of_decide_eq_false hb
          have HNE : Hid (¬ xs = ys) := Lib.hid fun e => hxy (by rw [HXX.out, HYY.out, e])
          have bq : ((x.toNat : Int) == (y.toNat : Int)) = false := by rw [u8i]; exact hb
          clear hb hxy
          go_wp2_with fail
          go_quiet (fail)
          go_wp2_with fail
          go_ret
          exact ⟨by rw [decide_eq_false HNE.out]; rfl, HB.out.trans (below_drewN' _ _ _)⟩
      · obtain rfl : k = n1 := by omega
        go_wp2_with fail
        go_ret
        have : xs = ys := by have := HE.out; rwa [List.take_of_length_le (Nat.le_of_eq HX.out), List.take_of_length_le (Nat.le_of_eq HY.out)] at this
        exact ⟨by rw [decide_eq_true this]; rfl, HB.out⟩
  · have b1 : (n1 == n2) = false := beq_eq_false_iff_ne.2 hn
    have b2 : ((n1 : Int) == (n2 : Int)) = false := by rw [beq_eq_false_iff_ne]; omega
    have hne : ¬ xs = ys := fun e => hn (by rw [← hx, ← hy, e])
    clear h1 h2 hx hy
    go_enter Tryz.func17, Tryz.ntmps17
    go_wp2_with fail
    go_ret
    exact ⟨by rw [decide_eq_false hne]; rfl, Below.refl _ _⟩
theorem SameTexts_any (A1 A2 : Option Addr) (n1 n2 c1 c2 : Nat) (xs ys : List Bs) (w : World) (h1 : kBs.C w A1 n1 xs) (h2 : kBs.C w A2 n2 ys) (hc1 : n1 ≤ c1) (hc2 : n2 ≤ c2) :
    Calls Tryz.prog 20 #[.slice A1 n1 c1, .slice A2 n2 c2] w fun e w' => e = .returned (.bool (decide (xs = ys))) ∧ Below w.heap.size w w' := by
  have hmx := C_max h1
  have hx := C_len h1
  have hy := C_len h2
  by_cases hn : n1 = n2
  · subst hn
    have H1 := Lib.hid h1
    have H2 := Lib.hid h2
    have HX := Lib.hid hx
    have HY := Lib.hid hy
    clear h1 h2 hx hy
    go_enter Tryz.func20, Tryz.ntmps20
    go_wp2_with fail
    go_loopw [5] (fun i wr => ∃ k : Nat, i = .int .i64 k ∧ k ≤ n1 ∧ Hid (xs.take k = ys.take k) ∧ Hid (Below w.heap.size w wr)) (fun i _ => n1 - (intOf i).toNat)
    case atStart => exact ⟨0, rfl, by omega, Lib.hid rfl, Lib.hid (Below.refl _ _)⟩
    case round =>
      obtain ⟨k, rfl, hk, HE, HB⟩ := hrel
      by_cases hlt : k < n1
      · obtain ⟨a1, e, e1⟩ := at_bs (Kd.C_below H1.out HB.out) k hlt
        cases e
        obtain ⟨a2, e, e2⟩ := at_bs (Kd.C_below H2.out HB.out) k hlt
        cases e
        have hk1 : (k : Int) < (c1 : Int) := by omega
        have hk2 : (k : Int) < (c2 : Int) := by omega
        have hkn : (k : Int) < (n1 : Int) := by omega
        have hk0 : (0 : Int) ≤ (k : Int) := by omega
        obtain ⟨x, hxx⟩ : ∃ x, x = xs.getD k [] := ⟨_, rfl⟩
        obtain ⟨y, hyy⟩ : ∃ y, y = ys.getD k [] := ⟨_, rfl⟩
        rw [← hxx] at e1; rw [← hyy] at e2
        have HXX := Lib.hid hxx
        have HYY := Lib.hid hyy
        clear hxx hyy hlt
        cases hb : decide (x = y) with
        | true =>
          have hxy := of_decide_eq_true hb
          have HE2 : Hid (xs.take (k + 1) = ys.take (k + 1)) := Lib.hid (take_eq_succ HE.out (by rw [HX.out]; omega) (by rw [HY.out]; omega) (by rw [← HXX.out, ← HYY.out]; exact hxy))
          have bq : (x == y) = true := beq_iff_eq.2 hxy
          clear hb hxy
          go_wp2_with fail
          go_quiet (fail)
          go_wp2_with fail
          go_roundw
          case rel => exact ⟨k + 1, by go_num, by omega, HE2, Lib.hid (HB.out.trans (below_drewN' _ _ _))⟩
          case measure => simp [intOf]; omega
        | false =>
          have hxy := of_decide_eq_false hb
          have HNE : Hid (¬ xs = ys) := Lib.hid fun e => hxy (by rw [HXX.out, HYY.out, e])
          have bq : (x == y) = false := beq_eq_false_iff_ne.2 hxy
          clear hb hxy
          go_wp2_with fail
          go_quiet (fail)
          go_wp2_with fail
          go_ret
          exact ⟨by rw [decide_eq_false HNE.out]; rfl, HB.out.trans (below_drewN' _ _ _)⟩
      · obtain rfl : k = n1 := by omega
        go_wp2_with fail
        go_ret
        have : xs = ys := by have := HE.out; rwa [List.take_of_length_le (Nat.le_of_eq HX.out), List.take_of_length_le (Nat.le_of_eq HY.out)] at this
        exact ⟨by rw [decide_eq_true this]; rfl, HB.out⟩
  · have b1 : (n1 == n2) = false := beq_eq_false_iff_ne.2 hn
    have b2 : ((n1 : Int) == (n2 : Int)) = false := by rw [beq_eq_false_iff_ne]; omega
    have hne : ¬ xs = ys := fun e => hn (by rw [← hx, ← hy, e])
    clear h1 h2 hx hy
    go_enter Tryz.func20, Tryz.ntmps20
    go_wp2_with fail
    go_ret
    exact ⟨by rw [decide_eq_false hne]; rfl, Below.refl _ _⟩
end Go.Proofs.YtbkjjapeojclpaaGreatDoor
