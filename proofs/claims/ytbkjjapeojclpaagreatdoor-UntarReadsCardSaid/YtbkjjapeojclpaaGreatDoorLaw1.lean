/- What the statements share, of nodes. -/
import Derived.Test.YtbkjjapeojclpaaGreatDoorLaw0
import Derived.Test.YtbkjjapeojclpaaGreatDoorWEqStruct
namespace Go.Proofs.YtbkjjapeojclpaaGreatDoor
set_option linter.unusedVariables false
set_option linter.unusedSimpArgs false
open Go.RowKit Go.Proofs.YtbkjjapeojclpaaGreatDoorW.PrintWords
set_option maxHeartbeats 400000

theorem eqNd (d : Nat) (w : World) (x0 y0 : ByteArray) (x1 y1 : Int) (x2 y2 : ByteArray) :
    (Op.equalIn (d + 2) 38 (.agg #[.string x0, .int .i64 x1, .string x2]) (.agg #[.string y0, .int .i64 y1, .string y2])).run Tryz.prog w = .ok (x0.toList == y0.toList && (x1 == y1 && (x2.toList == y2.toList))) w := by
  refine eqA_of Tryz.underlying38 (by kernel_rfl) ?_
  refine eqf_cons (by rfl) (by go_simp; rfl) (by go_simp; rfl) (by go_simp) ?_
  refine eqf_cons (by rfl) (by go_simp; rfl) (by go_simp; rfl) (by go_simp) ?_
  exact eqf_last (by rfl) (by go_simp; rfl) (by go_simp; rfl) (by go_simp)
theorem neqNd (w : World) (x y : Nd) : (binOp .neq 38 (.agg #[.string ⟨x.path.toArray⟩, .int .i64 x.kind, .string ⟨x.data.toArray⟩]) (.agg #[.string ⟨y.path.toArray⟩, .int .i64 y.kind, .string ⟨y.data.toArray⟩])).run Tryz.prog w = .ok (.bool (!decide (x = y))) w := by
  rw [run_neq_struct, eqNd]
  simp only [Result.andThen_ok, Lib.toList_data]
  have e : (x.path == y.path && (x.kind == y.kind && x.data == y.data)) = decide (x = y) := by
    obtain ⟨a, b, c⟩ := x
    obtain ⟨a', b', c'⟩ := y
    rw [Bool.eq_iff_iff]
    simp
  rw [← e]
theorem gdNd (w : World) (a b : Operand) (xs ys : Array Value) : (eqGuard .neq 38 a b (.agg xs) (.agg ys)).run Tryz.prog w = .ok () w := run_eqGuard_agg w .neq _ a b xs ys (by kernel_rfl)
theorem SameNodes_any (A1 A2 : Option Addr) (n1 n2 c1 c2 : Nat) (xs ys : List Nd) (w : World) (h1 : kNd.C w A1 n1 xs) (h2 : kNd.C w A2 n2 ys) (hc1 : n1 ≤ c1) (hc2 : n2 ≤ c2) :
    Calls Tryz.prog 11 #[.slice A1 n1 c1, .slice A2 n2 c2] w fun e w' => e = .returned (.bool (decide (xs = ys))) ∧ Below w.heap.size w w' := by
  have hmx := C_max h1
  have hx := C_len h1
  have hy := C_len h2
  by_cases hn : n1 = n2
  · subst hn
    have H1 := Lib.hid h1
    have H2 := Lib.hid h2
    have HX := Lib.hid hx
    have HY := Lib.hid hy
    clear h1 h2 hx hy
    go_enter Tryz.func11, Tryz.ntmps11
    go_wp2_with fail
    go_loopw [5] (fun i wr => ∃ k : Nat, i = .int .i64 k ∧ k ≤ n1 ∧ Hid (xs.take k = ys.take k) ∧ Hid (Below w.heap.size w wr)) (fun i _ => n1 - (intOf i).toNat)
    case atStart => exact ⟨0, rfl, by omega, Lib.hid rfl, Lib.hid (Below.refl _ _)⟩
    case round =>
      obtain ⟨k, rfl, hk, HE, HB⟩ := hrel
      by_cases hlt : k < n1
      · obtain ⟨a1, e, e1, f1, g1⟩ := at_nd (Kd.C_below H1.out HB.out) k hlt
        cases e
        obtain ⟨a2, e, e2, f2, g2⟩ := at_nd (Kd.C_below H2.out HB.out) k hlt
        cases e
        have hk1 : (k : Int) < (c1 : Int) := by omega
        have hk2 : (k : Int) < (c2 : Int) := by omega
        have hkn : (k : Int) < (n1 : Int) := by omega
        have hk0 : (0 : Int) ≤ (k : Int) := by omega
        obtain ⟨x, hxx⟩ : ∃ x, x = xs.getD k default := ⟨_, rfl⟩
        obtain ⟨y, hyy⟩ : ∃ y, y = ys.getD k default := ⟨_, rfl⟩
        rw [← hxx] at e1 f1 g1
        rw [← hyy] at e2 f2 g2
        have HXX := Lib.hid hxx
        have HYY := Lib.hid hyy
        have hgd := gdNd
        have hnq := fun W => neqNd W x y
        cases hb : decide (x = y) with
        | true =>
          have hxy := of_decide_eq_true hb
          have HE2 : Hid (xs.take (k + 1) = ys.take (k + 1)) := Lib.hid (take_eq_succ HE.out (by rw [HX.out]; omega) (by rw [HY.out]; omega) (by rw [← HXX.out, ← HYY.out]; exact hxy))
          rw [hb] at hnq
          clear hb hxy hxx hyy hlt
          go_wp2_with fail
          go_quiet (fail)
          go_wp2_with fail
          go_roundw
          case rel => exact ⟨k + 1, by go_num, by omega, HE2, Lib.hid (HB.out.trans (below_drewN' _ _ _))⟩
          case measure => simp [intOf]; omega
        | false =>
          have hxy := of_decide_eq_false hb
          have HNE : Hid (¬ xs = ys) := Lib.hid fun e => hxy (by rw [HXX.out, HYY.out, e])
          rw [hb] at hnq
          clear hb hxy hxx hyy hlt
          go_wp2_with fail
          go_quiet (fail)
          go_wp2_with fail
          go_ret
          exact ⟨by rw [decide_eq_false HNE.out]; rfl, HB.out.trans (below_drewN' _ _ _)⟩
      · obtain rfl : k = n1 := by omega
        go_wp2_with fail
        go_ret
        have : xs = ys := by have := HE.out; rwa [List.take_of_length_le (Nat.le_of_eq HX.out), List.take_of_length_le (Nat.le_of_eq HY.out)] at this
        exact ⟨by rw [decide_eq_true this]; rfl, HB.out⟩
  · have b1 : (n1 == n2) = false := beq_eq_false_iff_ne.2 hn
    have b2 : ((n1 : Int) == (n2 : Int)) = false := by rw [beq_eq_false_iff_ne]; omega
    have hne : ¬ xs = ys := fun e => hn (by rw [← hx, ← hy, e])
    clear h1 h2 hx hy
    go_enter Tryz.func11, Tryz.ntmps11
    go_wp2_with fail
    go_ret
    exact ⟨by rw [decide_eq_false hne]; rfl, Below.refl _ _⟩

theorem Low_any (x n : Int) (w : World) (hn : 1 ≤ n) (hn2 : n ≤ 9223372036854775807) :
    Calls Tryz.prog 19 #[.int .i64 x, .int .i64 n] w fun e w' => e = .returned (.int .i64 (IntKind.u64.wrap x % n)) ∧ w = w' := by
  go_enter Tryz.func19, Tryz.ntmps19
  have hw0 : 0 ≤ IntKind.u64.wrap x ∧ IntKind.u64.wrap x < 18446744073709551616 := by rw [IntKind.wrap_u64]; omega
  obtain ⟨y, hy⟩ : ∃ y, y = IntKind.u64.wrap x := ⟨_, rfl⟩
  rw [← hy] at hw0
  have HY := Lib.hid hy.symm
  clear hy
  go_wp2_with (rw [HY.out])
  go_ret
  refine ⟨?_, rfl⟩
  have h2 : 0 ≤ y % n ∧ y % n < n := ⟨Int.emod_nonneg _ (by omega), Int.emod_lt_of_pos _ (by omega)⟩
  have h3 : wrap64 (y % n) = y % n := by unfold wrap64; omega
  show Ending.returned (Value.int .i64 (wrap64 (y % n))) = _
  rw [h3]
end Go.Proofs.YtbkjjapeojclpaaGreatDoor
