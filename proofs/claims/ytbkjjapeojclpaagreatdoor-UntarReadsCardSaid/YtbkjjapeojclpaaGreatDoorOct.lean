/- strconv.FormatInt at base 8. -/
import Derived.Test.YtbkjjapeojclpaaGreatDoorBytes
namespace Go.Proofs.YtbkjjapeojclpaaGreatDoor
set_option linter.unusedVariables false
set_option linter.unusedSimpArgs false
open Go.RowKit Go.Proofs.YtbkjjapeojclpaaGreatDoorW.PrintWords
set_option maxHeartbeats 400000
set_option maxRecDepth 100000

theorem tz8 (w : World) (hG : Glob w) :
    Calls Tryz.prog 157 #[.int .u64 8] w fun e w' => e = .returned (.int .i64 3) ∧ w = w' := by
  have hc : w.cell? ⟨7, 7, none⟩ = some (.int .u8 3) := Lib.TabIs.cell hG.tz64 gn_tz64 7 (by decide)
  have hb : bits BinOp.and IntKind.u64 8 (IntKind.u64.wrap (-8)) = 8 := by decide +kernel
  have hw : IntKind.u64.wrap (8 * 285870213051353865) / 288230376151711744 = 7 := by decide +kernel
  go_enter Tryz.func157, Tryz.ntmps157
  go_wp2
  go_ret
  exact ⟨rfl, rfl⟩
theorem tz8' (w : World) (hG : Glob w) :
    Calls Tryz.prog 152 #[.int .u64 8] w fun e w' => e = .returned (.int .i64 3) ∧ w = w' := by
  go_enter Tryz.func152, Tryz.ntmps152
  go_wp2_with (go_at_call 157; refine (tz8 _ hG).mono ?_; rintro e w' ⟨rfl, rfl⟩)
  go_ret
  exact ⟨rfl, rfl⟩
theorem pow8 (w : World) :
    Calls Tryz.prog 151 #[.int .i64 8] w fun e w' => e = .returned (.bool true) ∧ w = w' := by
  have hb : bits BinOp.and IntKind.i64 8 7 = 0 := by decide +kernel
  go_enter Tryz.func151, Tryz.ntmps151
  go_wp2
  go_ret
  exact ⟨rfl, rfl⟩
/-- A digit. -/
def dgt (n : Nat) : UInt8 := UInt8.ofNat (48 + n)
/-- The digits of base 8, none ahead that is 0. -/
def mn8 (n : Nat) : Bs := if n < 8 then [dgt n] else mn8 (n / 8) ++ [dgt (n % 8)]
theorem mn8_lt {n : Nat} (h : n < 8) : mn8 n = [dgt n] := by rw [mn8, if_pos h]
theorem mn8_ge {n : Nat} (h : ¬ n < 8) : mn8 n = mn8 (n / 8) ++ [dgt (n % 8)] := by rw [mn8, if_neg h]
/-- What stands in the block when so many places are left. -/
structure Dig (n i q : Nat) (cs : Array Value) : Prop where
  size : cs.size = 65
  i65 : i ≤ 65
  low : 45 ≤ i
  small : q < 8 ^ (i - 44)
  tail : ∃ D : Bs, i + D.length = 65 ∧ cs.toList.drop i = D.map bval ∧ mn8 q ++ D = mn8 n
theorem blk_cell {w : World} {b : Nat} {cs : Array Value} {t : TypeId} {fr : Nat × Nat} (h : w.heap[b]? = some (.cells cs t fr)) (i : Nat) : w.cell? ⟨b, i, none⟩ = cs[i]? := by simp [World.cell?, h]
theorem blk_frozen {w : World} {b : Nat} {cs : Array Value} {t : TypeId} (h : w.heap[b]? = some (.cells cs t (0, 0))) (i : Nat) : w.frozen? ⟨b, i, none⟩ = false := by simp [World.frozen?, h]
theorem blk_set {w : World} {b : Nat} {cs : Array Value} {t : TypeId} {fr : Nat × Nat} (h : w.heap[b]? = some (.cells cs t fr)) (i : Nat) (v : Value) : (w.setCell ⟨b, i, none⟩ v).heap[b]? = some (.cells (cs.setIfInBounds i v) t fr) := by
  simp only [World.setCell, Array.getElem?_modify, if_pos, h, Option.map_some]
  simp
theorem dig_at (d : Nat) (h : d < 8) (hdd : d < (⟨#[48, 49, 50, 51, 52, 53, 54, 55, 56, 57, 97, 98, 99, 100, 101, 102, 103, 104, 105, 106, 107, 108, 109, 110, 111, 112, 113, 114, 115, 116, 117, 118, 119, 120, 121, 122]⟩ : ByteArray).size) :
    Value.int .u8 (((⟨#[48, 49, 50, 51, 52, 53, 54, 55, 56, 57, 97, 98, 99, 100, 101, 102, 103, 104, 105, 106, 107, 108, 109, 110, 111, 112, 113, 114, 115, 116, 117, 118, 119, 120, 121, 122]⟩ : ByteArray)[d]'hdd).toNat : Int) = bval (dgt d) := by
  match d, h with
  | 0, _ => rfl
  | 1, _ => rfl
  | 2, _ => rfl
  | 3, _ => rfl
  | 4, _ => rfl
  | 5, _ => rfl
  | 6, _ => rfl
  | 7, _ => rfl
theorem Dig.step {n i q : Nat} {cs : Array Value} (h : Dig n i q cs) (hq : ¬ q < 8) : 46 ≤ i ∧ Dig n (i - 1) (q / 8) (cs.setIfInBounds (i - 1) (bval (dgt (q % 8)))) := by
  obtain ⟨h1, h2, h2', h3, D, h4, h5, h6⟩ := h
  have hi : 46 ≤ i := by
    rcases Nat.lt_or_ge i 46 with h | h
    · have : 8 ^ (i - 44) ≤ 8 ^ 1 := Nat.pow_le_pow_right (by omega) (by omega)
      omega
    · exact h
  refine ⟨hi, by simpa using h1, by omega, by omega, ?_, dgt (q % 8) :: D, by simp; omega, ?_, ?_⟩
  · rw [show i - 1 - 44 = (i - 44) - 1 from by omega]
    rw [show i - 44 = (i - 44 - 1) + 1 from by omega, Nat.pow_succ] at h3
    omega
  · rw [Array.toList_setIfInBounds, List.drop_set, if_neg (by omega), Nat.sub_self, List.drop_eq_getElem_cons (by simp; omega), show i - 1 + 1 = i from by omega, h5]
    rfl
  · rw [← h6, mn8_ge hq]; simp

theorem Dig.last {n i q : Nat} {cs : Array Value} (h : Dig n i q cs) (hq : q < 8) : (mn8 n).length = 65 - (i - 1) := by
  obtain ⟨h1, h2, h2', h3, D, h4, h5, h6⟩ := h
  rw [← h6, mn8_lt hq]; simp; omega
theorem Dig.cells {n i q : Nat} {cs : Array Value} (h : Dig n i q cs) (hq : q < 8) (k : Nat) (hk : k < (mn8 n).length) : (cs.setIfInBounds (i - 1) (bval (dgt q)))[i - 1 + k]? = some (bval (mn8 n)[k]) := by
  have hl := h.last hq
  obtain ⟨h1, h2, h2', h3, D, h4, h5, h6⟩ := h
  have e6 : mn8 n = dgt q :: D := by rw [← h6, mn8_lt hq]; rfl
  rw [Array.getElem?_setIfInBounds]
  cases k with
  | zero => rw [if_pos (by omega), if_pos (by omega)]; simp [e6]
  | succ k =>
    rw [if_neg (by omega)]
    have h7 : (cs.toList.drop i)[k]? = (D.map bval)[k]? := by rw [h5]
    rw [List.getElem?_drop, Array.getElem?_toList] at h7
    rw [show i - 1 + (k + 1) = i + k from by omega, h7]
    have hkD : k < D.length := by rw [e6] at hk; simpa using hk
    simp [e6, hkD]

theorem fb8 (n : Nat) (hn : n < 8 ^ 21) (w : World) (hG : Glob w) :
    Calls Tryz.prog 137 #[.slice none 0 0, .int .u64 n, .int .i64 8, .bool false, .bool false] w fun e w' => e = .returned (.tuple #[.slice none 0 0, .string ⟨(mn8 n).toArray⟩]) ∧ Below w.heap.size w w' := by
  have hGa := Lib.hid (fun o => hG.alloc o)
  go_enter Tryz.func137, Tryz.ntmps137
  go_wp2_with (first | (go_at_call 152; refine (tz8' _ (hGa.out _)).mono ?_; rintro e w' ⟨rfl, rfl⟩) | (go_at_call 151; refine (pow8 _).mono ?_; rintro e w' ⟨rfl, rfl⟩))
  go_loopw [1, 13] (fun u i wr => ∃ (q k : Nat) (cs : Array Value), u = .int .u64 q ∧ i = .int .i64 k ∧ q ≤ n ∧ k ≤ 65 ∧ Hid (Dig n k q cs) ∧ Hid (Below w.heap.size w wr) ∧ Hid (wr.heap[w.heap.size]? = some (.cells cs 173 (0, 0)))) (fun u _ _ => (intOf u).toNat)
  case atStart =>
    refine ⟨n, 65, _, rfl, rfl, Nat.le_refl _, Nat.le_refl _, Lib.hid ⟨?_, by omega, by omega, hn, [], rfl, ?_, by simp⟩, Lib.hid ((Below.refl _ _).alloc (Nat.le_refl _) _), Lib.hid (heap_alloc_new w _)⟩
    · kernel_rfl
    · show List.drop 65 (Tryz.zeroCells173).toList = []
      rw [List.drop_eq_nil_iff]; exact Nat.le_of_eq (by kernel_rfl)
  case round =>
    obtain ⟨q, k, cs, rfl, rfl, hq, hk, HD, HB, HW⟩ := hrel
    by_cases h8 : (8 : Int) ≤ (q : Int)
    · obtain ⟨hk46, hd'⟩ := HD.out.step (by omega)
      have HD' := Lib.hid hd'
      clear hd'
      have hand : bits BinOp.and IntKind.u64 (q : Int) 7 = ((q % 8 : Nat) : Int) := by
        rw [show (7 : Int) = ((7 : Nat) : Int) from rfl, u64_and_nat _ _ (by omega) (by omega), show (7 : Nat) = 2 ^ 3 - 1 from rfl, Nat.and_two_pow_sub_one_eq_mod]
      obtain ⟨j, rfl⟩ : ∃ j, k = j + 1 := ⟨k - 1, by omega⟩
      have hcell : ∃ v, wr.cell? ⟨w.heap.size, j, none⟩ = some v := by
        rw [blk_cell HW.out]
        exact ⟨cs[j]'(by have := HD.out.size; omega), Array.getElem?_eq_getElem _⟩
      obtain ⟨v0, hv0⟩ := hcell
      have hfr := blk_frozen HW.out j
      go_wp2
      go_roundw
      case rel =>
        rw [dig_at _ (by omega)]
        exact ⟨q / 8, j, _, rfl, rfl, by omega, by omega, HD', Lib.hid (HB.out.setCell (by simp) _), Lib.hid (blk_set HW.out j _)⟩
      case measure => simp [intOf]; omega
    · have hlow := HD.out.low
      obtain ⟨j, rfl⟩ : ∃ j, k = j + 1 := ⟨k - 1, by omega⟩
      have hcell : ∃ v, wr.cell? ⟨w.heap.size, j, none⟩ = some v := by
        rw [blk_cell HW.out]
        exact ⟨cs[j]'(by have := HD.out.size; omega), Array.getElem?_eq_getElem _⟩
      obtain ⟨v0, hv0⟩ := hcell
      have hfr := blk_frozen HW.out j
      have hal : Tryz.prog.arrayLen 173 = 65 := by kernel_rfl
      have hel : Tryz.prog.elem 173 = 5 := by kernel_rfl
      have hun : Tryz.prog.underlying 173 = some (.array (Tryz.prog.arrayLen 173) (Tryz.prog.elem 173)) := by rw [hal, hel]; exact Tryz.underlying173
      have hsl : ∀ W, (Instr.sliceAt 173 (.pointer (some ⟨w.heap.size, 0, none⟩)) (some (.int .i64 (j : Int))) none none).run Tryz.prog W = .ok (.slice (some ⟨w.heap.size, j, none⟩) (mn8 n).length (65 - j)) W := fun W => by
        rw [run_sliceAt_array_l W 173 ⟨w.heap.size, 0, none⟩ hun .i64 (j : Int) (by omega) (by rw [hal]; omega), hal, hel]
        have hln := HD.out.last (by omega)
        have e1 : (j : Int).toNat = j := Int.toNat_natCast j
        have hsz := sz_byte W
        rw [hsz]
        simp only [Result.andThen, slicedAt, e1, Nat.mul_one, hln]
        rw [if_neg (by omega), add_blk]
        rfl
      have HSL := Lib.hid hsl
      clear hsl hal hel hun
      have hdig := dig_at q (by omega)
      have HDIG := Lib.hid hdig
      clear hdig
      have hcv : (convert 22 9 (.slice (some ⟨w.heap.size, j, none⟩) (mn8 n).length (65 - j))).run Tryz.prog (wr.setCell ⟨w.heap.size, j, none⟩ (bval (dgt q))) = .ok (.string ⟨(mn8 n).toArray⟩) (wr.setCell ⟨w.heap.size, j, none⟩ (bval (dgt q))) := by
        refine run_convert_bytes_back _ _ _ _ ⟨w.heap.size, j, none⟩ (65 - j) (mn8 n) Tryz.underlying22 Tryz.underlying5 Tryz.underlying9 fun k hk' => ?_
        have e1 : (⟨w.heap.size, j, none⟩ : Addr).add k = ⟨w.heap.size, j + k, none⟩ := by unfold Addr.add; split <;> simp_all
        rw [e1, blk_cell (blk_set HW.out j _)]
        exact HD.out.cells (by omega) k hk'
      have HCV := Lib.hid hcv
      clear hcv
      go_wp2_with fail
      rw [HSL.out, HDIG.out]
      go_wp2_with (rw [HCV.out])
      go_ret2
      exact ⟨rfl, HB.out.setCell (Nat.le_refl _) _⟩

theorem FormatInt_any (n : Nat) (hn : n < 8 ^ 20) (w : World) (hG : Glob w) :
    Calls Tryz.prog 103 #[.int .i64 n, .int .i64 8] w fun e w' => e = .returned (.string ⟨(mn8 n).toArray⟩) ∧ Below w.heap.size w w' := by
  have hu : IntKind.u64.wrap (n : Int) = n := by rw [IntKind.wrap_u64]; omega
  have hx : Calls Tryz.prog 118 #[.int .i64 n, .int .i64 8] w fun e w' => e = .returned (.string ⟨(mn8 n).toArray⟩) ∧ Below w.heap.size w w' := by
    go_enter Tryz.func118, Tryz.ntmps118
    go_wp2_with (go_at_call 137; refine (fb8 n (by omega) _ hG).mono ?_; rintro e w' ⟨rfl, hb⟩)
    go_ret
    exact ⟨rfl, hb⟩
  go_enter Tryz.func103, Tryz.ntmps103
  go_wp2_with (go_at_call 118; refine hx.mono ?_; rintro e w' ⟨rfl, hb⟩)
  go_ret
  exact ⟨rfl, hb⟩
end Go.Proofs.YtbkjjapeojclpaaGreatDoor
