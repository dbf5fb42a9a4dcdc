/- What the statements share: what is lent, what is written over. -/
import Derived.Test.YtbkjjapeojclpaaGreatDoorLaw0
import Derived.Test.YtbkjjapeojclpaaGreatDoorLaw1
import Derived.Test.YtbkjjapeojclpaaGreatDoorOwnN
import Derived.Test.YtbkjjapeojclpaaGreatDoorRef12b
import Derived.Deep.Upon
namespace Go.Proofs.YtbkjjapeojclpaaGreatDoor
set_option linter.unusedVariables false
set_option linter.unusedSimpArgs false
open Go.RowKit Go.Proofs.YtbkjjapeojclpaaGreatDoorW.PrintWords
set_option maxHeartbeats 400000
set_option maxRecDepth 100000

theorem Num_any (n : Int) (w : World) : Calls Tryz.prog 12 #[.int .i64 n] w fun e w' => e = .returned (.int .i64 n) ∧ w = w' := by
  go_enter Tryz.func12, Tryz.ntmps12
  go_wp2_with fail
  go_ret
  exact ⟨rfl, rfl⟩
/-- A byte stored into a row. -/
theorem store_at {w : World} {B : Nat} {l : Bs} (h : BytesAt w B l) (k : Nat) (c : UInt8) (hk : k < l.length) :
    BytesAt (w.setCell ⟨B, k, none⟩ (bval c)) B (l.set k c) ∧ w.frozen? ⟨B, k, none⟩ = false ∧ (w.cell? ⟨B, k, none⟩).isSome = true := by
  refine ⟨?_, blk_frozen h k, ?_⟩
  · unfold BytesAt
    rw [blk_set h]
    congr 2
    apply Array.ext'
    rw [Array.toList_setIfInBounds, ← List.map_set]
  · rw [blk_cell h]
    simp
    omega
/-- Bytes put behind none, where there is room. -/
theorem lend_app (b : Bs) (A : Option Addr) (c : Nat) (w : World) (hC : kByte.C w A b.length b) (hl : b.length ≤ 1000000) (ty : TypeId) (B : Nat) (hB : BytesAt w B (rep 0 (b.length + 3))) :
    ∃ w', (Builtin.append_ #[22, 22] ty #[.slice (some ⟨B, 0, none⟩) 0 (b.length + 3), .slice A b.length c]).run Tryz.prog w = .ok (.slice (some ⟨B, 0, none⟩) b.length (b.length + 3)) w' ∧ BytesAt w' B (b ++ rep 0 3) ∧ w.heap.size ≤ w'.heap.size ∧ (∀ k, k ≠ B → w'.heap[k]? = w.heap[k]?) ∧ Below B w w' := by
  obtain ⟨i, hi, hz, hs, hby⟩ := info_byte
  rcases A with _ | ad
  · have h0 : b.length = 0 := by
      rcases Nat.eq_zero_or_pos b.length with h0 | h0
      · exact h0
      · obtain ⟨ad, e, _⟩ := at_byte hC 0 h0
        cases e
    obtain rfl : b = [] := List.eq_nil_of_length_eq_zero h0
    have := run_append_nothing (P := Tryz.prog) w 22 22 ty 5 i Tryz.underlying22 hi (some ⟨B, 0, none⟩) 0 3 (by omega) (.slice none 0 c) (Src.ofNil (w := w) (P := Tryz.prog) (size := i.size) Tryz.underlying22 c)
    exact ⟨w, this, hB, Nat.le_refl _, fun _ _ => rfl, Below.refl _ _⟩
  · have hnews : ∀ j u, (b.map bval)[j]? = some u → w.cell? (ad.add j) = some u := fun j u hj => by
      have hjl : j < b.length := by have := (List.getElem?_eq_some_iff.1 hj).1; simpa using this
      obtain ⟨ad', e, hc⟩ := at_byte hC j hjl
      cases e
      rw [hc, ← hj, List.getElem?_map, List.getD_eq_getElem?_getD, List.getElem?_eq_getElem hjl]
      rfl
    have h1 : ∀ u ∈ b.map bval, u.oneCell' = true := fun u hu => by
      obtain ⟨_, _, rfl⟩ := List.mem_map.1 hu
      rfl
    have hr := run_append_room (P := Tryz.prog) w 22 ty 5 i Tryz.underlying22 hi B 0 (b.length + 3) _ hB ad b.length c (b.map bval) (by rw [hs]; simp) hnews h1 (by omega) (by simp [rep])
    rw [Nat.zero_add] at hr
    refine ⟨_, hr, ?_, by simp [World.setRow], fun k hk => setRow_other w B k _ hk, below_setRow (Below.refl B w) (Nat.le_refl _) _⟩
    have h := setRow_heap w B _ (List.take (0 * i.size) ((rep 0 (b.length + 3)).map bval).toArray.toList ++ b.map bval ++ List.drop (0 * i.size + (b.map bval).length) ((rep 0 (b.length + 3)).map bval).toArray.toList).toArray _ _ hB
    unfold BytesAt
    rw [h]
    congr 2
    simp [rep]
/-- What is lent: a row of the call's own, its spare room marked. -/
def LentPost (w : World) (b : Bs) (e : Ending) (w' : World) : Prop := ∃ B, e = .returned (.slice (some ⟨B, 0, none⟩) b.length (b.length + 3)) ∧ w.heap.size ≤ B ∧ BytesAt w' B (b ++ [119, 119, 119]) ∧ Below w.heap.size w w'
theorem set_mark (b r : Bs) (k : Nat) : (b ++ r).set (b.length + k) 119 = b ++ r.set k 119 := by
  rw [List.set_append_right _ _ (by omega), Nat.add_sub_cancel_left]
theorem LendBytes_any (b : Bs) (A : Option Addr) (c : Nat) (w : World) (hC : kByte.C w A b.length b) (hc : b.length ≤ c) (hl : b.length ≤ 1000000) :
    Calls Tryz.prog 7 #[.slice A b.length c] w (LentPost w b) := by
  have hmk : (Instr.makeSlice 22 (.int .i64 0) (.int .i64 ((b.length : Int) + 3))).run Tryz.prog w = .ok (.slice (some ⟨w.heap.size, 0, none⟩) 0 (b.length + 3)) (w.alloc (.cells ((rep 0 (b.length + 3)).map bval).toArray 5)) := make_bytes 0 (b.length + 3) (by omega) (by omega) w
  have hal : Below w.heap.size w (w.alloc (.cells ((rep 0 (b.length + 3)).map bval).toArray 5)) := (Below.refl _ _).alloc (Nat.le_refl _) _
  obtain ⟨w2, hr2, hB2, hs2, hk2, hb2⟩ := lend_app b A c _ (Kd.C_below hC hal) hl 22 w.heap.size (bytesAt_new w _)
  have hcut := run_cut (some ⟨w.heap.size, 0, none⟩) b.length (b.length + 3) b.length (b.length + 3) (by omega) (by omega)
  rw [if_neg (show ¬ b.length + 3 = b.length from by omega), show b.length + 3 - b.length = 3 from by omega, Option.map_some, add_blk] at hcut
  have HMK := Lib.hid hmk
  have HR2 := Lib.hid hr2
  have HB2 := Lib.hid hB2
  have HBL := Lib.hid (hal.trans hb2)
  have HCUT := Lib.hid hcut
  clear hmk hal hr2 hB2 hs2 hk2 hb2 hcut hC
  go_enter Tryz.func7, Tryz.ntmps7
  go_wp2_with (first | rw [HMK.out] | rw [HCUT.out] | (at_builtin; refine Lib.wpList_append_run _ rfl _ _ _ _ rfl _ _ rfl rfl _ _ HR2.out ?_))
  rw [show b.length + 3 - b.length = 3 from by omega]
  have HB3 : Hid (BytesAt w2 w.heap.size (b ++ (rep 119 0 ++ rep 0 3))) := HB2
  clear HMK HR2 HCUT HB2
  go_loopw [5] (fun i wr => ∃ k : Nat, k ≤ 3 ∧ i = .int .i64 k ∧ Hid (BytesAt wr w.heap.size (b ++ (rep 119 k ++ rep 0 (3 - k)))) ∧ Hid (Below w.heap.size w wr)) (fun i _ => 3 - (intOf i).toNat)
  case atStart => exact ⟨0, by omega, rfl, HB3, HBL⟩
  case round =>
    obtain ⟨k, hk, rfl, HB, HW⟩ := hrel
    clear HB3 HBL
    by_cases hlt : k < 3
    · obtain ⟨hs1, hs2, hs3⟩ := store_at HB.out (b.length + k) 119 (by rw [List.length_append, List.length_append]; simp [rep]; omega)
      rw [set_mark] at hs1
      have hset : (rep 119 k ++ rep 0 (3 - k)).set k 119 = rep 119 (k + 1) ++ rep 0 (3 - (k + 1)) := by
        rcases (show k = 0 ∨ k = 1 ∨ k = 2 from by omega) with rfl | rfl | rfl <;> rfl
      rw [hset] at hs1
      have hw2 := HW.out.setCell (p := ⟨w.heap.size, b.length + k, none⟩) (Nat.le_refl w.heap.size) (bval 119)
      obtain ⟨v0, hv0⟩ := Option.isSome_iff_exists.1 hs3
      have HS1 := Lib.hid hs1
      have HW2 := Lib.hid hw2
      have hki : (k : Int) < 3 := by omega
      have hk0 : (0 : Int) ≤ (k : Int) := by omega
      clear hs1 hs3 hset hw2 HB HW
      unfold bval at HS1 HW2
      rcases (show k = 0 ∨ k = 1 ∨ k = 2 from by omega) with rfl | rfl | rfl <;>
        ((try simp only [Nat.add_zero] at hs2 hv0 HS1 HW2)
         go_wp2_with fail
         go_roundw
         case rel => first | exact ⟨1, by omega, by go_num, HS1, HW2⟩ | exact ⟨2, by omega, by go_num, HS1, HW2⟩ | exact ⟨3, by omega, by go_num, HS1, HW2⟩
         case measure => simp [intOf])
    · obtain rfl : k = 3 := by omega
      go_wp2_with fail
      go_ret
      exact ⟨w.heap.size, rfl, Nat.le_refl _, HB.out, HW.out⟩
/-- It is as it was. -/
theorem KeptBytes_any (b : Bs) (A : Option Addr) (c : Nat) (B : Nat) (w : World) (hB : BytesAt w B (b ++ [119, 119, 119])) (hC : kByte.C w A b.length b) (hc : b.length ≤ c) (hl : b.length ≤ 1000000) :
    Calls Tryz.prog 13 #[.slice (some ⟨B, 0, none⟩) b.length (b.length + 3), .slice A b.length c] w fun e w' => e = .returned (.bool true) ∧ Below w.heap.size w w' := by
  have hb0 : kByte.C w (some ⟨B, 0, none⟩) b.length b := by
    have := C_cut_to (hB.C (by simp; omega)) (hi := b.length) (by simp)
    rwa [List.take_left] at this
  have hsame := fun W (hW : Below w.heap.size w W) => SameBytes_any (some ⟨B, 0, none⟩) A b.length b.length (b.length + 3) c b b W (Kd.C_below hb0 hW) (Kd.C_below hC hW) (by omega) hc
  simp only [decide_true] at hsame
  have hcell : ∀ W, Below w.heap.size w W → ∀ k, k < 3 → W.cell? ⟨B, b.length + k, none⟩ = some (.int .u8 119) := fun W hW k hk => by
    rw [blk_cell (hB.below hW)]
    simp only [List.getElem?_toArray, List.getElem?_map]
    rw [List.getElem?_append_right (by omega), Nat.add_sub_cancel_left]
    rcases (show k = 0 ∨ k = 1 ∨ k = 2 from by omega) with rfl | rfl | rfl <;> rfl
  have HSAME := Lib.hid hsame
  have HCELL := Lib.hid hcell
  clear hsame hcell hb0 hB hC
  go_enter Tryz.func13, Tryz.ntmps13
  go_wp2_with fail
  rw [show b.length + 3 - b.length = 3 from by omega]
  go_loopw [6] (fun i wr => ∃ k : Nat, k ≤ 3 ∧ i = .int .i64 k ∧ Hid (Below w.heap.size w wr)) (fun i _ => 3 - (intOf i).toNat)
  case atStart => exact ⟨0, by omega, rfl, Lib.hid (Below.refl _ _)⟩
  case round =>
    obtain ⟨k, hk, rfl, HW⟩ := hrel
    by_cases hlt : k < 3
    · have hc0 := HCELL.out wr HW.out k hlt
      have hki : (k : Int) < 3 := by omega
      have hk0 : (0 : Int) ≤ (k : Int) := by omega
      rcases (show k = 0 ∨ k = 1 ∨ k = 2 from by omega) with rfl | rfl | rfl <;>
        ((try simp only [Nat.add_zero] at hc0)
         go_wp2_with fail
         go_roundw
         case rel => first | exact ⟨1, by omega, by go_num, HW⟩ | exact ⟨2, by omega, by go_num, HW⟩ | exact ⟨3, by omega, by go_num, HW⟩
         case measure => simp [intOf])
    · obtain rfl : k = 3 := by omega
      go_wp2_with (go_at_call 17; refine (HSAME.out _ HW.out).mono ?_; rintro e w' ⟨rfl, hb⟩)
      go_ret
      exact ⟨rfl, below_two HW.out hb⟩
def overVals : List Value := [.string ⟨#[111, 118, 101, 114]⟩, .int .i64 0, .string ⟨#[]⟩]
/-- A row of nodes' cells, whatever they hold. -/
def OwnV (w : World) (base : Nat) (v : Value) (n : Nat) : Prop := ∃ xs, w.ownsRow base 38 3 v n xs
theorem OwnV.lt {w : World} {base : Nat} {v : Value} {n : Nat} (h : OwnV w base v n) : ∀ k, v.ownBlock = some k → base ≤ k ∧ k < w.heap.size := h.elim fun _ h => World.ownsRow.lt h
theorem OwnV.blk {w w' : World} {base : Nat} {v : Value} {n : Nat} (h : OwnV w base v n) (hr : ∀ k, v.ownBlock = some k → w'.heap[k]? = w.heap[k]?) : OwnV w' base v n := by
  obtain ⟨xs, h⟩ := h
  refine ⟨xs, h.1, ?_⟩
  rcases h.2 with h0 | ⟨g, cap, cur, rfl, hb, hg', r⟩
  · exact .inl h0
  · exact .inr ⟨g, cap, cur, rfl, hb, (hr g rfl).trans hg', r⟩
theorem OwnV.set {w : World} {base g n c : Nat} (h : OwnV w base (.slice (some ⟨g, 0, none⟩) n c) n) (j : Nat) (v : Value) : OwnV (w.setCell ⟨g, j, none⟩ v) base (.slice (some ⟨g, 0, none⟩) n c) n := by
  obtain ⟨xs, h⟩ := h
  rcases h.2 with ⟨hv, h0⟩ | ⟨g', cap, cur, hv, hb, hg, hc, hm, hs, ht⟩
  · cases hv
  · cases hv
    have hl := h.1
    refine ⟨(cur.setIfInBounds j v).toList.take (n * 3), ?_, .inr ⟨g, c, cur.setIfInBounds j v, rfl, hb, blk_set hg j _, hc, hm, by simpa using hs, rfl⟩⟩
    rw [List.length_take, Array.length_toList, Array.size_setIfInBounds]
    omega
theorem OwnV.app1 {w : World} {base : Nat} {A : Option Addr} {n c : Nat} (h : OwnV w base (.slice A n c) n) (ty : TypeId) (ad : Addr) (hx : ∀ j u, overVals[j]? = some u → w.cell? (ad.add j) = some u) (hn : n ≤ 100000) (hb : base ≤ w.heap.size) :
    ∃ v' w', (Builtin.append_ #[25, 25] ty #[.slice A n c, .slice (some ad) 1 1]).run Tryz.prog w = .ok v' w' ∧ w.grownBy w' (Value.slice A n c).ownBlock := by
  obtain ⟨xs, h⟩ := h
  obtain ⟨i, hi, hz, hs, hby⟩ := info_nd
  obtain ⟨v', w', h1', h2, h3, h4, h5⟩ := run_append_own_at (P := Tryz.prog) w base 25 ty 38 i _ 3 40 Tryz.underlying25 hi hz hs hby rfl (by omega) _ n xs h ad 1 1 overVals rfl hx
    (fun u hu => by simp only [overVals, List.mem_cons, List.not_mem_nil, or_false] at hu; rcases hu with rfl | rfl | rfl <;> rfl)
    (by unfold maxLen; omega) (by omega) hb
  exact ⟨v', w', h1', h3⟩
theorem OverNodes_any (base n : Nat) (A : Option Addr) (c : Nat) (w : World) (h : OwnV w base (.slice A n c) n) (hcp : n ≤ c) (hb : base ≤ w.heap.size) (hl : n ≤ 1000) :
    Calls Tryz.prog 14 #[.slice A n c] w fun e w' => e = .returned (.tuple #[]) ∧ Below base w w' := by
  have HO := Lib.hid h
  clear h
  go_enter Tryz.func14, Tryz.ntmps14
  go_wp2_with fail
  go_loopw [2] (fun i wr => ∃ k : Nat, k ≤ n ∧ i = .int .i64 k ∧ Hid (OwnV wr base (.slice A n c) n) ∧ Hid (Below base w wr)) (fun i _ => n - (intOf i).toNat)
  case atStart => exact ⟨0, by omega, rfl, HO, Lib.hid (Below.refl _ _)⟩
  case round =>
    obtain ⟨k, hk, rfl, HO1, HB⟩ := hrel
    by_cases hlt : k < n
    · have hki : (k : Int) < (n : Int) := by omega
      obtain ⟨g, cur, hA, hg, hgb, hcs⟩ : ∃ g cur, A = some ⟨g, 0, none⟩ ∧ wr.heap[g]? = some (.cells cur 38 (0, 0)) ∧ base ≤ g ∧ cur.size = c * 3 := by
        obtain ⟨xs, h⟩ := HO1.out
        rcases h.2 with ⟨hv, h0⟩ | ⟨g, cap, cur, hv, hb, hg, hc, hm, hs, ht⟩
        · omega
        · cases hv; exact ⟨g, cur, rfl, hg, hb, hs⟩
      subst hA
      have c0 : (wr.cell? ⟨g, k * 3, none⟩).isSome = true := by rw [blk_cell hg]; simp; omega
      have c1 : (wr.cell? ⟨g, k * 3 + 1, none⟩).isSome = true := by rw [blk_cell hg]; simp; omega
      have c2 : (wr.cell? ⟨g, k * 3 + 2, none⟩).isSome = true := by rw [blk_cell hg]; simp; omega
      have f0 := blk_frozen hg (k * 3)
      have f1 := blk_frozen hg (k * 3 + 1)
      have f2 := blk_frozen hg (k * 3 + 2)
      obtain ⟨v0, hv0⟩ := Option.isSome_iff_exists.1 c0
      obtain ⟨v1, hv1⟩ := Option.isSome_iff_exists.1 c1
      obtain ⟨v2, hv2⟩ := Option.isSome_iff_exists.1 c2
      clear c0 c1 c2 hg hcs
      go_wp2_with fail
      go_roundw
      case rel => exact ⟨k + 1, by omega, by go_num, Lib.hid (((HO1.out.set _ _).set _ _).set _ _), Lib.hid (((HB.out.setCell (p := ⟨g, k * 3, none⟩) hgb _).setCell (p := ⟨g, k * 3 + 1, none⟩) hgb _).setCell (p := ⟨g, k * 3 + 2, none⟩) hgb _)⟩
      case measure => simp [intOf]; omega
    · obtain rfl : k = n := by omega
      have hbl3 : Below wr.heap.size wr (wr.alloc (.cells overVals.toArray 38)) := (Below.refl _ _).alloc (Nat.le_refl _) _
      have hO3 := HO1.out.blk fun j hj => hbl3.block j (HO1.out.lt j hj).2
      have hB3 := HB.out.trans (hbl3.mono (Nat.le_trans hb HB.out.size))
      have hb3 : base ≤ (wr.alloc (.cells overVals.toArray 38)).heap.size := Nat.le_trans hb hB3.size
      obtain ⟨v4, w4, hr4, hg4⟩ := hO3.app1 25 ⟨wr.heap.size, 0, none⟩ (fun j x hj => by
        rw [add_blk, World.cell?_alloc_new]
        rw [← hj]; simp) (by omega) hb3
      have hfin := hB3.trans ((Below.refl base _).grown hg4 hb3 (fun j e => (hO3.lt j e).1))
      have HR4 := Lib.hid hr4
      have HFIN := Lib.hid hfin
      clear hbl3 hO3 hB3 hb3 hr4 hg4 hfin HO1 HO
      go_wp2_with (at_builtin; refine Lib.wpList_append_run _ rfl _ _ _ _ rfl _ _ rfl rfl _ _ HR4.out ?_)
      go_end0
      exact ⟨rfl, HFIN.out⟩
end Go.Proofs.YtbkjjapeojclpaaGreatDoor
