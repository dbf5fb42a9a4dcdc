/- The document's own headers: Lay, laid. -/
import Derived.Test.YtbkjjapeojclpaaGreatDoorRef12b
import Derived.Deep.RegionWith
namespace Go.Proofs.YtbkjjapeojclpaaGreatDoor
set_option linter.unusedVariables false
set_option linter.unusedSimpArgs false
open Go.RowKit Go.Proofs.YtbkjjapeojclpaaGreatDoorW.PrintWords
set_option maxHeartbeats 400000
set_option maxRecDepth 100000

/-- A row of 512 bytes of the call's own at block B. -/
structure Row5 (w0 w : World) (B : Nat) (l : Bs) : Prop where
  bytes : BytesAt w B l
  len : l.length = 512
  lo : w0.heap.size ≤ B
  below : Below w0.heap.size w0 w
theorem Row5.drew {w0 w : World} {B : Nat} {l : Bs} (h : Row5 w0 w B l) : Row5 w0 w.drew B l := ⟨h.bytes.below ⟨rfl, rfl, rfl, Nat.le_refl _, fun _ _ => rfl⟩, h.len, h.lo, h.below.trans ⟨rfl, rfl, rfl, Nat.le_refl _, fun _ _ => rfl⟩⟩
theorem Row5.on {w0 w w' : World} {B : Nat} {l : Bs} (h : Row5 w0 w B l) (hb : Below w.heap.size w w') : Row5 w0 w' B l :=
  ⟨h.bytes.below hb, h.len, h.lo, h.below.trans (hb.mono h.below.size)⟩
theorem Row5.put {w0 w : World} {B : Nat} {l : Bs} (h : Row5 w0 w B l) (k : Nat) (s : ByteArray) (hk : k + s.size ≤ 512) (hk' : k < 512) :
    ∃ w', (Builtin.copy_ #[22, 9] 3 #[.slice (some ⟨B, k, none⟩) (512 - k) (512 - k), .string s]).run Tryz.prog w = .ok (goInt s.size) w' ∧ Row5 w0 w' B (putAt l k s.data.toList) := by
  obtain ⟨w', h1, h2, h3, h4⟩ := copy_put h.bytes h.len h.lo h.below k s hk hk'
  exact ⟨w', h1, h2, h3, h.lo, h4⟩
theorem Row5.put' {w0 w : World} {B : Nat} {l : Bs} (h : Row5 w0 w B l) (k m : Nat) (hm : m = 512 - k) (s : ByteArray) (hk : k + s.size ≤ 512) (hk' : k < 512) :
    ∃ w', (Builtin.copy_ #[22, 9] 3 #[.slice (some ⟨B, k, none⟩) m m, .string s]).run Tryz.prog w = .ok (goInt s.size) w' ∧ Row5 w0 w' B (putAt l k s.data.toList) := by
  subst hm
  exact h.put k s hk hk'
theorem Row5.store {w0 w : World} {B : Nat} {l : Bs} (h : Row5 w0 w B l) (k : Nat) (c : UInt8) (hk : k < 512) :
    Row5 w0 (w.setCell ⟨B, k, none⟩ (.int .u8 (c.toNat : Int))) B (putAt l k [c]) ∧ w.frozen? ⟨B, k, none⟩ = false ∧ ∃ v, w.cell? ⟨B, k, none⟩ = some v := by
  obtain ⟨h1, h2, h3, h4, h5⟩ := store_put h.bytes h.len h.lo h.below k c hk
  exact ⟨⟨h1, h2, h.lo, h3⟩, h4, Option.isSome_iff_exists.1 h5⟩
def LaidR (w : World) (r : Bs) (e : Ending) (w' : World) : Prop := ∃ B, e = .returned (.tuple #[.slice (some ⟨B, 0, none⟩) 512 512, .bool true]) ∧ w.heap.size ≤ B ∧ BytesAt w' B r ∧ r.length = 512 ∧ Below w.heap.size w w'
set_option maxHeartbeats 4000000 in
set_option maxHeartbeats 4000000 in
theorem rLay_any (name link : ByteArray) (k : Int) (n : Nat) (w : World) (hn : n < 8 ^ 20) (hs : name.size ≤ 90000) (hls : link.size ≤ 90000) :
    Calls Tryz.prog 34 #[.string name, .int .i64 k, .int .i64 n, .string link] w (LayPost w (headB name.data.toList k n link.data.toList) (headR name.data.toList k n link.data.toList)) := by
  cases hm : mayB name.data.toList k n link.data.toList with
  | false => exact rLay_bad name link k n w hn hs hls hm
  | true =>
    have hml := mayB_len hm
    have hm' := hm
    have hz1 := rzero_any name w hs
    have hz2 := rzero_any link w hls
    have hl1 := size_len name
    have hl2 := size_len link
    unfold mayB textB at hm'
    simp only [Bool.and_eq_true, decide_eq_true_eq, Bool.not_eq_true'] at hm'
    obtain ⟨⟨⟨⟨⟨⟨e1, c1, z1⟩, c2, z2⟩, k1⟩, k5⟩, hlk⟩, hnk⟩ := hm'
    rw [z1] at hz1
    rw [z2] at hz2
    rw [← hl1] at c1
    rw [← hl2] at c2
    have q1 : name.toList.isEmpty = false := by rw [Lib.toList_data]; exact e1
    have b1 : decide ((100 : Int) < (name.size : Int)) = false := decide_eq_false (by omega)
    have b2 : decide ((100 : Int) < (link.size : Int)) = false := decide_eq_false (by omega)
    have b3 : decide (k < 1) = false := decide_eq_false (by omega)
    have b4 : decide (5 < k) = false := decide_eq_false (by omega)
    have hk3 : (k = 1 ∧ ((n : Int) != 0) = false ∧ link.toList.isEmpty = true) ∨ (k = 4 ∧ ((n : Int) != 0) = false ∧ link.toList.isEmpty = false) ∨ ((k == 1) = false ∧ (k == 4) = false ∧ link.toList.isEmpty = true) := by
      have h0 := eq_of_beq hlk
      rw [← Lib.toList_data] at h0
      have hn0 : ((n : Int) == 0) = true → ((n : Int) != 0) = false := fun h => by rw [eq_of_beq h]; rfl
      by_cases h1 : k = 1
      · subst h1
        refine .inl ⟨rfl, hn0 ?_, by simpa using h0⟩
        simpa using hnk
      · by_cases h4 : k = 4
        · subst h4
          refine .inr (.inl ⟨rfl, hn0 ?_, by simpa using h0⟩)
          simpa using hnk
        · have e4 : (k == 4) = false := beq_eq_false_iff_ne.2 h4
          rw [e4] at h0
          exact .inr (.inr ⟨beq_eq_false_iff_ne.2 h1, e4, by simpa using h0⟩)
    have hoct := fun W => rOctal_any n 11 (by omega) (by omega) hn W
    have hHB : headB name.data.toList k n link.data.toList = octB n 11 := by unfold headB; rw [hm, Int.toNat_natCast, decide_eq_true (by omega)]; rfl
    have HHB := Lib.hid hHB
    have HZ1 := Lib.hid hz1
    have HZ2 := Lib.hid hz2
    have HML := Lib.hid hml
    clear hm hml hz1 hz2 hl1 hl2 e1 z1 z2 hlk hnk hHB
    cases hob : octB n 11 with
    | false =>
      rw [hob] at hoct HHB
      refine rLay_no name link k n w HHB.out ?_
      have HOCT := Lib.hid hoct
      clear hoct hob
      rcases hk3 with ⟨rfl, t1, t2⟩ | ⟨rfl, t1, t2⟩ | ⟨t0, t1, t2⟩
      all_goals
        go_enter Tryz.func34, Tryz.ntmps34
        go_wp2_with fail
        refine HZ1.out.mono ?_
        rintro e w1 ⟨rfl, rfl⟩
        go_wp2_with fail
        refine HZ2.out.mono ?_
        rintro e w1 ⟨rfl, rfl⟩
        go_wp2_with fail
        refine (HOCT.out _).mono ?_
        rintro e w1 ⟨rfl, hb1⟩
        go_wp2_with fail
        go_ret2
        exact ⟨rfl, hb1⟩
    | true =>
      rw [hob] at hoct HHB
      have HOCT := Lib.hid hoct
      obtain ⟨D, hD⟩ : ∃ D, D = octR n 11 := ⟨_, rfl⟩
      obtain ⟨HRS, hHRS⟩ : ∃ R, R = headR name.data.toList k n link.data.toList := ⟨_, rfl⟩
      have hdl := oct_len hob
      rw [← hHRS]
      have hHR : HRS = putAt (laid0 name.data.toList D k link.data.toList) 148 (octR (sumOf (laid0 name.data.toList D k link.data.toList)) 6 ++ [0, 32]) := by
        rw [hHRS, hD]; unfold headR; rw [Int.toNat_natCast]
      rw [← hD] at hdl
      have hDs : (⟨D.toArray⟩ : ByteArray).size = 11 := by rw [size_len]; exact hdl
      have hms : (⟨(modeOf k).toArray⟩ : ByteArray).size = 7 := by rw [size_len]; exact mode_len k
      obtain ⟨l0, hl0⟩ : ∃ l0, l0 = laid0 name.data.toList D k link.data.toList := ⟨_, rfl⟩
      rw [← hl0] at hHR
      have HL0 := Lib.hid hl0
      have HHR := Lib.hid hHR
      rw [← hD] at HOCT
      clear hoct hob hD hHRS hHR hdl hl0
      rw [HHB.out]
      refine Calls.mono (?_ : Calls Tryz.prog _ _ w (LaidR w HRS)) fun e w' h => by unfold LayPost; rw [if_pos rfl]; exact h
      rcases hk3 with ⟨rfl, t1, t2⟩ | ⟨rfl, t1, t2⟩ | ⟨t0, t1, t2⟩
      · go_enter Tryz.func34, Tryz.ntmps34
        go_wp2_with fail
        refine HZ1.out.mono ?_
        rintro e w1 ⟨rfl, rfl⟩
        go_wp2_with fail
        refine HZ2.out.mono ?_
        rintro e w1 ⟨rfl, rfl⟩
        go_wp2_with fail
        refine (HOCT.out _).mono ?_
        rintro e w1 ⟨rfl, hb1⟩
        go_wp2_with fail
        have hmk : (Instr.makeSlice 22 (.int .i64 512) (.int .i64 512)).run Tryz.prog w1 = _ := make_bytes 512 512 (by omega) (by omega) w1
        rw [hmk]
        clear hmk
        have HW : Hid (Row5 w (w1.alloc (.cells (List.map bval (rep 0 512)).toArray 5)) w1.heap.size (rep 0 512)) := Lib.hid
          ⟨bytesAt_new _ _, by simp [rep], hb1.size, hb1.alloc hb1.size _⟩
        obtain ⟨W0, hW0⟩ : ∃ W, W = w1.alloc (.cells (List.map bval (rep 0 512)).toArray 5) := ⟨_, rfl⟩
        obtain ⟨B, hB⟩ : ∃ B, B = w1.heap.size := ⟨_, rfl⟩
        rw [← hW0, ← hB] at HW
        rw [← hW0, ← hB]
        obtain ⟨W1, hr1, hw1⟩ := HW.out.put 0 name (by omega) (by omega)
        have HR1 := Lib.hid hr1
        have HW1 := Lib.hid hw1
        clear hW0 hB hr1 hw1 HW hb1 HZ1 HZ2
        go_wp2_with (rw [HR1.out])
        go_region_with (go_at_call 54; refine (rmode_any 1 _ (by omega) (by omega)).mono ?_; rintro e w2 ⟨rfl, hbm⟩; obtain ⟨W2, hr2, hw2⟩ := (HW1.out.drew.on hbm).put' 100 412 rfl ⟨(modeOf 1).toArray⟩ (by omega) (by omega))
        have HW2 := Lib.hid hw2
        obtain ⟨W3, hr3, hw3⟩ := hw2.put' 108 404 rfl ⟨#[48, 48, 48, 48, 48, 48, 48]⟩ (by decide) (by omega)
        obtain ⟨W4, hr4, hw4⟩ := hw3.put' 116 396 rfl ⟨#[48, 48, 48, 48, 48, 48, 48]⟩ (by decide) (by omega)
        obtain ⟨W5, hr5, hw5⟩ := hw4.put' 124 388 rfl ⟨D.toArray⟩ (by omega) (by omega)
        obtain ⟨W6, hr6, hw6⟩ := hw5.put' 136 376 rfl ⟨#[48, 48, 48, 48, 48, 48, 48, 48, 48, 48, 48]⟩ (by decide) (by omega)
        obtain ⟨W7, hr7, hw7⟩ := hw6.put' 148 364 rfl ⟨#[32, 32, 32, 32, 32, 32, 32, 32]⟩ (by decide) (by omega)
        obtain ⟨C, hCC⟩ : ∃ C, C = letterOf 1 := ⟨_, rfl⟩
        have hlet := fun W => rletter_any 1 W (by omega) (by omega)
        rw [← hCC] at hlet
        obtain ⟨hw8, hfz, v8, hv8⟩ := hw7.store 156 C (by omega)
        obtain ⟨W8, hW8⟩ : ∃ W, W = W7.setCell ⟨B, 156, none⟩ (.int .u8 (C.toNat : Int)) := ⟨_, rfl⟩
        rw [← hW8] at hw8
        obtain ⟨W9, hr9, hw9⟩ := hw8.put' 157 355 rfl link (by omega) (by omega)
        obtain ⟨W10, hr10, hw10⟩ := hw9.put' 257 255 rfl ⟨#[117, 115, 116, 97, 114, 0, 48, 48]⟩ (by decide) (by omega)
        have HW10 : Hid (Row5 w W10 B l0) := Lib.hid (by
          rw [HL0.out]
          rw [hCC] at hw10
          have hsg : ([letterOf 1] : Bs) = signOf 1 := letter_sign.symm
          rw [hsg] at hw10
          exact hw10)
        have HR3 := Lib.hid hr3
        have HR4 := Lib.hid hr4
        have HR5 := Lib.hid hr5
        have HR6 := Lib.hid hr6
        have HR7 := Lib.hid hr7
        have HR9 := Lib.hid hr9
        have HR10 := Lib.hid hr10
        have HW8 := Lib.hid hW8.symm
        have HLET := Lib.hid hlet
        clear hr2 hw2 hr3 hw3 hr4 hw4 hr5 hw5 hr6 hw6 hr7 hw7 hw8 hW8 hr9 hw9 hr10 hw10 hlet hCC hbm HW1 HR1 HW2
        go_wp2_with (first | rw [HR3.out] | rw [HR4.out] | rw [HR5.out] | rw [HR6.out] | rw [HR7.out] | rw [HW8.out] | rw [HR9.out] | rw [HR10.out] | (go_at_call 55; (with_reducible refine (HLET.out _).mono ?_); rintro e w' ⟨rfl, rfl⟩))
        clear HR3 HR4 HR5 HR6 HR7 HR9 HR10 HW8 HLET hfz hv8
        obtain ⟨lsum, hls⟩ : ∃ m, m = sumOf l0 := ⟨_, rfl⟩
        have hoct6 := rOctal_any lsum 6 (by omega) (by omega) (by
          have h1 := sumOf_le l0
          have h2 := HW10.out.len
          rw [hls]; omega) W10
        have hol : (octR lsum 6).length ≤ 6 := oct_le _ _
        have hrr : HRS = putAt l0 148 (octR lsum 6 ++ [0, 32]) := by rw [HHR.out, hls]
        obtain ⟨R, hR⟩ : ∃ R, R = octR lsum 6 := ⟨_, rfl⟩
        obtain ⟨ob, hob⟩ : ∃ ob, ob = octB lsum 6 := ⟨_, rfl⟩
        rw [← hR, ← hob] at hoct6
        rw [← hR] at hol hrr
        have HO6 := Lib.hid hoct6
        have HRR := Lib.hid hrr
        have HLS := Lib.hid hls
        have hsz : (⟨R.toArray⟩ : ByteArray).size ≤ 6 := by rw [size_len]; exact hol
        clear hR hob hoct6 hrr hls HHR HOCT HL0 hol HML
        go_loop [13, 14] (fun sm i => ∃ (j : Nat) (sk : Nat), j ≤ 512 ∧ sk ≤ 130560 ∧ i = .int .i64 j ∧ sm = .int .i64 sk ∧ Hid (sk = sumOf (l0.take j))) (fun _ i => 512 - (intOf i).toNat)
        case atStart => exact ⟨0, 0, by omega, by omega, rfl, rfl, Lib.hid rfl⟩
        case round =>
          obtain ⟨j, sk, hj, hsb, rfl, rfl, HSK⟩ := hrel
          by_cases hlt : j < 512
          · have hcell : W10.cell? ⟨B, j, none⟩ = some (.int .u8 (l0.getD j 0).toNat) := by
              obtain ⟨ad, e, h⟩ := at_byte (HW10.out.bytes.C (by have := HW10.out.len; omega)) j (by have := HW10.out.len; omega)
              cases e
              rwa [add_blk] at h
            have hx : (l0.getD j 0).toNat < 256 := (l0.getD j 0).toNat_lt
            have HS1 : Hid (sk + (l0.getD j 0).toNat = sumOf (l0.take (j + 1))) := Lib.hid (by rw [sumOf_succ l0 j (by have := HW10.out.len; omega), HSK.out])
            have hs2 : sk + (l0.getD j 0).toNat ≤ 130560 := by
              rw [HS1.out]
              have h1 := sumOf_le (l0.take (j + 1))
              have h2 : (l0.take (j + 1)).length ≤ 512 := by rw [List.length_take]; omega
              omega
            obtain ⟨x, hxx⟩ : ∃ x, x = (l0.getD j 0).toNat := ⟨_, rfl⟩
            rw [← hxx] at HS1 hs2 hx hcell
            clear hxx
            have dlt : decide ((j : Int) < 512) = true := decide_eq_true (by omega)
            have hlti : (j : Int) < 512 := by omega
            have hk0 : (0 : Int) ≤ (j : Int) := by omega
            have h512 : j + 1 ≤ 512 := by omega
            clear hlt hj
            go_wp2_with fail
            go_round
            case rel => exact ⟨j + 1, sk + x, h512, hs2, by go_num, by go_num, HS1⟩
            case measure => simp [intOf]; omega
          · obtain rfl : j = 512 := by omega
            have hskl : sk = lsum := by rw [HSK.out, HLS.out, List.take_of_length_le (by have := HW10.out.len; omega)]
            subst hskl
            go_wp2_with fail
            refine HO6.out.mono ?_
            rintro e w11 ⟨rfl, hb11⟩
            have happ : (⟨R.toArray⟩ : ByteArray) ++ ⟨#[0, 32]⟩ = ⟨(R ++ [0, 32]).toArray⟩ := mk_append R [0, 32]
            have hsum : (⟨R.toArray⟩ : ByteArray).size + (⟨#[0, 32]⟩ : ByteArray).size ≤ 9223372036854775807 := by show _ + 2 ≤ _; omega
            have hsum' : (⟨R.toArray⟩ : ByteArray).size + 2 ≤ 9223372036854775807 := by omega
            have HAPP := Lib.hid happ
            obtain ⟨W12, hr12, hw12⟩ := (HW10.out.on hb11).put' 148 364 rfl ⟨(R ++ [0, 32]).toArray⟩ (by rw [size_len]; show 148 + (R ++ [0, 32]).length ≤ _; rw [size_len] at hsz; rw [List.length_append]; show 148 + ((⟨R.toArray⟩ : ByteArray).data.toList.length + 2) ≤ _; omega) (by omega)
            have HR12 := Lib.hid hr12
            have HW12 := Lib.hid hw12
            clear happ hr12 hw12 hb11
            go_wp2_with (first | rw [HAPP.out] | rw [HR12.out])
            go_ret2
            rw [HRR.out]
            exact ⟨B, rfl, HW12.out.lo, HW12.out.bytes, HW12.out.len, HW12.out.below⟩
      · go_enter Tryz.func34, Tryz.ntmps34
        go_wp2_with fail
        refine HZ1.out.mono ?_
        rintro e w1 ⟨rfl, rfl⟩
        go_wp2_with fail
        refine HZ2.out.mono ?_
        rintro e w1 ⟨rfl, rfl⟩
        go_wp2_with fail
        refine (HOCT.out _).mono ?_
        rintro e w1 ⟨rfl, hb1⟩
        go_wp2_with fail
        have hmk : (Instr.makeSlice 22 (.int .i64 512) (.int .i64 512)).run Tryz.prog w1 = _ := make_bytes 512 512 (by omega) (by omega) w1
        rw [hmk]
        clear hmk
        have HW : Hid (Row5 w (w1.alloc (.cells (List.map bval (rep 0 512)).toArray 5)) w1.heap.size (rep 0 512)) := Lib.hid
          ⟨bytesAt_new _ _, by simp [rep], hb1.size, hb1.alloc hb1.size _⟩
        obtain ⟨W0, hW0⟩ : ∃ W, W = w1.alloc (.cells (List.map bval (rep 0 512)).toArray 5) := ⟨_, rfl⟩
        obtain ⟨B, hB⟩ : ∃ B, B = w1.heap.size := ⟨_, rfl⟩
        rw [← hW0, ← hB] at HW
        rw [← hW0, ← hB]
        obtain ⟨W1, hr1, hw1⟩ := HW.out.put 0 name (by omega) (by omega)
        have HR1 := Lib.hid hr1
        have HW1 := Lib.hid hw1
        clear hW0 hB hr1 hw1 HW hb1 HZ1 HZ2
        go_wp2_with (rw [HR1.out])
        go_region_with (go_at_call 54; refine (rmode_any 4 _ (by omega) (by omega)).mono ?_; rintro e w2 ⟨rfl, hbm⟩; obtain ⟨W2, hr2, hw2⟩ := (HW1.out.drew.on hbm).put' 100 412 rfl ⟨(modeOf 4).toArray⟩ (by omega) (by omega))
        have HW2 := Lib.hid hw2
        obtain ⟨W3, hr3, hw3⟩ := hw2.put' 108 404 rfl ⟨#[48, 48, 48, 48, 48, 48, 48]⟩ (by decide) (by omega)
        obtain ⟨W4, hr4, hw4⟩ := hw3.put' 116 396 rfl ⟨#[48, 48, 48, 48, 48, 48, 48]⟩ (by decide) (by omega)
        obtain ⟨W5, hr5, hw5⟩ := hw4.put' 124 388 rfl ⟨D.toArray⟩ (by omega) (by omega)
        obtain ⟨W6, hr6, hw6⟩ := hw5.put' 136 376 rfl ⟨#[48, 48, 48, 48, 48, 48, 48, 48, 48, 48, 48]⟩ (by decide) (by omega)
        obtain ⟨W7, hr7, hw7⟩ := hw6.put' 148 364 rfl ⟨#[32, 32, 32, 32, 32, 32, 32, 32]⟩ (by decide) (by omega)
        obtain ⟨C, hCC⟩ : ∃ C, C = letterOf 4 := ⟨_, rfl⟩
        have hlet := fun W => rletter_any 4 W (by omega) (by omega)
        rw [← hCC] at hlet
        obtain ⟨hw8, hfz, v8, hv8⟩ := hw7.store 156 C (by omega)
        obtain ⟨W8, hW8⟩ : ∃ W, W = W7.setCell ⟨B, 156, none⟩ (.int .u8 (C.toNat : Int)) := ⟨_, rfl⟩
        rw [← hW8] at hw8
        obtain ⟨W9, hr9, hw9⟩ := hw8.put' 157 355 rfl link (by omega) (by omega)
        obtain ⟨W10, hr10, hw10⟩ := hw9.put' 257 255 rfl ⟨#[117, 115, 116, 97, 114, 0, 48, 48]⟩ (by decide) (by omega)
        have HW10 : Hid (Row5 w W10 B l0) := Lib.hid (by
          rw [HL0.out]
          rw [hCC] at hw10
          have hsg : ([letterOf 4] : Bs) = signOf 4 := letter_sign.symm
          rw [hsg] at hw10
          exact hw10)
        have HR3 := Lib.hid hr3
        have HR4 := Lib.hid hr4
        have HR5 := Lib.hid hr5
        have HR6 := Lib.hid hr6
        have HR7 := Lib.hid hr7
        have HR9 := Lib.hid hr9
        have HR10 := Lib.hid hr10
        have HW8 := Lib.hid hW8.symm
        have HLET := Lib.hid hlet
        clear hr2 hw2 hr3 hw3 hr4 hw4 hr5 hw5 hr6 hw6 hr7 hw7 hw8 hW8 hr9 hw9 hr10 hw10 hlet hCC hbm HW1 HR1 HW2
        go_wp2_with (first | rw [HR3.out] | rw [HR4.out] | rw [HR5.out] | rw [HR6.out] | rw [HR7.out] | rw [HW8.out] | rw [HR9.out] | rw [HR10.out] | (go_at_call 55; (with_reducible refine (HLET.out _).mono ?_); rintro e w' ⟨rfl, rfl⟩))
        clear HR3 HR4 HR5 HR6 HR7 HR9 HR10 HW8 HLET hfz hv8
        obtain ⟨lsum, hls⟩ : ∃ m, m = sumOf l0 := ⟨_, rfl⟩
        have hoct6 := rOctal_any lsum 6 (by omega) (by omega) (by
          have h1 := sumOf_le l0
          have h2 := HW10.out.len
          rw [hls]; omega) W10
        have hol : (octR lsum 6).length ≤ 6 := oct_le _ _
        have hrr : HRS = putAt l0 148 (octR lsum 6 ++ [0, 32]) := by rw [HHR.out, hls]
        obtain ⟨R, hR⟩ : ∃ R, R = octR lsum 6 := ⟨_, rfl⟩
        obtain ⟨ob, hob⟩ : ∃ ob, ob = octB lsum 6 := ⟨_, rfl⟩
        rw [← hR, ← hob] at hoct6
        rw [← hR] at hol hrr
        have HO6 := Lib.hid hoct6
        have HRR := Lib.hid hrr
        have HLS := Lib.hid hls
        have hsz : (⟨R.toArray⟩ : ByteArray).size ≤ 6 := by rw [size_len]; exact hol
        clear hR hob hoct6 hrr hls HHR HOCT HL0 hol HML
        go_loop [13, 14] (fun sm i => ∃ (j : Nat) (sk : Nat), j ≤ 512 ∧ sk ≤ 130560 ∧ i = .int .i64 j ∧ sm = .int .i64 sk ∧ Hid (sk = sumOf (l0.take j))) (fun _ i => 512 - (intOf i).toNat)
        case atStart => exact ⟨0, 0, by omega, by omega, rfl, rfl, Lib.hid rfl⟩
        case round =>
          obtain ⟨j, sk, hj, hsb, rfl, rfl, HSK⟩ := hrel
          by_cases hlt : j < 512
          · have hcell : W10.cell? ⟨B, j, none⟩ = some (.int .u8 (l0.getD j 0).toNat) := by
              obtain ⟨ad, e, h⟩ := at_byte (HW10.out.bytes.C (by have := HW10.out.len; omega)) j (by have := HW10.out.len; omega)
              cases e
              rwa [add_blk] at h
            have hx : (l0.getD j 0).toNat < 256 := (l0.getD j 0).toNat_lt
            have HS1 : Hid (sk + (l0.getD j 0).toNat = sumOf (l0.take (j + 1))) := Lib.hid (by rw [sumOf_succ l0 j (by have := HW10.out.len; omega), HSK.out])
            have hs2 : sk + (l0.getD j 0).toNat ≤ 130560 := by
              rw [HS1.out]
              have h1 := sumOf_le (l0.take (j + 1))
              have h2 : (l0.take (j + 1)).length ≤ 512 := by rw [List.length_take]; omega
              omega
            obtain ⟨x, hxx⟩ : ∃ x, x = (l0.getD j 0).toNat := ⟨_, rfl⟩
            rw [← hxx] at HS1 hs2 hx hcell
            clear hxx
            have dlt : decide ((j : Int) < 512) = true := decide_eq_true (by omega)
            have hlti : (j : Int) < 512 := by omega
            have hk0 : (0 : Int) ≤ (j : Int) := by omega
            have h512 : j + 1 ≤ 512 := by omega
            clear hlt hj
            go_wp2_with fail
            go_round
            case rel => exact ⟨j + 1, sk + x, h512, hs2, by go_num, by go_num, HS1⟩
            case measure => simp [intOf]; omega
          · obtain rfl : j = 512 := by omega
            have hskl : sk = lsum := by rw [HSK.out, HLS.out, List.take_of_length_le (by have := HW10.out.len; omega)]
            subst hskl
            go_wp2_with fail
            refine HO6.out.mono ?_
            rintro e w11 ⟨rfl, hb11⟩
            have happ : (⟨R.toArray⟩ : ByteArray) ++ ⟨#[0, 32]⟩ = ⟨(R ++ [0, 32]).toArray⟩ := mk_append R [0, 32]
            have hsum : (⟨R.toArray⟩ : ByteArray).size + (⟨#[0, 32]⟩ : ByteArray).size ≤ 9223372036854775807 := by show _ + 2 ≤ _; omega
            have hsum' : (⟨R.toArray⟩ : ByteArray).size + 2 ≤ 9223372036854775807 := by omega
            have HAPP := Lib.hid happ
            obtain ⟨W12, hr12, hw12⟩ := (HW10.out.on hb11).put' 148 364 rfl ⟨(R ++ [0, 32]).toArray⟩ (by rw [size_len]; show 148 + (R ++ [0, 32]).length ≤ _; rw [size_len] at hsz; rw [List.length_append]; show 148 + ((⟨R.toArray⟩ : ByteArray).data.toList.length + 2) ≤ _; omega) (by omega)
            have HR12 := Lib.hid hr12
            have HW12 := Lib.hid hw12
            clear happ hr12 hw12 hb11
            go_wp2_with (first | rw [HAPP.out] | rw [HR12.out])
            go_ret2
            rw [HRR.out]
            exact ⟨B, rfl, HW12.out.lo, HW12.out.bytes, HW12.out.len, HW12.out.below⟩
      · go_enter Tryz.func34, Tryz.ntmps34
        go_wp2_with fail
        refine HZ1.out.mono ?_
        rintro e w1 ⟨rfl, rfl⟩
        go_wp2_with fail
        refine HZ2.out.mono ?_
        rintro e w1 ⟨rfl, rfl⟩
        go_wp2_with fail
        refine (HOCT.out _).mono ?_
        rintro e w1 ⟨rfl, hb1⟩
        go_wp2_with fail
        have hmk : (Instr.makeSlice 22 (.int .i64 512) (.int .i64 512)).run Tryz.prog w1 = _ := make_bytes 512 512 (by omega) (by omega) w1
        rw [hmk]
        clear hmk
        have HW : Hid (Row5 w (w1.alloc (.cells (List.map bval (rep 0 512)).toArray 5)) w1.heap.size (rep 0 512)) := Lib.hid
          ⟨bytesAt_new _ _, by simp [rep], hb1.size, hb1.alloc hb1.size _⟩
        obtain ⟨W0, hW0⟩ : ∃ W, W = w1.alloc (.cells (List.map bval (rep 0 512)).toArray 5) := ⟨_, rfl⟩
        obtain ⟨B, hB⟩ : ∃ B, B = w1.heap.size := ⟨_, rfl⟩
        rw [← hW0, ← hB] at HW
        rw [← hW0, ← hB]
        obtain ⟨W1, hr1, hw1⟩ := HW.out.put 0 name (by omega) (by omega)
        have HR1 := Lib.hid hr1
        have HW1 := Lib.hid hw1
        clear hW0 hB hr1 hw1 HW hb1 HZ1 HZ2
        go_wp2_with (rw [HR1.out])
        go_region_with (go_at_call 54; refine (rmode_any k _ (by omega) (by omega)).mono ?_; rintro e w2 ⟨rfl, hbm⟩; obtain ⟨W2, hr2, hw2⟩ := (HW1.out.drew.on hbm).put' 100 412 rfl ⟨(modeOf k).toArray⟩ (by omega) (by omega))
        have HW2 := Lib.hid hw2
        obtain ⟨W3, hr3, hw3⟩ := hw2.put' 108 404 rfl ⟨#[48, 48, 48, 48, 48, 48, 48]⟩ (by decide) (by omega)
        obtain ⟨W4, hr4, hw4⟩ := hw3.put' 116 396 rfl ⟨#[48, 48, 48, 48, 48, 48, 48]⟩ (by decide) (by omega)
        obtain ⟨W5, hr5, hw5⟩ := hw4.put' 124 388 rfl ⟨D.toArray⟩ (by omega) (by omega)
        obtain ⟨W6, hr6, hw6⟩ := hw5.put' 136 376 rfl ⟨#[48, 48, 48, 48, 48, 48, 48, 48, 48, 48, 48]⟩ (by decide) (by omega)
        obtain ⟨W7, hr7, hw7⟩ := hw6.put' 148 364 rfl ⟨#[32, 32, 32, 32, 32, 32, 32, 32]⟩ (by decide) (by omega)
        obtain ⟨C, hCC⟩ : ∃ C, C = letterOf k := ⟨_, rfl⟩
        have hlet := fun W => rletter_any k W (by omega) (by omega)
        rw [← hCC] at hlet
        obtain ⟨hw8, hfz, v8, hv8⟩ := hw7.store 156 C (by omega)
        obtain ⟨W8, hW8⟩ : ∃ W, W = W7.setCell ⟨B, 156, none⟩ (.int .u8 (C.toNat : Int)) := ⟨_, rfl⟩
        rw [← hW8] at hw8
        obtain ⟨W9, hr9, hw9⟩ := hw8.put' 157 355 rfl link (by omega) (by omega)
        obtain ⟨W10, hr10, hw10⟩ := hw9.put' 257 255 rfl ⟨#[117, 115, 116, 97, 114, 0, 48, 48]⟩ (by decide) (by omega)
        have HW10 : Hid (Row5 w W10 B l0) := Lib.hid (by
          rw [HL0.out]
          rw [hCC] at hw10
          have hsg : ([letterOf k] : Bs) = signOf k := letter_sign.symm
          rw [hsg] at hw10
          exact hw10)
        have HR3 := Lib.hid hr3
        have HR4 := Lib.hid hr4
        have HR5 := Lib.hid hr5
        have HR6 := Lib.hid hr6
        have HR7 := Lib.hid hr7
        have HR9 := Lib.hid hr9
        have HR10 := Lib.hid hr10
        have HW8 := Lib.hid hW8.symm
        have HLET := Lib.hid hlet
        clear hr2 hw2 hr3 hw3 hr4 hw4 hr5 hw5 hr6 hw6 hr7 hw7 hw8 hW8 hr9 hw9 hr10 hw10 hlet hCC hbm HW1 HR1 HW2
        go_wp2_with (first | rw [HR3.out] | rw [HR4.out] | rw [HR5.out] | rw [HR6.out] | rw [HR7.out] | rw [HW8.out] | rw [HR9.out] | rw [HR10.out] | (go_at_call 55; (with_reducible refine (HLET.out _).mono ?_); rintro e w' ⟨rfl, rfl⟩))
        clear HR3 HR4 HR5 HR6 HR7 HR9 HR10 HW8 HLET hfz hv8
        obtain ⟨lsum, hls⟩ : ∃ m, m = sumOf l0 := ⟨_, rfl⟩
        have hoct6 := rOctal_any lsum 6 (by omega) (by omega) (by
          have h1 := sumOf_le l0
          have h2 := HW10.out.len
          rw [hls]; omega) W10
        have hol : (octR lsum 6).length ≤ 6 := oct_le _ _
        have hrr : HRS = putAt l0 148 (octR lsum 6 ++ [0, 32]) := by rw [HHR.out, hls]
        obtain ⟨R, hR⟩ : ∃ R, R = octR lsum 6 := ⟨_, rfl⟩
        obtain ⟨ob, hob⟩ : ∃ ob, ob = octB lsum 6 := ⟨_, rfl⟩
        rw [← hR, ← hob] at hoct6
        rw [← hR] at hol hrr
        have HO6 := Lib.hid hoct6
        have HRR := Lib.hid hrr
        have HLS := Lib.hid hls
        have hsz : (⟨R.toArray⟩ : ByteArray).size ≤ 6 := by rw [size_len]; exact hol
        clear hR hob hoct6 hrr hls HHR HOCT HL0 hol HML
        go_loop [13, 14] (fun sm i => ∃ (j : Nat) (sk : Nat), j ≤ 512 ∧ sk ≤ 130560 ∧ i = .int .i64 j ∧ sm = .int .i64 sk ∧ Hid (sk = sumOf (l0.take j))) (fun _ i => 512 - (intOf i).toNat)
        case atStart => exact ⟨0, 0, by omega, by omega, rfl, rfl, Lib.hid rfl⟩
        case round =>
          obtain ⟨j, sk, hj, hsb, rfl, rfl, HSK⟩ := hrel
          by_cases hlt : j < 512
          · have hcell : W10.cell? ⟨B, j, none⟩ = some (.int .u8 (l0.getD j 0).toNat) := by
              obtain ⟨ad, e, h⟩ := at_byte (HW10.out.bytes.C (by have := HW10.out.len; omega)) j (by have := HW10.out.len; omega)
              cases e
              rwa [add_blk] at h
            have hx : (l0.getD j 0).toNat < 256 := (l0.getD j 0).toNat_lt
            have HS1 : Hid (sk + (l0.getD j 0).toNat = sumOf (l0.take (j + 1))) := Lib.hid (by rw [sumOf_succ l0 j (by have := HW10.out.len; omega), HSK.out])
            have hs2 : sk + (l0.getD j 0).toNat ≤ 130560 := by
              rw [HS1.out]
              have h1 := sumOf_le (l0.take (j + 1))
              have h2 : (l0.take (j + 1)).length ≤ 512 := by rw [List.length_take]; omega
              omega
            obtain ⟨x, hxx⟩ : ∃ x, x = (l0.getD j 0).toNat := ⟨_, rfl⟩
            rw [← hxx] at HS1 hs2 hx hcell
            clear hxx
            have dlt : decide ((j : Int) < 512) = true := decide_eq_true (by omega)
            have hlti : (j : Int) < 512 := by omega
            have hk0 : (0 : Int) ≤ (j : Int) := by omega
            have h512 : j + 1 ≤ 512 := by omega
            clear hlt hj
            go_wp2_with fail
            go_round
            case rel => exact ⟨j + 1, sk + x, h512, hs2, by go_num, by go_num, HS1⟩
            case measure => simp [intOf]; omega
          · obtain rfl : j = 512 := by omega
            have hskl : sk = lsum := by rw [HSK.out, HLS.out, List.take_of_length_le (by have := HW10.out.len; omega)]
            subst hskl
            go_wp2_with fail
            refine HO6.out.mono ?_
            rintro e w11 ⟨rfl, hb11⟩
            have happ : (⟨R.toArray⟩ : ByteArray) ++ ⟨#[0, 32]⟩ = ⟨(R ++ [0, 32]).toArray⟩ := mk_append R [0, 32]
            have hsum : (⟨R.toArray⟩ : ByteArray).size + (⟨#[0, 32]⟩ : ByteArray).size ≤ 9223372036854775807 := by show _ + 2 ≤ _; omega
            have hsum' : (⟨R.toArray⟩ : ByteArray).size + 2 ≤ 9223372036854775807 := by omega
            have HAPP := Lib.hid happ
            obtain ⟨W12, hr12, hw12⟩ := (HW10.out.on hb11).put' 148 364 rfl ⟨(R ++ [0, 32]).toArray⟩ (by rw [size_len]; show 148 + (R ++ [0, 32]).length ≤ _; rw [size_len] at hsz; rw [List.length_append]; show 148 + ((⟨R.toArray⟩ : ByteArray).data.toList.length + 2) ≤ _; omega) (by omega)
            have HR12 := Lib.hid hr12
            have HW12 := Lib.hid hw12
            clear happ hr12 hw12 hb11
            go_wp2_with (first | rw [HAPP.out] | rw [HR12.out])
            go_ret2
            rw [HRR.out]
            exact ⟨B, rfl, HW12.out.lo, HW12.out.bytes, HW12.out.len, HW12.out.below⟩
end Go.Proofs.YtbkjjapeojclpaaGreatDoor
