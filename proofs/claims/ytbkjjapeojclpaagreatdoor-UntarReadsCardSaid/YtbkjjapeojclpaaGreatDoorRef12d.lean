/- The document's own headers: Read. -/
import Derived.Test.YtbkjjapeojclpaaGreatDoorRef12c
namespace Go.Proofs.YtbkjjapeojclpaaGreatDoor
set_option linter.unusedVariables false
set_option linter.unusedSimpArgs false
open Go.RowKit Go.Proofs.YtbkjjapeojclpaaGreatDoorW.PrintWords
set_option maxHeartbeats 400000
set_option maxRecDepth 100000

theorem hdr_num11 (n m d ck sg lk : Bs) (hn : n.length ≤ 100) (hm : m.length ≤ 8) (hd : d.length = 11) : ((hdr n m d ck sg lk).take 135).drop 124 = d := by
  unfold hdr
  rw [List.drop_take, drop_skip (padZ_len hn) (show 124 = 100 + 24 from rfl), drop_skip (padZ_len hm) (show 24 = 8 + 16 from rfl), drop_skip (padZ_len (s := z7) (k := 8) (by decide)) (show 16 = 8 + 8 from rfl), drop_skip (padZ_len (s := z7) (k := 8) (by decide)) (show 8 = 8 + 0 from rfl), List.drop_zero,
    List.take_append_of_le_length (by rw [padZ_len (by omega)]; decide)]
  unfold padZ
  rw [List.take_append_of_le_length (by omega), List.take_of_length_le (by omega)]
/-- The number, of eleven bytes. -/
def rdN11 (b : Bs) : Nat := ofOctN ((b.take 135).drop 124)
theorem rdN11_eq {b : Bs} (h : rdOk b = true) : rdN11 b = rdN b := by
  unfold rdOk at h
  simp only [Bool.and_eq_true, beq_iff_eq] at h
  obtain ⟨⟨_, hb⟩, he⟩ := h
  have hH := headR_hdr hb
  have hb' := hb
  unfold headB at hb'
  simp only [Bool.and_eq_true, decide_eq_true_eq, Int.toNat_natCast] at hb'
  obtain ⟨⟨hm, _⟩, ho⟩ := hb'
  have hl := mayB_len hm
  have hmo := mode_len (rdKind b)
  have hb2 : b = headR (rdName b) (rdKind b) (rdN b) (rdLink b) := he.symm
  unfold rdN11
  generalize rdN b = m at *
  generalize rdName b = nm at *
  generalize rdKind b = kk at *
  generalize rdLink b = lk at *
  rw [hb2, hH, hdr_num11 _ _ _ _ _ _ hl.1 (by omega) (oct_len ho)]
  exact (ofOct_oct ho).1
theorem rd_hit {b : Bs} {k : Int} (h1 : headB (rdName b) k (rdN11 b) (rdLink b) = true) (h2 : headR (rdName b) k (rdN11 b) (rdLink b) = b) : headRd b = ⟨rdName b, k, rdN11 b, rdLink b, true⟩ := by
  have := headRd_back h1
  rw [h2] at this
  exact this
theorem rd_miss {b : Bs} (h : ∀ k : Int, 1 ≤ k → k ≤ 5 → (headB (rdName b) k (rdN11 b) (rdLink b) && headR (rdName b) k (rdN11 b) (rdLink b) == b) = false) : headRd b = ⟨[], 0, 0, [], false⟩ := by
  unfold headRd
  cases hr : rdOk b with
  | false => rfl
  | true =>
    exfalso
    have he := rdN11_eq hr
    have hr' := hr
    unfold rdOk at hr'
    simp only [Bool.and_eq_true] at hr'
    obtain ⟨⟨_, hb⟩, h2⟩ := hr'
    have hb' := hb
    unfold headB mayB at hb'
    simp only [Bool.and_eq_true, decide_eq_true_eq] at hb'
    have := h (rdKind b) hb'.1.1.1.1.1.2 hb'.1.1.1.1.2
    rw [he, hb, h2] at this
    cases this
theorem cut1_len (c : UInt8) (l : Bs) : (cut1 c l).length ≤ l.length := by
  unfold cut1
  exact (List.takeWhile_sublist _).length_le
set_option maxHeartbeats 2000000 in
theorem rRead_any (A : Option Addr) (n c : Nat) (b : Bs) (w : World) (hC : kByte.C w A n b) (hc : n ≤ c) :
    Calls Tryz.prog 24 #[.slice A n c] w fun e w' => e = .returned (headRd b).val ∧ Below w.heap.size w w' := by
  have hl := C_len hC
  by_cases h512 : n = 512
  · subst h512
    obtain ⟨ad, rfl, _⟩ := at_byte hC 156 (by omega)
    have hcI : (512 : Int) ≤ (c : Int) := by omega
    have nc : ∀ k : Nat, k < 512 → ¬ c = k := fun k hk => by omega
    have K1 := Lib.hid (C_cut_to hC (hi := 100) (by omega))
    have K2 := Lib.hid (C_cut_in hC (lo := 157) (hi := 257) (by omega) (by omega) (by omega))
    have K4 := Lib.hid (C_cut_in hC (lo := 124) (hi := 135) (by omega) (by omega) (by omega))
    have l1 : (b.take 100).length = 100 := by rw [List.length_take]; omega
    have l2 : ((b.take 257).drop 157).length = 100 := by rw [List.length_drop, List.length_take]; omega
    have l4 : ((b.take 135).drop 124).length = 11 := by rw [List.length_drop, List.length_take]; omega
    obtain ⟨nm, hnm⟩ : ∃ nm, nm = rdName b := ⟨_, rfl⟩
    obtain ⟨lk, hlk⟩ : ∃ lk, lk = rdLink b := ⟨_, rfl⟩
    obtain ⟨sn, hsn⟩ : ∃ sn, sn = (b.take 135).drop 124 := ⟨_, rfl⟩
    have ha : ∀ k, 0 < k → ad.add k = ⟨ad.block, ad.off + k, none⟩ := fun k hk => by unfold Addr.add; rw [if_neg (by omega)]
    have HF1 : Hid (∀ m, Calls Tryz.prog 32 #[.slice (some ad) 100 c] (w.drewN m) fun e w' => e = .returned (.string ⟨nm.toArray⟩) ∧ w' = w.drewN m) :=
      Lib.hid fun m => by rw [hnm]; exact (rfield_any _ 100 _ (b.take 100) _ l1.symm (by rw [l1]; exact Kd.C_below K1.out (below_drewN w m)) (by omega) (by omega)).mono (fun _ _ ⟨h, k⟩ => ⟨h, k.symm⟩)
    have HF2 : Hid (∀ m, Calls Tryz.prog 32 #[.slice (some ⟨ad.block, ad.off + 157, none⟩) 100 (c - 157)] (w.drewN m) fun e w' => e = .returned (.string ⟨lk.toArray⟩) ∧ w' = w.drewN m) :=
      Lib.hid fun m => by rw [hlk, ← ha 157 (by omega)]; exact (rfield_any _ 100 _ ((b.take 257).drop 157) _ l2.symm (by rw [l2]; exact Kd.C_below K2.out (below_drewN w m)) (by omega) (by omega)).mono (fun _ _ ⟨h, k⟩ => ⟨h, k.symm⟩)
    have HC4 : Hid (∀ m, (convert 22 9 (.slice (some ⟨ad.block, ad.off + 124, none⟩) 11 (c - 124))).run Tryz.prog (w.drewN m) = .ok (.string ⟨sn.toArray⟩) (w.drewN m)) :=
      Lib.hid fun m => by
        rw [hsn, ← ha 124 (by omega)]
        exact bytes_string (c := c - 124) (Kd.C_below K4.out (below_drewN w m))
    obtain ⟨n, hn⟩ : ∃ n, n = ofOctN sn := ⟨_, rfl⟩
    obtain ⟨ob, hob⟩ : ∃ ob, ob = ofOctB sn := ⟨_, rfl⟩
    have HO : Hid (∀ W, Calls Tryz.prog 33 #[.string ⟨sn.toArray⟩] W fun e w' => e = .returned (.tuple #[.int .i64 n, .bool ob]) ∧ W = w') :=
      Lib.hid fun W => by rw [hn, hob]; exact rOfOctal_any ⟨sn.toArray⟩ W (by rw [size_len]; show sn.length = 11; rw [hsn]; exact l4)
    have hnl : n < 8 ^ 20 := by have := ofOctN_lt sn; rw [hn]; omega
    have hnn : n = rdN11 b := by rw [hn, hsn]; rfl
    have hnml : nm.length ≤ 100 := by rw [hnm]; unfold rdName; exact Nat.le_trans (cut1_len _ _) (by omega)
    have hlkl : lk.length ≤ 100 := by rw [hlk]; unfold rdLink; exact Nat.le_trans (cut1_len _ _) (by omega)
    have HLay : Hid (∀ (k : Int) W, Calls Tryz.prog 34 #[.string ⟨nm.toArray⟩, .int .i64 k, .int .i64 n, .string ⟨lk.toArray⟩] W (LayPost W (headB nm k n lk) (headR nm k n lk))) :=
      Lib.hid fun k W => rLay_any ⟨nm.toArray⟩ ⟨lk.toArray⟩ k n W hnl (by rw [size_len]; show nm.length ≤ _; omega) (by rw [size_len]; show lk.length ≤ _; omega)
    have HHIT : Hid (∀ k : Int, headB nm k n lk = true → headR nm k n lk = b → headRd b = ⟨nm, k, n, lk, true⟩) := Lib.hid fun k h1 h2 => by
      rw [hnm, hlk, hnn] at h1 h2 ⊢
      exact rd_hit h1 h2
    have HMISS : Hid ((∀ k : Int, 1 ≤ k → k ≤ 5 → (headB nm k n lk && headR nm k n lk == b) = false) → headRd b = ⟨[], 0, 0, [], false⟩) := Lib.hid fun h => by
      rw [hnm, hlk, hnn] at h
      exact rd_miss h
    have HC := Lib.hid hC
    have HL := Lib.hid hl
    obtain ⟨H, hH⟩ : ∃ H, H = headRd b := ⟨_, rfl⟩
    rw [← hH]
    rw [← hH] at HHIT HMISS
    clear hC hl nc hnm hlk hsn hn hob hnl K1 K2 K4 ha hnn hnml hlkl l1 l2 l4 hH
    go_enter Tryz.func24, Tryz.ntmps24
    go_wp2_with fail
    go_quiet ((go_at_call 32; first | with_reducible exact Calls.quiet_of_same (HF1.out _) | exact Calls.quiet_of_same (HF2.out _)))
    clear HF1 HF2
    obtain ⟨W, hW⟩ : ∃ W, W = w.drewN nq := ⟨_, rfl⟩
    have hcv := HC4.out nq
    have hBW := below_drewN w nq
    rw [← hW] at hcv hBW ⊢
    have HCV := Lib.hid hcv
    have HBW := Lib.hid hBW
    clear hW hcv hBW HC4
    go_wp2_with (first | rw [HCV.out] | (go_at_call 33; refine (HO.out _).mono ?_; rintro e w' ⟨rfl, rfl⟩))
    go_loopw [11] (fun i wr => ∃ k : Nat, 1 ≤ k ∧ k ≤ 6 ∧ i = .int .i64 k ∧ Hid (∀ j : Int, 1 ≤ j → j < k → (headB nm j n lk && headR nm j n lk == b) = false) ∧ Hid (Below w.heap.size w wr)) (fun i _ => 6 - (intOf i).toNat)
    case atStart => exact ⟨1, by omega, by omega, rfl, Lib.hid (fun j h1 h2 => by omega), HBW⟩
    case round =>
      obtain ⟨k, hk1, hk6, rfl, HNO, HB⟩ := hrel
      by_cases hlt : k ≤ 5
      · have hlay := HLay.out k wr
        have hhit := HHIT.out k
        obtain ⟨hb', hhb'⟩ : ∃ x, x = headB nm k n lk := ⟨_, rfl⟩
        obtain ⟨hr, hhr⟩ : ∃ x, x = headR nm k n lk := ⟨_, rfl⟩
        have hnext : (hb' && hr == b) = false → ∀ j : Int, 1 ≤ j → j < ((k + 1 : Nat) : Int) → (headB nm j n lk && headR nm j n lk == b) = false := fun h j h1 h2 => by
          by_cases hj : j < k
          · exact HNO.out j h1 hj
          · obtain rfl : j = k := by omega
            rw [← hhb', ← hhr]; exact h
        rw [← hhb', ← hhr] at hlay hhit
        have HLY := Lib.hid hlay
        have HHT := Lib.hid hhit
        have HNX := Lib.hid hnext
        clear hlay hhit hnext hhb' hhr HNO
        have hlti : (k : Int) ≤ 5 := by omega
        cases hb' with
        | false =>
          have HNX2 := Lib.hid (HNX.out rfl)
          clear HNX HHT
          go_wp2_with fail
          refine HLY.out.mono ?_
          rintro e w2 ⟨rfl, hb2⟩
          have HB2 := Lib.hid (HB.out.trans (hb2.mono HB.out.size))
          clear hb2 HLY
          go_wp2_with fail
          go_roundw
          case rel => exact ⟨k + 1, by omega, by omega, by go_num, HNX2, HB2⟩
          case measure => simp [intOf]; omega
        | true =>
          go_wp2_with fail
          refine HLY.out.mono ?_
          rintro e w2 ⟨B, rfl, hlo, hby, hl5, hb2⟩
          have hB2 := HB.out.trans (hb2.mono HB.out.size)
          have HB2 := Lib.hid hB2
          have hcv1 := bytes_string (c := 512) (hby.C (by omega))
          rw [hl5] at hcv1
          have HCV1 := Lib.hid hcv1
          have HCV2 := Lib.hid (bytes_string (c := c) (Kd.C_below HC.out hB2))
          clear hcv1 hl5 hby hlo hb2 HLY hB2 HCV
          by_cases he : hr = b
          · subst he
            have HH := Lib.hid (HHT.out (by trivial) (by trivial))
            clear HHT HNX
            go_wp2_with (first | rw [HCV1.out] | rw [HCV2.out])
            refine bodyPost_ret (results_tmp5 rfl _ _ _) rfl ?_
            exact ⟨by rw [HH.out]; rfl, HB2.out⟩
          · have hne : ((⟨hr.toArray⟩ : ByteArray).toList == (⟨b.toArray⟩ : ByteArray).toList) = false := by rw [Lib.toList_data, Lib.toList_data, beq_eq_false_iff_ne]; exact he
            obtain ⟨P, hP⟩ : ∃ P : ByteArray, P = ⟨hr.toArray⟩ := ⟨_, rfl⟩
            obtain ⟨Q, hQ⟩ : ∃ Q : ByteArray, Q = ⟨b.toArray⟩ := ⟨_, rfl⟩
            have HNX2 := Lib.hid (HNX.out (by rw [Bool.true_and, beq_eq_false_iff_ne]; exact he))
            rw [← hP, ← hQ] at hne
            rw [← hP] at HCV1
            rw [← hQ] at HCV2
            clear HHT HNX he hP hQ
            go_wp2_with (first | rw [HCV1.out] | rw [HCV2.out])
            go_roundw
            case rel => exact ⟨k + 1, by omega, by omega, by go_num, HNX2, HB2⟩
            case measure => simp [intOf]; omega
      · obtain rfl : k = 6 := by omega
        have HH := Lib.hid (HMISS.out (fun j h1 h5 => HNO.out j h1 (by omega)))
        clear HMISS HNO HHIT
        go_wp2_with fail
        refine bodyPost_ret (results_tmp5 rfl _ _ _) rfl ?_
        exact ⟨by rw [HH.out]; rfl, HB.out⟩
  · have hb : headRd b = ⟨[], 0, 0, [], false⟩ := by
      have : rdOk b = false := by unfold rdOk; rw [decide_eq_false (by omega), Bool.false_and, Bool.false_and]
      unfold headRd; rw [this]; rfl
    have hn : ((n : Int) == 512) = false := by rw [beq_eq_false_iff_ne]; omega
    clear hC
    rw [hb]
    clear hb
    go_enter Tryz.func24, Tryz.ntmps24
    go_wp2_with fail
    refine bodyPost_ret (results_tmp5 rfl _ _ _) rfl ?_
    exact ⟨rfl, Below.refl _ _⟩
end Go.Proofs.YtbkjjapeojclpaaGreatDoor
