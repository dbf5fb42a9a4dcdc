/- untar's reader: entry. -/
import Derived.Test.YtbkjjapeojclpaaGreatDoorTake
namespace Go.Proofs.YtbkjjapeojclpaaGreatDoor
set_option linter.unusedVariables false
set_option linter.unusedSimpArgs false
open Go.RowKit Go.Proofs.YtbkjjapeojclpaaGreatDoorW.PrintWords
set_option maxHeartbeats 400000
set_option maxRecDepth 100000

structure Ent where
  name : Bs
  link : Bs
  data : Bs
  kind : Int
def Ent.val (x : Ent) : Value := .agg #[.string ⟨x.name.toArray⟩, .string ⟨x.link.toArray⟩, .string ⟨x.data.toArray⟩, .int .i64 x.kind]
def padOf (n : Nat) : Nat := (512 - n % 512) % 512
def entryF (s : St) : Ent × St :=
  let o := takeF s 512
  let h := headRd o.1
  let d := takeF ⟨o.2.l, o.2.bad || !h.ok⟩ h.n
  let z := takeF d.2 (padOf h.n)
  (⟨h.name, h.link, d.1, h.kind⟩, z.2)
def EntPost (w0 w : World) (R : Nat) (x : Ent) (s : St) (e : Ending) (w' : World) : Prop := e = .returned x.val ∧ Rd w0 w' R s ∧ But R w w'
theorem takeF_len (s : St) (n : Nat) : (takeF s n).1.length ≤ s.l.length ∧ (takeF s n).2.l.length ≤ s.l.length := by
  unfold takeF
  split
  · simp only [List.length_take, List.length_drop]; omega
  · simp
theorem headRd_n (b : Bs) : (headRd b).n < 8 ^ 11 := by
  unfold headRd
  split
  · exact ofOctN_lt _
  · exact Nat.pow_pos (by omega)
theorem Rd.keep {w0 w w' : World} {R : Nat} {s : St} (h : Rd w0 w R s) (hR : w'.heap[R]? = w.heap[R]?) (hb : Below w0.heap.size w0 w') : Rd w0 w' R s := by
  obtain ⟨A, c, h1, h2⟩ := h.blk
  exact ⟨⟨A, c, by rw [hR]; exact h1, h2⟩, hb, h.lo⟩
theorem ent_fin {w0 w W w5 W' : World} {R : Nat} {s : St} (hW' : ∃ v0 v1 v2 v3, W' = (((w5.setCell ⟨w.heap.size, 0, none⟩ v0).setCell ⟨w.heap.size, 1, none⟩ v1).setCell ⟨w.heap.size, 2, none⟩ v2).setCell ⟨w.heap.size, 3, none⟩ v3)
    (hR : Rd w0 w5 R s) (hB : But R W w5) (hBW : Below w.heap.size w W) (hRl : R < w.heap.size) : Rd w0 W' R s ∧ But R w W' := by
  obtain ⟨v0, v1, v2, v3, rfl⟩ := hW'
  have hle : w0.heap.size ≤ w.heap.size := Nat.le_of_lt (Nat.lt_of_le_of_lt hR.lo hRl)
  have hk : ∀ k, k < w.heap.size → ((((w5.setCell ⟨w.heap.size, 0, none⟩ v0).setCell ⟨w.heap.size, 1, none⟩ v1).setCell ⟨w.heap.size, 2, none⟩ v2).setCell ⟨w.heap.size, 3, none⟩ v3).heap[k]? = w5.heap[k]? := fun k hk => by
    rw [Below.heap_setCell _ _ _ _ (by simp; omega), Below.heap_setCell _ _ _ _ (by simp; omega), Below.heap_setCell _ _ _ _ (by simp; omega), Below.heap_setCell _ _ _ _ (by simp; omega)]
  refine ⟨hR.keep (hk R hRl) ((((hR.below.setCell hle _).setCell hle _).setCell hle _).setCell hle _), ⟨?_, fun k hk' hR' => ?_⟩⟩
  · simp only [World.setCell, Array.size_modify]; exact Nat.le_trans hBW.size hB.size
  · rw [hk k hk', hB.blk k (Nat.lt_of_lt_of_le hk' hBW.size) hR', hBW.block k hk']
theorem entry_r_any (w0 w : World) (R : Nat) (s : St) (hG : Glob w0) (h : Rd w0 w R s) (hl : s.l.length ≤ 4000000) :
    Calls Tryz.prog 30 #[.pointer (some ⟨R, 0, none⟩)] w (EntPost w0 w R (entryF s).1 (entryF s).2) := by
  obtain ⟨o, s1, ho⟩ : ∃ o s1, (o, s1) = takeF s 512 := ⟨_, _, rfl⟩
  obtain ⟨nm, kd, n, lk, ok, hh⟩ : ∃ nm kd n lk ok, Hd.mk nm kd n lk ok = headRd o := ⟨_, _, _, _, _, rfl⟩
  have hlen := takeF_len s 512
  rw [← ho] at hlen
  have hn : n < 8 ^ 11 := by have := headRd_n o; rw [← hh] at this; exact this
  have hF : entryF s = (⟨nm, lk, (takeF ⟨s1.l, s1.bad || !ok⟩ n).1, kd⟩, (takeF (takeF ⟨s1.l, s1.bad || !ok⟩ n).2 (padOf n)).2) := by
    unfold entryF; rw [← ho]; simp only [← hh]
  obtain ⟨X, S, hXS⟩ : ∃ X S, (X, S) = entryF s := ⟨_, _, rfl⟩
  rw [← hXS]
  have HF : Hid ((X, S) = _) := Lib.hid (hXS.trans hF)
  clear hXS
  obtain ⟨W, hW⟩ : ∃ W, W = w.alloc (.cells #[.string ⟨#[]⟩, .string ⟨#[]⟩, .string ⟨#[]⟩, .int .i64 0] 67) := ⟨_, rfl⟩
  have hBW : Below w.heap.size w W := by rw [hW]; exact (Below.refl _ _).alloc (Nat.le_refl _) _
  have hRl := h.lt
  have hEl : w.heap.size < W.heap.size := by rw [hW]; simp
  have hEb : W.heap[w.heap.size]? = some (.cells #[.string ⟨#[]⟩, .string ⟨#[]⟩, .string ⟨#[]⟩, .int .i64 0] 67 (0, 0)) := by rw [hW]; exact heap_alloc_new w _
  have hT := take_any w0 W R s 512 (h.belowR hBW) (by omega)
  rw [← ho] at hT
  have HT := Lib.hid hT
  have HBW := Lib.hid hBW
  have HEB := Lib.hid hEb
  have HH := Lib.hid hh
  clear hT hBW hEb hh ho hF h
  go_enter Tryz.func30, Tryz.ntmps30
  go_wp2_with fail
  rw [← hW]
  refine HT.out.mono ?_
  rintro e w1 ⟨A1, c1, rfl, hC1, hc1, hR1, hB1⟩
  have hGw1 := hG.below' hR1.below
  have hRd := Read_h_any A1 o.length c1 o w1 hGw1 (Kd.C_below hC1 hR1.below) hc1
  rw [← HH.out] at hRd
  unfold Hd.val at hRd
  have HRD := Lib.hid hRd
  have HR1 := Lib.hid hR1
  have HB1 := Lib.hid hB1
  clear hW hRd hC1 hc1 hR1 hB1 hGw1 HT
  go_wp2_with fail
  refine HRD.out.mono ?_
  rintro e w2 ⟨rfl, hb2⟩
  have HR2 := Lib.hid (HR1.out.belowR hb2)
  obtain ⟨A2, c2, hb, hC2, hc2⟩ := HR2.out.blk
  have d1 : w2.cell? ⟨R, 1, none⟩ = some (.bool s1.bad) := by simp [World.cell?, hb]
  have f1 : w2.frozen? ⟨R, 1, none⟩ = false := blk_frozen hb 1
  obtain ⟨bd, hbd⟩ : ∃ bd, bd = (s1.bad || !ok) := ⟨_, rfl⟩
  rw [← hbd] at HF
  have HR3 : Hid (Rd w0 (w2.setCell ⟨R, 1, none⟩ (.bool bd)) R ⟨s1.l, bd⟩) := Lib.hid ⟨⟨A2, c2, by rw [blk_set hb]; rfl, hC2, hc2⟩, HR2.out.below.setCell HR2.out.lo _, HR2.out.lo⟩
  have HB3 : Hid (But R W (w2.setCell ⟨R, 1, none⟩ (.bool bd))) := Lib.hid ((HB1.out.trans (But.of hb2)).trans (setCell_but _ _ _ _))
  obtain ⟨W3, hW3⟩ : ∃ W3, W3 = w2.setCell ⟨R, 1, none⟩ (.bool bd) := ⟨_, rfl⟩
  rw [← hW3] at HR3 HB3
  have HW3 := Lib.hid hW3
  have HBD := Lib.hid hbd
  clear hb hC2 hc2 hb2 HRD HR2 hW3 hbd HB1 HR1
  obtain ⟨b1, hb1⟩ : ∃ b1, b1 = s1.bad := ⟨_, rfl⟩
  rw [← hb1] at d1 HBD
  clear hb1
  cases b1 with
  | true =>
    obtain rfl : bd = true := by rw [HBD.out]; rfl
    have hT2 := take_any w0 W3 R ⟨s1.l, true⟩ n HR3.out (by omega)
    obtain ⟨o2, s2, ho2⟩ : ∃ o2 s2, (o2, s2) = takeF ⟨s1.l, true⟩ n := ⟨_, _, rfl⟩
    rw [← ho2] at hT2
    rw [← ho2] at HF
    have HT2 := Lib.hid hT2
    clear hT2 ho2
    go_wp2_with (rw [← HW3.out])
    refine HT2.out.mono ?_
    rintro e w4 ⟨A4, c4, rfl, hC4, hc4, hR4, hB4⟩
    have HCV := Lib.hid (bytes_string (c := c4) (Kd.C_below hC4 hR4.below))
    have hpad : padOf n ≤ 512 := by unfold padOf; omega
    have HT3 := Lib.hid (take_any w0 w4 R s2 (padOf n) hR4 (by omega))
    have hpd : (512 - (n : Int) % 512) % 512 = ((padOf n : Nat) : Int) := by unfold padOf; omega
    have HB4 := Lib.hid (HB3.out.trans hB4)
    clear hC4 hc4 hR4 hB4 HT2
    go_wp2_with (rw [HCV.out])
    rw [hpd]
    refine HT3.out.mono ?_
    rintro e w5 ⟨A5, c5, rfl, _, _, hR5, hB5⟩
    have hE5 : w5.heap[w.heap.size]? = some (.cells #[.string ⟨#[]⟩, .string ⟨#[]⟩, .string ⟨#[]⟩, .int .i64 0] 67 (0, 0)) := by
      rw [(HB4.out.trans hB5).blk _ hEl (by omega)]; exact HEB.out
    have HR5 := Lib.hid hR5
    have HB5 := Lib.hid (HB4.out.trans hB5)
    have HE5 := Lib.hid hE5
    have g0 : w5.cell? ⟨w.heap.size, 0, none⟩ = some (.string ⟨#[]⟩) := by rw [blk_cell hE5]; rfl
    have g1 : w5.cell? ⟨w.heap.size, 1, none⟩ = some (.string ⟨#[]⟩) := by rw [blk_cell hE5]; rfl
    have g2 : w5.cell? ⟨w.heap.size, 2, none⟩ = some (.string ⟨#[]⟩) := by rw [blk_cell hE5]; rfl
    have g3 : w5.cell? ⟨w.heap.size, 3, none⟩ = some (.int .i64 0) := by rw [blk_cell hE5]; rfl
    have k0 : w5.frozen? ⟨w.heap.size, 0, none⟩ = false := blk_frozen hE5 0
    have k1 : w5.frozen? ⟨w.heap.size, 1, none⟩ = false := blk_frozen hE5 1
    have k2 : w5.frozen? ⟨w.heap.size, 2, none⟩ = false := blk_frozen hE5 2
    have k3 : w5.frozen? ⟨w.heap.size, 3, none⟩ = false := blk_frozen hE5 3
    clear hR5 hB5 hE5 hpd HT3 HCV
    go_wp2_with fail
    have hfin := fun W' (hW' : ∃ v0 v1 v2 v3, W' = (((w5.setCell ⟨w.heap.size, 0, none⟩ v0).setCell ⟨w.heap.size, 1, none⟩ v1).setCell ⟨w.heap.size, 2, none⟩ v2).setCell ⟨w.heap.size, 3, none⟩ v3) => ent_fin hW' HR5.out HB5.out HBW.out hRl
    refine bodyPost_ret (v := (Ent.mk nm lk o2 kd).val) (by simp [results, Tryz.results30, go_sem, Ent.val, g0, g1, g2, g3]) rfl ?_
    obtain ⟨rfl, rfl⟩ := Prod.mk.inj HF.out
    exact ⟨rfl, hfin _ ⟨_, _, _, _, rfl⟩⟩
  | false =>
    cases ok with
    | true =>
      obtain rfl : bd = false := by rw [HBD.out]; rfl
      have hT2 := take_any w0 W3 R ⟨s1.l, false⟩ n HR3.out (by omega)
      obtain ⟨o2, s2, ho2⟩ : ∃ o2 s2, (o2, s2) = takeF ⟨s1.l, false⟩ n := ⟨_, _, rfl⟩
      rw [← ho2] at hT2
      rw [← ho2] at HF
      have HT2 := Lib.hid hT2
      clear hT2 ho2
      go_wp2_with (rw [← HW3.out])
      refine HT2.out.mono ?_
      rintro e w4 ⟨A4, c4, rfl, hC4, hc4, hR4, hB4⟩
      have HCV := Lib.hid (bytes_string (c := c4) (Kd.C_below hC4 hR4.below))
      have hpad : padOf n ≤ 512 := by unfold padOf; omega
      have HT3 := Lib.hid (take_any w0 w4 R s2 (padOf n) hR4 (by omega))
      have hpd : (512 - (n : Int) % 512) % 512 = ((padOf n : Nat) : Int) := by unfold padOf; omega
      have HB4 := Lib.hid (HB3.out.trans hB4)
      clear hC4 hc4 hR4 hB4 HT2
      go_wp2_with (rw [HCV.out])
      rw [hpd]
      refine HT3.out.mono ?_
      rintro e w5 ⟨A5, c5, rfl, _, _, hR5, hB5⟩
      have hE5 : w5.heap[w.heap.size]? = some (.cells #[.string ⟨#[]⟩, .string ⟨#[]⟩, .string ⟨#[]⟩, .int .i64 0] 67 (0, 0)) := by
        rw [(HB4.out.trans hB5).blk _ hEl (by omega)]; exact HEB.out
      have HR5 := Lib.hid hR5
      have HB5 := Lib.hid (HB4.out.trans hB5)
      have HE5 := Lib.hid hE5
      have g0 : w5.cell? ⟨w.heap.size, 0, none⟩ = some (.string ⟨#[]⟩) := by rw [blk_cell hE5]; rfl
      have g1 : w5.cell? ⟨w.heap.size, 1, none⟩ = some (.string ⟨#[]⟩) := by rw [blk_cell hE5]; rfl
      have g2 : w5.cell? ⟨w.heap.size, 2, none⟩ = some (.string ⟨#[]⟩) := by rw [blk_cell hE5]; rfl
      have g3 : w5.cell? ⟨w.heap.size, 3, none⟩ = some (.int .i64 0) := by rw [blk_cell hE5]; rfl
      have k0 : w5.frozen? ⟨w.heap.size, 0, none⟩ = false := blk_frozen hE5 0
      have k1 : w5.frozen? ⟨w.heap.size, 1, none⟩ = false := blk_frozen hE5 1
      have k2 : w5.frozen? ⟨w.heap.size, 2, none⟩ = false := blk_frozen hE5 2
      have k3 : w5.frozen? ⟨w.heap.size, 3, none⟩ = false := blk_frozen hE5 3
      clear hR5 hB5 hE5 hpd HT3 HCV
      go_wp2_with fail
      have hfin := fun W' (hW' : ∃ v0 v1 v2 v3, W' = (((w5.setCell ⟨w.heap.size, 0, none⟩ v0).setCell ⟨w.heap.size, 1, none⟩ v1).setCell ⟨w.heap.size, 2, none⟩ v2).setCell ⟨w.heap.size, 3, none⟩ v3) => ent_fin hW' HR5.out HB5.out HBW.out hRl
      refine bodyPost_ret (v := (Ent.mk nm lk o2 kd).val) (by simp [results, Tryz.results30, go_sem, Ent.val, g0, g1, g2, g3]) rfl ?_
      obtain ⟨rfl, rfl⟩ := Prod.mk.inj HF.out
      exact ⟨rfl, hfin _ ⟨_, _, _, _, rfl⟩⟩
    | false =>
      obtain rfl : bd = true := by rw [HBD.out]; rfl
      have hT2 := take_any w0 W3 R ⟨s1.l, true⟩ n HR3.out (by omega)
      obtain ⟨o2, s2, ho2⟩ : ∃ o2 s2, (o2, s2) = takeF ⟨s1.l, true⟩ n := ⟨_, _, rfl⟩
      rw [← ho2] at hT2
      rw [← ho2] at HF
      have HT2 := Lib.hid hT2
      clear hT2 ho2
      go_wp2_with (rw [← HW3.out])
      refine HT2.out.mono ?_
      rintro e w4 ⟨A4, c4, rfl, hC4, hc4, hR4, hB4⟩
      have HCV := Lib.hid (bytes_string (c := c4) (Kd.C_below hC4 hR4.below))
      have hpad : padOf n ≤ 512 := by unfold padOf; omega
      have HT3 := Lib.hid (take_any w0 w4 R s2 (padOf n) hR4 (by omega))
      have hpd : (512 - (n : Int) % 512) % 512 = ((padOf n : Nat) : Int) := by unfold padOf; omega
      have HB4 := Lib.hid (HB3.out.trans hB4)
      clear hC4 hc4 hR4 hB4 HT2
      go_wp2_with (rw [HCV.out])
      rw [hpd]
      refine HT3.out.mono ?_
      rintro e w5 ⟨A5, c5, rfl, _, _, hR5, hB5⟩
      have hE5 : w5.heap[w.heap.size]? = some (.cells #[.string ⟨#[]⟩, .string ⟨#[]⟩, .string ⟨#[]⟩, .int .i64 0] 67 (0, 0)) := by
        rw [(HB4.out.trans hB5).blk _ hEl (by omega)]; exact HEB.out
      have HR5 := Lib.hid hR5
      have HB5 := Lib.hid (HB4.out.trans hB5)
      have HE5 := Lib.hid hE5
      have g0 : w5.cell? ⟨w.heap.size, 0, none⟩ = some (.string ⟨#[]⟩) := by rw [blk_cell hE5]; rfl
      have g1 : w5.cell? ⟨w.heap.size, 1, none⟩ = some (.string ⟨#[]⟩) := by rw [blk_cell hE5]; rfl
      have g2 : w5.cell? ⟨w.heap.size, 2, none⟩ = some (.string ⟨#[]⟩) := by rw [blk_cell hE5]; rfl
      have g3 : w5.cell? ⟨w.heap.size, 3, none⟩ = some (.int .i64 0) := by rw [blk_cell hE5]; rfl
      have k0 : w5.frozen? ⟨w.heap.size, 0, none⟩ = false := blk_frozen hE5 0
      have k1 : w5.frozen? ⟨w.heap.size, 1, none⟩ = false := blk_frozen hE5 1
      have k2 : w5.frozen? ⟨w.heap.size, 2, none⟩ = false := blk_frozen hE5 2
      have k3 : w5.frozen? ⟨w.heap.size, 3, none⟩ = false := blk_frozen hE5 3
      clear hR5 hB5 hE5 hpd HT3 HCV
      go_wp2_with fail
      have hfin := fun W' (hW' : ∃ v0 v1 v2 v3, W' = (((w5.setCell ⟨w.heap.size, 0, none⟩ v0).setCell ⟨w.heap.size, 1, none⟩ v1).setCell ⟨w.heap.size, 2, none⟩ v2).setCell ⟨w.heap.size, 3, none⟩ v3) => ent_fin hW' HR5.out HB5.out HBW.out hRl
      refine bodyPost_ret (v := (Ent.mk nm lk o2 kd).val) (by simp [results, Tryz.results30, go_sem, Ent.val, g0, g1, g2, g3]) rfl ?_
      obtain ⟨rfl, rfl⟩ := Prod.mk.inj HF.out
      exact ⟨rfl, hfin _ ⟨_, _, _, _, rfl⟩⟩
end Go.Proofs.YtbkjjapeojclpaaGreatDoor
