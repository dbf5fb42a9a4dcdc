/- The document's own tars: Lay. -/
import Derived.Test.YtbkjjapeojclpaaGreatDoorRef13b
import Derived.Test.YtbkjjapeojclpaaGreatDoorDoc2
import Derived.Test.YtbkjjapeojclpaaGreatDoorNdOk
import Derived.Deep.RegionHeld3
namespace Go.Proofs.YtbkjjapeojclpaaGreatDoor
set_option linter.unusedVariables false
set_option linter.unusedSimpArgs false
open Go.RowKit Go.Proofs.YtbkjjapeojclpaaGreatDoorW.PrintWords
set_option maxHeartbeats 400000
set_option maxRecDepth 100000

theorem entryOf_mod {name link data : Bs} {k : Int} (h : headB name k data.length link = true) : (entryOf name k link data).length % 512 = 0 := by
  unfold entryOf
  rw [List.length_append, List.length_append, headR_len h, rep, List.length_replicate]
  omega
theorem own_entry {n : Nd} (h : NdOk n) : ownOf n = entryOf ((nameOf n).take 100) n.kind ((linkOf n).take 100) (ownData n) ∧ headB ((nameOf n).take 100) n.kind (ownData n).length ((linkOf n).take 100) = true := by
  unfold ownOf linkOf ownData
  by_cases hk : n.kind = 4
  · rw [if_pos hk, if_pos hk, if_pos hk]
    refine ⟨by rw [hk], ?_⟩
    have := h.link hk
    rw [hk]; exact this
  · rw [if_neg hk, if_neg hk, if_neg hk]
    exact ⟨rfl, h.own hk⟩
theorem nodeOf_mod {n : Nd} (h : NdOk n) : (paxOf n).length % 512 = 0 ∧ (nodeOf n).length % 512 = 0 := by
  have h1 : (paxOf n).length % 512 = 0 := by
    unfold paxOf
    by_cases hx : extraOf n = []
    · rw [if_pos hx]; rfl
    · rw [if_neg hx]; exact entryOf_mod (h.pax hx)
  have h2 : (ownOf n).length % 512 = 0 := by rw [(own_entry h).1]; exact entryOf_mod (own_entry h).2
  refine ⟨h1, ?_⟩
  unfold nodeOf
  rw [List.length_append]; omega
theorem laidOf_mod {t : List Nd} (h : ∀ n ∈ t, NdOk n) : (laidOf t).length % 512 = 0 := by
  induction t with
  | nil => rfl
  | cons n t ih =>
    have h1 := (nodeOf_mod (h n (List.mem_cons_self ..))).2
    have h2 := ih fun m hm => h m (List.mem_cons_of_mem _ hm)
    rw [show laidOf (n :: t) = nodeOf n ++ laidOf t from by simp [laidOf], List.length_append]; omega
/-- Behind a header and bytes, padded: an entry more. -/
theorem pad_entry {l name link data : Bs} {k : Int} (hl : l.length % 512 = 0) (h : headB name k data.length link = true) :
    (l ++ headR name k data.length link ++ data) ++ rep 0 ((512 - (l ++ headR name k data.length link ++ data).length % 512) % 512) = l ++ entryOf name k link data := by
  have : (512 - (l ++ headR name k data.length link ++ data).length % 512) % 512 = (512 - data.length % 512) % 512 := by
    rw [List.length_append, List.length_append, headR_len h]; omega
  rw [this]
  unfold entryOf
  simp only [List.append_assoc]
/-- The appends of an entry, and what pad then gives. -/
theorem add_entry {base : Nat} {w1 : World} {A : Option Addr} {n c : Nat} {l name link data : Bs} {k : Int} {B : Nat} (ho : OwnB w1 base (.slice A n c) l) (hb : base ≤ w1.heap.size) (hby : BytesAt w1 B (headR name k data.length link)) (h : headB name k data.length link = true)
    (hl : l.length % 512 = 0) (hll : l.length ≤ 100000000) (hdl : data.length ≤ 100000) (ty : TypeId) (D : ByteArray) (hD : D = ⟨data.toArray⟩) :
    ∃ A2 n2 c2 w2 A3 n3 c3 w3, (Builtin.append_ #[22, 22] ty #[.slice A n c, .slice (some ⟨B, 0, none⟩) 512 512]).run Tryz.prog w1 = .ok (.slice A2 n2 c2) w2 ∧
      (Builtin.append_ #[22, 9] ty #[.slice A2 n2 c2, .string D]).run Tryz.prog w2 = .ok (.slice A3 n3 c3) w3 ∧ Below base w1 w3 ∧ base ≤ w3.heap.size ∧
      ∀ W, Below w3.heap.size w3 W → Calls Tryz.prog 37 #[.slice A3 n3 c3] W fun e w' => ∃ A4 n4 c4, e = .returned (.slice A4 n4 c4) ∧ OwnB w' base (.slice A4 n4 c4) (l ++ entryOf name k link data) ∧ Below base w3 w' := by
  have hl5 := headR_len h
  obtain ⟨v2, w2, hr2, ho2, hg2, hl2⟩ := ho.app ty ⟨B, 0, none⟩ 512 512 (headR name k data.length link) (hl5 ▸ hby.C (by omega)) (by omega) hb
  have gr2 := Gr.of ho hb hg2 hl2
  obtain ⟨A2, n2, c2, rfl⟩ := ho2.form
  have hDs : D.size = data.length := by rw [hD, size_len]
  have hb2 : base ≤ w2.heap.size := Nat.le_trans hb gr2.below.size
  obtain ⟨v3, w3, hr3, ho3, hg3, hl3⟩ := ho2.appS ty D (by rw [hDs, List.length_append, hl5]; omega) hb2
  have gr3 := gr2.trans (Gr.of ho2 hb2 hg3 hl3)
  obtain ⟨A3, n3, c3, rfl⟩ := ho3.form
  have hb3 : base ≤ w3.heap.size := Nat.le_trans hb gr3.below.size
  refine ⟨A2, n2, c2, w2, A3, n3, c3, w3, hr2, hr3, gr3.below, hb3, fun W hW => ?_⟩
  rw [show D.data.toList = data from by rw [hD]] at ho3
  have hoW := ho3.blk fun j hj => hW.block j (ho3.lt j hj).2
  refine (rpad_any base A3 n3 c3 _ W hoW (Nat.le_trans hb3 hW.size) (by rw [List.length_append, List.length_append, hl5]; omega)).mono ?_
  rintro e w' ⟨v4, rfl, ho4, gr4⟩
  obtain ⟨A4, n4, c4, rfl⟩ := ho4.form
  rw [pad_entry hl h] at ho4
  exact ⟨A4, n4, c4, rfl, ho4, (hW.mono hb3).trans gr4.below⟩
def RLayPost (w : World) (b : Bs) (n : Int) (e : Ending) (w' : World) : Prop := ∃ A m c, e = .returned (.tuple #[.slice A m c, .int .i64 n]) ∧ OwnB w' w.heap.size (.slice A m c) b ∧ Below w.heap.size w w'
set_option maxHeartbeats 2000000 in
theorem rLayT_any (t : List Nd) (A : Option Addr) (c : Nat) (w : World) (hC : kNd.C w A t.length t) (hcap : t.length ≤ c) (hl : ∀ n ∈ t, n.path.length ≤ 90000) :
    Calls Tryz.prog 26 #[.slice A t.length c] w (RLayPost w (if treeOk t then layOf t else []) (if treeOk t then 0 else 7)) := by
  have hMay := rMayT_any t A c w hC hcap hl
  cases hb : treeOk t with
  | false =>
    rw [hb] at hMay
    have HM := Lib.hid hMay
    clear hMay hb hC hl
    go_enter Tryz.func26, Tryz.ntmps26
    go_wp2_with (go_at_call 35; refine HM.out.mono ?_; rintro e w1 ⟨rfl, hb1⟩)
    go_ret2
    exact ⟨none, 0, 0, rfl, OwnB.nil _ _, hb1⟩
  | true =>
    rw [hb] at hMay
    obtain ⟨h1, h2⟩ := treeOk_nodes t hb
    have HM := Lib.hid hMay
    have HC := Lib.hid hC
    have HOK := Lib.hid h1
    clear hMay hC h1 hb hl
    go_enter Tryz.func26, Tryz.ntmps26
    go_wp2_with (go_at_call 35; refine HM.out.mono ?_; rintro e w1 ⟨rfl, hb1⟩)
    have HB1 := Lib.hid hb1
    clear hb1 HM
    go_loopw [4, 5] (fun u i wr => ∃ (k : Nat) (A1 : Option Addr) (n1 c1 : Nat), k ≤ t.length ∧ i = .int .i64 k ∧ u = .slice A1 n1 c1 ∧ Hid (OwnB wr w.heap.size (.slice A1 n1 c1) (laidOf (t.take k))) ∧ Hid (Below w.heap.size w wr)) (fun _ i _ => t.length - (intOf i).toNat)
    case atStart => exact ⟨0, none, 0, 0, by omega, rfl, rfl, Lib.hid (OwnB.nil _ _), HB1⟩
    case round =>
      obtain ⟨k, A1, n1, c1, hk, rfl, rfl, HO, HB⟩ := hrel
      by_cases hlt : k < t.length
      · have hC1 := Kd.C_below HC.out HB.out
        obtain ⟨ad, e, hc1, hc2, hc3⟩ := at_nd hC1 k hlt
        cases e
        have hx := HOK.out (t.getD k default) (by rw [List.getD_eq_getElem?_getD, List.getElem?_eq_getElem hlt]; exact List.getElem_mem hlt)
        have hsn : laidOf (t.take (k + 1)) = laidOf (t.take k) ++ nodeOf (t.getD k default) := by
          rw [List.take_succ_eq_append_getElem hlt, laidOf_snoc, List.getD_eq_getElem?_getD, List.getElem?_eq_getElem hlt]; rfl
        have hmod := laidOf_mod (t := t.take k) fun n hn => HOK.out n (List.mem_of_mem_take hn)
        have hlk := (laid_le (t.take k) (fun n hn => HOK.out n (List.mem_of_mem_take hn))).1
        rw [List.length_take] at hlk
        obtain ⟨x, hxe⟩ : ∃ x, x = t.getD k default := ⟨_, rfl⟩
        obtain ⟨L, hL⟩ : ∃ L, L = laidOf (t.take k) := ⟨_, rfl⟩
        rw [← hxe] at hc1 hc2 hc3 hx hsn
        rw [← hL] at hsn hmod hlk HO
        have hll : L.length ≤ 3000000 := by omega
        have hex := extraOf_le2 x hx.path hx.data
        have hpm := (nodeOf_mod hx).1
        obtain ⟨he1, he2⟩ := own_entry hx
        have hnm : nodeOf x = paxOf x ++ ownOf x := rfl
        have hodl : (ownData x).length ≤ 400 := by unfold ownData; have := hx.data; split <;> simp; exact this
        have hpl : (paxOf x).length ≤ 3000 := by
          unfold paxOf
          split
          · simp
          · rename_i hh; have := entryOf_len [112, 97, 120] [] (extraOf x) 5 (hx.pax hh); omega
        have hparts := fun W => rParts_any x W (by have := hx.path; omega) (by have := hx.data; omega)
        have HSN := Lib.hid (show laidOf (t.take (k + 1)) = L ++ paxOf x ++ ownOf x by rw [hsn, hnm, List.append_assoc])
        have HX := Lib.hid hx
        have HPARTS := Lib.hid hparts
        have HE1 := Lib.hid he1
        have HE2 := Lib.hid he2
        have HMOD := Lib.hid hmod
        have HPM := Lib.hid hpm
        have HXE := Lib.hid hxe
        clear hsn hx hlk hparts he1 he2 hnm hmod hpm hxe hL hC1
        have hkc : (k : Int) < (c : Int) := by omega
        unfold Nd.val at HPARTS
        go_wp2_with fail
        refine (HPARTS.out _).mono ?_
        rintro e w2 ⟨rfl, hb2⟩
        have hB2 := HB.out.trans (hb2.mono HB.out.size)
        have HB2 := Lib.hid hB2
        have HO2 := Lib.hid (HO.out.blk fun j hj => hb2.block j (HO.out.lt j hj).2)
        clear hb2 hB2 HO HB HPARTS hc1 hc2 hc3
        obtain ⟨EX, hEX⟩ : ∃ E : ByteArray, E = ⟨(extraOf x).toArray⟩ := ⟨_, rfl⟩
        have hEXs : EX.size = (extraOf x).length := by rw [hEX, size_len]
        have hEXl : EX.toList = extraOf x := by rw [hEX, Lib.toList_data]
        rw [← hEX]
        obtain ⟨NM, hNM⟩ : ∃ E : ByteArray, E = ⟨(nameOf x).toArray⟩ := ⟨_, rfl⟩
        obtain ⟨LK, hLK⟩ : ∃ E : ByteArray, E = ⟨(linkOf x).toArray⟩ := ⟨_, rfl⟩
        obtain ⟨OD, hOD⟩ : ∃ E : ByteArray, E = ⟨(ownData x).toArray⟩ := ⟨_, rfl⟩
        obtain ⟨NMC, hNMC⟩ : ∃ E : ByteArray, E = ⟨((nameOf x).take 100).toArray⟩ := ⟨_, rfl⟩
        obtain ⟨LKC, hLKC⟩ : ∃ E : ByteArray, E = ⟨((linkOf x).take 100).toArray⟩ := ⟨_, rfl⟩
        have hcut1 := fun W => rcut_any NM W
        have hcut2 := fun W => rcut_any LK W
        rw [show NM.data.toList = nameOf x from by rw [hNM], ← hNMC] at hcut1
        rw [show LK.data.toList = linkOf x from by rw [hLK], ← hLKC] at hcut2
        have hODs : OD.size = (ownData x).length := by rw [hOD, size_len]
        have hlay2 := fun W => rLay_any NMC LKC x.kind OD.size W (by omega) (by rw [hNMC, size_len]; show ((nameOf x).take 100).length ≤ _; rw [List.length_take]; omega) (by rw [hLKC, size_len]; show ((linkOf x).take 100).length ≤ _; rw [List.length_take]; omega)
        rw [show NMC.data.toList = (nameOf x).take 100 from by rw [hNMC], show LKC.data.toList = (linkOf x).take 100 from by rw [hLKC], hODs, HE2.out] at hlay2
        rw [← hODs] at hlay2
        have HCUT1 := Lib.hid hcut1
        have HCUT2 := Lib.hid hcut2
        have HLAY2 := Lib.hid hlay2
        have HODS := Lib.hid hODs
        have HOD := Lib.hid hOD
        rw [← hNM, ← hLK, ← hOD]
        have hod400 : OD.size ≤ 400 := by omega
        clear hcut1 hcut2 hlay2 hNM hLK hNMC hLKC hODs hOD
        by_cases hx0 : extraOf x = []
        case' pos =>
          have q0 : EX.toList.isEmpty = true := by rw [hEXl, hx0]; rfl
          have hp0 : paxOf x = [] := by unfold paxOf; rw [if_pos hx0]
          have HP0 := Lib.hid hp0
          have HO5 : Hid (OwnB w2 w.heap.size (.slice A1 n1 c1) (L ++ paxOf x)) := Lib.hid (by rw [hp0, List.append_nil]; exact HO2.out)
          have HB5 := HB2
          clear hEX hEXs hEXl hp0 hx0 HO2 HB2
          obtain ⟨w5, hw5⟩ : ∃ w5, w5 = w2 := ⟨_, rfl⟩
          obtain ⟨A5, hA5⟩ : ∃ A5, A5 = A1 := ⟨_, rfl⟩
          obtain ⟨n5, hn5⟩ : ∃ n5, n5 = n1 := ⟨_, rfl⟩
          obtain ⟨c5, hc5⟩ : ∃ c5, c5 = c1 := ⟨_, rfl⟩
          subst hw5 hA5 hn5 hc5
          go_wp2_with fail
        case' neg =>
          have q0 : EX.toList.isEmpty = false := by rw [hEXl]; simpa using hx0
          have hpax := HX.out.pax hx0
          have hp1 : paxOf x = entryOf [112, 97, 120] 5 [] (extraOf x) := by unfold paxOf; rw [if_neg hx0]
          have hlay := fun W => rLay_any ⟨#[112, 97, 120]⟩ ⟨#[]⟩ 5 EX.size W (by omega) (by decide) (by decide)
          rw [show (⟨#[112, 97, 120]⟩ : ByteArray).data.toList = [112, 97, 120] from rfl, show (⟨#[]⟩ : ByteArray).data.toList = [] from rfl] at hlay
          rw [hEXs, hpax] at hlay
          rw [← hEXs] at hlay
          have HLAY := Lib.hid hlay
          have hEX1000 : EX.size ≤ 1000 := by omega
          have HPAX := Lib.hid hpax
          have HEX := Lib.hid hEX
          have HP1 := Lib.hid hp1
          have HEXS := Lib.hid hEXs
          clear hlay hpax hEX hEXs hEXl hp1 hx0
          go_wp2_with fail
          refine (HLAY.out _).mono ?_
          rintro e w3 ⟨B3, rfl, hlo3, hby3, hl53, hb3⟩
          have hB3 := HB2.out.trans (hb3.mono HB2.out.size)
          have ho3 := HO2.out.blk fun j hj => hb3.block j (HO2.out.lt j hj).2
          rw [HEXS.out] at hby3
          obtain ⟨A2, n2, c2, w4a, A3, n3, c3, w4, hr4a, hr4, hb4, hbs4, hpad4⟩ := add_entry ho3 hB3.size hby3 HPAX.out HMOD.out (by omega) (by omega) 22 EX HEX.out
          rw [← HP1.out] at hpad4
          have HR4a := Lib.hid hr4a
          have HR4 := Lib.hid hr4
          have HPAD4 := Lib.hid hpad4
          have HB4 := Lib.hid (hB3.trans hb4)
          clear hlo3 hby3 hl53 hb3 hB3 ho3 hr4a hr4 hb4 hbs4 hpad4 HLAY HO2 HB2 HPAX HEX HP1 HEXS
          go_wp2_with (at_builtin; first | refine Lib.wpList_append_run (o := ⟨some 43, _, _, _, _, _⟩) _ rfl _ _ _ _ rfl _ _ rfl rfl _ _ HR4a.out ?_ | refine Lib.wpList_append_run (o := ⟨some 45, _, _, _, _, _⟩) _ rfl _ _ _ _ rfl _ _ rfl rfl _ _ HR4.out ?_)
          refine (HPAD4.out _ (Below.refl _ _)).mono ?_
          rintro e w5 ⟨A5, n5, c5, rfl, ho5, hb5⟩
          have HO5 := Lib.hid ho5
          have HB5 := Lib.hid (HB4.out.trans hb5)
          clear ho5 hb5 HB4 HPAD4 HR4 HR4a
          go_wp2_with fail
        all_goals
          have hd1 : w5.cell? ⟨(ad.add (k * 3)).block, (ad.add (k * 3)).off + 1, none⟩ = some (.int .i64 x.kind) := by
            obtain ⟨ad', e, _, hc2, _⟩ := at_nd (Kd.C_below HC.out HB5.out) k hlt
            cases e
            rw [← HXE.out] at hc2
            exact hc2
          have hsz5 : (ad.add (k * 3)).block < w5.heap.size := cell_lt (a := ⟨(ad.add (k * 3)).block, (ad.add (k * 3)).off + 1, none⟩) hd1
          go_region_held3 (fun w' => w'.cell? ⟨(ad.add (k * 3)).block, (ad.add (k * 3)).off + 1, none⟩ = some (.int .i64 x.kind))
            (first | exact (hc6 _ _ hsz5).trans hd1 | go_keep)
            (first | (go_at_call 38; first | ((with_reducible refine (HCUT1.out _).mono ?_); rintro e w' ⟨rfl, rfl⟩) | ((with_reducible refine (HCUT2.out _).mono ?_); rintro e w' ⟨rfl, rfl⟩)) | (go_at_call 34; refine (HLAY2.out _).mono ?_; rintro e w6 ⟨B6, rfl, hlo6, hby6, hl56, hb6⟩; obtain ⟨hc6, hf6⟩ := bcell hb6))
          have hb6' : Below w5.heap.size w5 w6 := below_two (show Below w5.heap.size w5 w5.drew from ⟨rfl, rfl, rfl, Nat.le_refl _, fun _ _ => rfl⟩) hb6
          have hB6 := HB5.out.trans (hb6'.mono HB5.out.size)
          have ho6 := HO5.out.blk fun j hj => hb6'.block j (HO5.out.lt j hj).2
          rw [HODS.out] at hby6
          have hm6 : (L ++ paxOf x).length % 512 = 0 := by have h1 := HMOD.out; have h2 := HPM.out; rw [List.length_append]; omega
          obtain ⟨A7, n7, c7, w7, A8, n8, c8, w8, hr7, hr8, hb8, hbs8, hpad8⟩ := add_entry ho6 hB6.size hby6 HE2.out hm6 (by rw [List.length_append]; omega) (by omega) 22 OD HOD.out
          rw [← HE1.out, ← HSN.out] at hpad8
          have HR7 := Lib.hid hr7
          have HR8 := Lib.hid hr8
          have HPAD8 := Lib.hid hpad8
          have HB8 := Lib.hid (hB6.trans hb8)
          clear hlo6 hby6 hl56 hb6 hb6' hB6 ho6 hr7 hr8 hb8 hbs8 hpad8 hc6 hf6 hm6 hd1 hsz5 HCUT1 HCUT2 HLAY2 HO5 HB5
          go_wp2_with (at_builtin; first | refine Lib.wpList_append_run (o := ⟨some 64, _, _, _, _, _⟩) _ rfl _ _ _ _ rfl _ _ rfl rfl _ _ HR7.out ?_ | refine Lib.wpList_append_run (o := ⟨some 66, _, _, _, _, _⟩) _ rfl _ _ _ _ rfl _ _ rfl rfl _ _ HR8.out ?_)
          refine (HPAD8.out _ (Below.refl _ _)).mono ?_
          rintro e w9 ⟨A9, n9, c9, rfl, ho9, hb9⟩
          have HO9 := Lib.hid ho9
          have HB9 := Lib.hid (HB8.out.trans hb9)
          clear ho9 hb9 HR7 HR8 HPAD8 HB8
          go_wp2_with fail
          go_roundw
          case rel => exact ⟨k + 1, A9, n9, c9, by omega, by go_num, rfl, HO9, HB9⟩
          case measure => simp [intOf]; omega
      · obtain rfl : k = t.length := by omega
        rw [List.take_length] at HO
        have hll := (laid_le t HOK.out).1
        obtain ⟨v3, w3, hr3, ho3, hg3, hl3⟩ := HO.out.appZ 22 1024 (by omega) HB.out.size
        obtain ⟨A3, n3, c3, rfl⟩ := ho3.form
        have gr3 := Gr.of HO.out HB.out.size hg3 hl3
        have HR3 := Lib.hid hr3
        have HO3 := Lib.hid ho3
        have HB3 := Lib.hid (HB.out.trans gr3.below)
        clear hr3 ho3 hg3 hl3 gr3 hll HO HB HC HOK
        go_wp2_with (at_builtin; refine Lib.wpList_append_run _ rfl _ _ _ _ rfl _ _ rfl rfl _ _ HR3.out ?_)
        go_ret2
        exact ⟨A3, n3, c3, rfl, HO3.out, HB3.out⟩
end Go.Proofs.YtbkjjapeojclpaaGreatDoor
