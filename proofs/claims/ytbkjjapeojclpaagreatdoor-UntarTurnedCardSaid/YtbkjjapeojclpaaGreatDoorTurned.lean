/- The law UntarTurned, walked. -/
import Derived.Test.YtbkjjapeojclpaaGreatDoorBack
import Derived.StillTailTactics
namespace Go.Proofs.YtbkjjapeojclpaaGreatDoor
set_option linter.unusedVariables false
set_option linter.unusedSimpArgs false
open Go.RowKit Go.Proofs.YtbkjjapeojclpaaGreatDoorW.PrintWords
set_option maxHeartbeats 400000
set_option maxRecDepth 100000

theorem xor_byte (a : UInt8) (m : Nat) (hm : m < 255) : bits .xor .u8 (a.toNat : Int) (1 + (m : Int)) = ((a ^^^ UInt8.ofNat (1 + m)).toNat : Int) := by
  have h1 : a.toNat < 256 := a.toNat_lt
  have e : (1 : Int) + (m : Int) = ((1 + m : Nat) : Int) := by omega
  have e1 : a.toNat % 2 ^ IntKind.u8.bits = a.toNat := Nat.mod_eq_of_lt h1
  have e2 : (1 + m) % 2 ^ IntKind.u8.bits = 1 + m := Nat.mod_eq_of_lt (show 1 + m < 256 by omega)
  rw [UInt8.toNat_xor, UInt8.toNat_ofNat_of_lt' (show 1 + m < 256 by omega), e]
  simp only [bits, BitVec.ofInt_natCast, BitVec.toNat_xor, BitVec.toNat_ofNat, e1, e2]
  rw [IntKind.wrap_u8]
  have := Nat.xor_lt_two_pow (n := 8) h1 (show 1 + m < 2 ^ 8 by omega)
  omega
theorem xor_ne (a : UInt8) (m : Nat) (hm : m < 255) : a ^^^ UInt8.ofNat (1 + m) ≠ a := by
  intro h
  have h2 : a ^^^ (a ^^^ UInt8.ofNat (1 + m)) = a ^^^ a := by rw [h]
  rw [← UInt8.xor_assoc, UInt8.xor_self, UInt8.zero_xor] at h2
  have := congrArg UInt8.toNat h2
  rw [UInt8.toNat_ofNat_of_lt' (show 1 + m < 256 by omega)] at this
  simp at this
/-- A byte of a row of the call's own written. -/
theorem OwnB.store {w : World} {base : Nat} {A : Option Addr} {n c : Nat} {l : Bs} (h : OwnB w base (.slice A n c) l) (k : Nat) (hk : k < l.length) (y : UInt8) :
    ∃ g, A = some ⟨g, 0, none⟩ ∧ w.cell? ⟨g, k, none⟩ = some (.int .u8 (l.getD k 0).toNat) ∧ w.frozen? ⟨g, k, none⟩ = false ∧
      OwnB (w.setCell ⟨g, k, none⟩ (bval y)) base (.slice A n c) (l.set k y) ∧ Below base w (w.setCell ⟨g, k, none⟩ (bval y)) := by
  rcases h.2 with ⟨hv, h0⟩ | ⟨g, cap, cur, hv, hb, hg, hc, hm, hs, ht⟩
  · omega
  · cases hv
    have hcell : w.cell? ⟨g, k, none⟩ = some (.int .u8 (l.getD k 0).toNat) := by
      rw [blk_cell hg]
      have h1 : (cur.toList.take (l.length * 1))[k]? = (l.map bval)[k]? := by rw [ht]
      rw [List.getElem?_take_of_lt (by omega), Array.getElem?_toList] at h1
      rw [h1, List.getElem?_map, List.getElem?_eq_getElem hk, List.getD_eq_getElem?_getD, List.getElem?_eq_getElem hk]
      rfl
    refine ⟨g, rfl, hcell, blk_frozen hg k, ⟨by simp, .inr ⟨g, c, cur.setIfInBounds k (bval y), ?_, hb, blk_set hg k _, by simpa using hc, hm, by simpa using hs, ?_⟩⟩, (Below.refl base w).setCell hb _⟩
    · rw [List.length_set]
    · rw [List.length_set, Array.toList_setIfInBounds, List.take_set, ht, List.map_set]
theorem Low_nat (x n : Int) (hn : 1 ≤ n) : ∃ k : Nat, IntKind.u64.wrap x % n = k ∧ (k : Int) < n := by
  have h1 := Int.emod_nonneg (IntKind.u64.wrap x) (show n ≠ 0 by omega)
  have h2 := Int.emod_lt_of_pos (IntKind.u64.wrap x) (show 0 < n by omega)
  exact ⟨(IntKind.u64.wrap x % n).toNat, by omega, by omega⟩
def TurnedPost (w : World) (e : Ending) (w' : World) : Prop := e = .returned (.bool true) ∧ Below w.heap.size w w'
set_option maxHeartbeats 1000000 in
theorem UntarTurned_any (t : List Nd) (A : Option Addr) (c : Nat) (i x : Int) (w : World) (hG : Glob w) (hC : kNd.C w A t.length t) (hc : t.length ≤ c) :
    Calls Tryz.prog 5 #[.slice A t.length c, .int .i64 i, .int .i64 x] w (TurnedPost w) := by
  have hGr := GreatNodes_any t A c 12 w hC hc (by omega)
  cases hgr : greatF t 12 with
  | true =>
    rw [hgr] at hGr
    have HGR := Lib.hid hGr
    clear hGr hgr hC
    go_enter Tryz.func5, Tryz.ntmps5
    go_wp2_with (first | (go_at_call 15; refine HGR.out.mono ?_; rintro e w' ⟨rfl, rfl⟩) | (go_at_call 6; refine (awake_any _ hG).mono ?_; rintro e w1 ⟨rfl, hb1⟩))
    go_ret
    exact ⟨rfl, hb1⟩
  | false =>
    rw [hgr] at hGr
    have HGR := Lib.hid hGr
    have hL := fun W hG hC => Lay_at A t.length c t W hG rfl hC hc
    have HC := Lib.hid hC
    clear hGr hgr hC
    cases hok : treeOk t with
    | false =>
      rw [hok, if_neg (by decide), if_neg (by decide)] at hL
      have HL := Lib.hid hL
      clear hL hok
      go_enter Tryz.func5, Tryz.ntmps5
      go_wp2_with (go_at_call 15; refine HGR.out.mono ?_; rintro e w' ⟨rfl, rfl⟩)
      refine (HL.out _ hG HC.out).mono ?_
      rintro e w3 ⟨Ax, nx, cx, rfl, hOx, hb3⟩
      have HB3 := Lib.hid hb3
      have HG3 := Lib.hid (hG.below' hb3)
      clear hOx hb3
      go_wp2_with (go_at_call 6; refine (awake_any _ HG3.out).mono ?_; rintro e w4 ⟨rfl, hb4⟩)
      go_ret
      exact ⟨rfl, below_two HB3.out hb4⟩
    | true =>
      have hll := layOf_le hok
      have hlo : 1024 ≤ (layOf t).length := by unfold layOf; rw [List.length_append, rep, List.length_replicate]; omega
      rw [hok, if_pos rfl, if_pos rfl] at hL
      have HL := Lib.hid hL
      have HOK := Lib.hid hok
      clear hL hok
      obtain ⟨X, hX⟩ : ∃ X, X = layOf t := ⟨_, rfl⟩
      rw [← hX] at HL hll hlo
      have HX := Lib.hid hX
      clear hX
      obtain ⟨L, hLL⟩ : ∃ L, L = X.length := ⟨_, rfl⟩
      rw [← hLL] at hll hlo
      obtain ⟨k, hk, hkL⟩ := Low_nat i L (by omega)
      obtain ⟨m, hm, hm255⟩ := Low_nat x 255 (by omega)
      have hlow1 := fun W => Low_any i L W (by omega) (by omega)
      have hlow2 := fun W => Low_any x 255 W (by omega) (by omega)
      rw [hk] at hlow1
      rw [hm] at hlow2
      have HLOW1 := Lib.hid hlow1
      have HLOW2 := Lib.hid hlow2
      have HLL := Lib.hid hLL
      clear hk hm hlow1 hlow2 hLL
      have b1 : ((L : Int) == 0) = false := by rw [beq_eq_false_iff_ne]; omega
      have b2 : (L == 0) = false := by rw [beq_eq_false_iff_ne]; omega
      go_enter Tryz.func5, Tryz.ntmps5
      go_wp2_with (go_at_call 15; refine HGR.out.mono ?_; rintro e w' ⟨rfl, rfl⟩)
      refine (HL.out _ hG HC.out).mono ?_
      rintro e w1 ⟨Ax, nx, cx, rfl, hOx, hb1⟩
      obtain ⟨hnx, px, lex, mxx, Cx⟩ := hOx.use
      rw [← HLL.out] at hnx lex
      subst nx
      obtain ⟨ax, eax⟩ : ∃ ax, Ax = some ax := by
        obtain ⟨ad, e, _⟩ := at_byte Cx 0 (by have := HLL.out; omega)
        exact ⟨ad, e⟩
      subst eax
      rw [← HLL.out] at Cx
      have HB1 := Lib.hid hb1
      obtain ⟨v2, w2, hr2, ho2, hg2, hl2⟩ := (OwnB.nil w1 w1.heap.size).app 22 ax L cx X Cx (by have := HLL.out; simp; omega) (Nat.le_refl _)
      rw [List.nil_append] at ho2
      have gr2 := Gr.of (OwnB.nil w1 w1.heap.size) (Nat.le_refl _) hg2 hl2
      have HB2 := Lib.hid gr2.below
      obtain ⟨A2, n2, c2, rfl⟩ := ho2.form
      obtain ⟨hn2, p2, le2, mx2, C2⟩ := ho2.use
      rw [← HLL.out] at hn2 le2 C2
      subst n2
      have HR2 := Lib.hid hr2
      have HO2 := Lib.hid ho2
      have HCX := Lib.hid Cx
      have HC2 := Lib.hid C2
      have HPX := Lib.hid px
      have HP2 := Lib.hid p2
      clear hOx hb1 Cx px hr2 ho2 hg2 hl2 gr2 p2 C2
      go_wp2_with (first | (at_builtin; refine Lib.wpList_append_run _ rfl _ _ _ _ rfl _ _ rfl rfl _ _ HR2.out ?_) | (go_at_call 19; refine (HLOW1.out _).mono ?_; rintro e w' ⟨rfl, rfl⟩))
      obtain ⟨y, hy⟩ : ∃ y : UInt8, y = X.getD k 0 ^^^ UInt8.ofNat (1 + m) := ⟨_, rfl⟩
      obtain ⟨g, eg, hcl, hfz, ho3, hb3⟩ := (HO2.out.blk (w' := w2.drew) (fun _ _ => rfl)).store k (by have := HLL.out; omega) y
      subst eg
      have hkc : (k : Int) < (L : Int) := hkL
      obtain ⟨z, hz⟩ : ∃ z, z = (X.getD k 0).toNat := ⟨_, rfl⟩
      rw [← hz] at hcl
      have hcl2 : w2.cell? ⟨g, k, none⟩ = some (.int .u8 z) := hcl
      have HY := Lib.hid hy
      have HZ := Lib.hid hz
      have HO3 := Lib.hid ho3
      have HB3 := Lib.hid hb3
      clear hy hz ho3 hb3
      refine wp_region_still_tail 10 (by kernel_rfl) (by kernel_rfl) ?_
      simp only [List.take_succ_cons, List.take_zero, List.drop_succ_cons, List.drop_zero]
      repeat still_step
      still_call ((HLOW2.out _).mono (fun _ _ ⟨h, k⟩ => ⟨h, k.symm⟩))
      repeat still_step
      refine wpStill_nil ?_
      change wpList _ _ _ _ _ w2.drew
      have hbd : Below w2.heap.size w2 w2.drew := ⟨rfl, rfl, rfl, Nat.le_refl _, fun _ _ => rfl⟩
      have HBD := Lib.hid (below_two HB2.out hbd)
      obtain ⟨w3, hw3⟩ : ∃ w3, w3 = w2.drew := ⟨_, rfl⟩
      rw [← hw3] at hcl hfz HO3 HB3 HBD ⊢
      clear hw3 hcl2 hbd
      go_wp2_with fail
      have hby : (Value.int IntKind.u8 (bits .xor .u8 (z : Int) (1 + (m : Int)))) = bval y := by
        rw [HZ.out, HY.out, xor_byte _ _ (by omega)]; rfl
      rw [hby]
      obtain ⟨w4, hw4⟩ : ∃ w4, w4 = w3.setCell ⟨g, k, none⟩ (bval y) := ⟨_, rfl⟩
      rw [← hw4] at HO3 HB3 ⊢
      obtain ⟨hn4, p4, le4, mx4, C4⟩ := HO3.out.use
      obtain ⟨Y, hYY⟩ : ∃ Y, Y = X.set k y := ⟨_, rfl⟩
      rw [← hYY] at hn4 le4 C4
      have hYl : Y.length = L := hn4.symm
      have hYX : Y ≠ layOf t := by
        rw [← HX.out, hYY]
        intro e
        have h1 := congrArg (fun l => l.getD k 0) e
        simp only [List.getD_eq_getElem?_getD] at h1
        rw [List.getElem?_set_self (by have := HLL.out; omega), Option.getD_some] at h1
        rw [← List.getD_eq_getElem?_getD] at h1
        exact xor_ne _ _ (by omega) (HY.out.symm.trans h1)
      have hB4' := below_two HB1.out (HBD.out.trans HB3.out)
      have HB4 := Lib.hid hB4'
      have HG4 := Lib.hid (hG.below' hB4')
      have HRY := Lib.hid (Read_at (some ⟨g, 0, none⟩) L c2 Y w4 HG4.out hYl.symm C4 le4 p4 mx4 (by omega))
      have HCX4 := Lib.hid (Kd.C_below HCX.out (HBD.out.trans HB3.out))
      have HYX := Lib.hid hYX
      clear hby hw4 hn4 p4 C4 hYY hYl hB4' HO3 HB3 HBD HY HZ hcl hfz HR2 HO2 HC2 HP2
      cases hry : readB Y
      case' false =>
        rw [hry] at HRY
        clear hry
        refine HRY.out.mono ?_
        rintro e w5 ⟨Au, nu, cu, rfl, hOu, hb5⟩
        rw [if_neg (by decide)] at hOu ⊢
        obtain ⟨hnu, leu, Cu⟩ := hOu.use
        obtain rfl : nu = 0 := hnu
        have HB5 := Lib.hid (below_two HB4.out hb5)
        have HCX5 := Lib.hid (Kd.C_below HCX4.out hb5)
        have HNO : Hid (∀ (W : World), Below w5.heap.size w5 W → Calls Tryz.prog 11 #[.slice Au 0 cu, .slice A t.length c] W fun e w' => e = .returned (.bool false) ∧ Below W.heap.size W w') := Lib.hid (by
          intro W hW
          have h0 : t ≠ [] := (treeOk_spec HOK.out).1
          have := SameNodes_any Au A 0 t.length cu c [] t W (Kd.C_below Cu hW) (Kd.C_below HC.out (below_two HB5.out hW)) (Nat.zero_le _) hc
          rwa [decide_eq_false (fun e => h0 e.symm)] at this)
        clear hOu hb5 Cu leu HRY
      case' true =>
        have hne := read_other HOK.out Y hYX hry
        rw [hry] at HRY
        clear hry
        refine HRY.out.mono ?_
        rintro e w5 ⟨Au, nu, cu, rfl, hOu, hb5⟩
        rw [if_pos rfl] at hOu ⊢
        obtain ⟨hnu, leu, Cu⟩ := hOu.use
        have HB5 := Lib.hid (below_two HB4.out hb5)
        have HCX5 := Lib.hid (Kd.C_below HCX4.out hb5)
        have HNO : Hid (∀ (W : World), Below w5.heap.size w5 W → Calls Tryz.prog 11 #[.slice Au nu cu, .slice A t.length c] W fun e w' => e = .returned (.bool false) ∧ Below W.heap.size W w') := Lib.hid (by
          intro W hW
          have := SameNodes_any Au A nu t.length cu c (readT Y) t W (by rw [hnu]; exact Kd.C_below Cu hW) (Kd.C_below HC.out (below_two HB5.out hW)) (by rw [hnu]; exact leu) hc
          rwa [decide_eq_false hne] at this)
        clear hOu hb5 Cu hnu leu HRY hne
      all_goals
        have HG5 := Lib.hid (hG.below' HB5.out)
        have hkX : k < X.length := by have := HLL.out; omega
        have hcut := read_cut HOK.out k (by rw [← HX.out]; exact hkX)
        rw [← HX.out] at hcut
        have hRK := Read_at (some ax) k cx (X.take k) w5 HG5.out (by rw [List.length_take]; omega) (by
          have := C_cut_to HCX5.out (show k ≤ L by omega)
          rwa [show (X.take k).length = k from by rw [List.length_take]; omega]) (by rw [List.length_take]; omega) HPX.out mxx (by rw [List.length_take]; omega)
        rw [hcut] at hRK
        have HRK := Lib.hid hRK
        have hkc2 : (k : Int) ≤ (cx : Int) := by omega
        clear hRK hcut hYX
        go_wp2_with fail
        refine HRK.out.mono ?_
        rintro e w6 ⟨Av, nv, cv, rfl, hOv, hb6⟩
        rw [if_neg (by decide)] at hOv ⊢
        have HB6 := Lib.hid (below_two HB5.out hb6)
        have HB56 := Lib.hid hb6
        have HG6 := Lib.hid (hG.below' HB6.out)
        have HCX6 := Lib.hid (Kd.C_below HCX5.out hb6)
        clear hOv hb6
        obtain ⟨v7, w7, hr7, ho7, hg7, hl7⟩ := (OwnB.nil w6 w6.heap.size).app 22 ax L cx X HCX6.out (by have := HLL.out; simp; omega) (Nat.le_refl _)
        rw [List.nil_append] at ho7
        have gr7 := Gr.of (OwnB.nil w6 w6.heap.size) (Nat.le_refl _) hg7 hl7
        obtain ⟨v8, w8, hr8, ho8, hg8, hl8⟩ := ho7.appZ 22 512 (by have := HLL.out; omega) gr7.below.size
        have gr8 := gr7.trans (Gr.of ho7 gr7.below.size hg8 hl8)
        obtain ⟨A7, n7, c7, rfl⟩ := ho7.form
        obtain ⟨A8, n8, c8, rfl⟩ := ho8.form
        obtain ⟨hn8, p8, le8, mx8, C8⟩ := ho8.use
        have HB8 := Lib.hid (below_two HB6.out gr8.below)
        have HB58 := Lib.hid (below_two HB56.out gr8.below)
        have HG8 := Lib.hid (hG.below' HB8.out)
        have hmore := read_more HOK.out (rep 0 512) (by simp [rep, List.replicate_succ])
        rw [← HX.out] at hmore
        have hRM := Read_at A8 n8 c8 (X ++ rep 0 512) w8 HG8.out hn8 C8 le8 p8 mx8 (by have := HLL.out; rw [List.length_append, rep, List.length_replicate]; omega)
        rw [hmore] at hRM
        have HRM := Lib.hid hRM
        have HR7 := Lib.hid hr7
        have HR8 := Lib.hid hr8
        clear hr7 ho7 hg7 hl7 gr7 hr8 ho8 hg8 hl8 gr8 hn8 p8 le8 mx8 C8 hmore hRM
        go_wp2_with (at_builtin; first | refine Lib.wpList_append_run (o := ⟨some 61, _, _, _, _, _⟩) _ rfl _ _ _ _ rfl _ _ rfl rfl _ _ HR7.out ?_ | refine Lib.wpList_append_run (o := ⟨some 62, _, _, _, _, _⟩) _ rfl _ _ _ _ rfl _ _ rfl rfl _ _ HR8.out ?_)
        refine HRM.out.mono ?_
        rintro e w9 ⟨Aw, nw, cw, rfl, hOw, hb9⟩
        rw [if_neg (by decide)] at hOw ⊢
        have HB9 := Lib.hid (below_two HB8.out hb9)
        have HB59 := Lib.hid (below_two HB58.out hb9)
        have HG9 := Lib.hid (hG.below' HB9.out)
        clear hOw hb9
        first
        | (go_wp2_with (go_at_call 6; refine (awake_any _ HG9.out).mono ?_; rintro e w11 ⟨rfl, hb11⟩)
           go_ret
           exact ⟨rfl, below_two HB9.out hb11⟩)
        | (go_wp2_with fail
           refine (HNO.out w9 HB59.out).mono ?_
           rintro e w10 ⟨rfl, hb10⟩
           have HB10 := Lib.hid (below_two HB9.out hb10)
           have HG10 := Lib.hid (hG.below' HB10.out)
           clear hb10
           go_wp2_with (go_at_call 6; refine (awake_any _ HG10.out).mono ?_; rintro e w11 ⟨rfl, hb11⟩)
           go_ret
           exact ⟨rfl, below_two HB10.out hb11⟩)
end Go.Proofs.YtbkjjapeojclpaaGreatDoor
