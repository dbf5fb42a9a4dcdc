/- untar: ended, Read, Names. -/
import Derived.Test.YtbkjjapeojclpaaGreatDoorUNode
import Derived.Test.YtbkjjapeojclpaaGreatDoorLaid
import Derived.Test.YtbkjjapeojclpaaGreatDoorOwnN
namespace Go.Proofs.YtbkjjapeojclpaaGreatDoor
set_option linter.unusedVariables false
set_option linter.unusedSimpArgs false
open Go.RowKit Go.Proofs.YtbkjjapeojclpaaGreatDoorW.PrintWords
set_option maxHeartbeats 400000
set_option maxRecDepth 100000

def endF (l : Bs) : Bool := decide (l.length = 1024) && (Lib.trimS l [0]).isEmpty
theorem ended_any (w0 w : World) (R : Nat) (s : St) (hG : Glob w0) (h : Rd w0 w R s) (hl : s.l.length ≤ 4000000) :
    Calls Tryz.prog 21 #[.pointer (some ⟨R, 0, none⟩)] w fun e w' => e = .returned (.bool (endF s.l)) ∧ Below w.heap.size w w' := by
  obtain ⟨A, c, hb, hC, hc, hp, hcm⟩ := h.blk
  have c0 : w.cell? ⟨R, 0, none⟩ = some (.slice A s.l.length c) := by simp [World.cell?, hb]
  by_cases hn : s.l.length = 1024
  · have b1 : ((s.l.length : Int) == 1024) = true := by rw [beq_iff_eq]; omega
    obtain ⟨ad, rfl, hx0⟩ := at_byte hC 0 (by omega)
    obtain ⟨b, o, sp⟩ := ad
    have hsp : sp = none := by simpa [Addr.add] using World.cell?_spot hx0
    subst hsp
    clear hx0
    have HT := Lib.hid (Trim_any b o s.l.length c s.l w (Kd.C_below hC h.below) hc hcm (by omega))
    obtain ⟨m, hm⟩ : ∃ m, m = (Lib.trimS s.l [0]).length := ⟨_, rfl⟩
    have hE : endF s.l = (m == 0) := by
      unfold endF; rw [decide_eq_true hn, Bool.true_and, hm]
      cases Lib.trimS s.l [0] <;> simp
    rw [← hm] at HT
    rw [hE]
    have HC := Lib.hid hC
    clear hC hb h hn hm hE hp hG hcm
    go_enter Tryz.func21, Tryz.ntmps21
    go_wp2_with fail
    refine HT.out.mono ?_
    rintro e w1 ⟨A', c', rfl, hb1⟩
    have em : ((m : Int) == 0) = (m == 0) := by rw [Bool.eq_iff_iff, beq_iff_eq, beq_iff_eq]; omega
    cases hm : (m == 0) with
    | true =>
      rw [hm] at em
      go_wp2_with fail
      go_ret
      exact ⟨by rw [hm]; rfl, hb1⟩
    | false =>
      rw [hm] at em
      go_wp2_with fail
      go_ret
      exact ⟨by rw [hm]; rfl, hb1⟩
  · have b1 : ((s.l.length : Int) == 1024) = false := by rw [beq_eq_false_iff_ne]; omega
    have hE : endF s.l = false := by unfold endF; rw [decide_eq_false hn, Bool.false_and]
    rw [hE]
    clear hC hb h hn hE hp hG
    go_enter Tryz.func21, Tryz.ntmps21
    go_wp2_with fail
    go_ret
    exact ⟨rfl, Below.refl _ _⟩
def readL (s : St) (t : List Nd) : List Nd × St :=
  if !s.bad && !endF s.l && decide (t.length ≤ 400) then readL (nodeF s).2 (t ++ [(nodeF s).1]) else (t, s)
termination_by 401 - t.length
decreasing_by
  rename_i h
  simp only [Bool.and_eq_true, decide_eq_true_eq] at h
  simp only [List.length_append, List.length_singleton]
  omega
noncomputable def readT (b : Bs) : List Nd := (readL ⟨b, false⟩ []).1
noncomputable def readB (b : Bs) : Bool := !(readL ⟨b, false⟩ []).2.bad && treeOk (readT b) && (layOf (readT b) == b)
def ReadPost (w : World) (t : List Nd) (ok : Bool) (e : Ending) (w' : World) : Prop :=
  ∃ A n c, e = .returned (.tuple #[.slice A n c, .int .i64 (if ok then 0 else 5)]) ∧ OwnN w' w.heap.size (.slice A n c) (if ok then t else []) ∧ Below w.heap.size w w'
theorem readL_stop (s : St) (t : List Nd) (h : (!s.bad && !endF s.l && decide (t.length ≤ 400)) = false) : readL s t = (t, s) := by rw [readL, h]; rfl
theorem readL_go (s : St) (t : List Nd) (h : (!s.bad && !endF s.l && decide (t.length ≤ 400)) = true) : readL s t = readL (nodeF s).2 (t ++ [(nodeF s).1]) := by rw [readL, if_pos h]
theorem Read_any (A : Option Addr) (c : Nat) (b : Bs) (w : World) (hG : Glob w) (hC : kByte.C w A b.length b) (hc : b.length ≤ c) (hp : Plain A) (hcm : c ≤ 9223372036854775807) (hl : b.length ≤ 4000000)
    (hok : ∀ t, treeOk t = true → (∀ n ∈ t, NdOk n) ∧ t.length ≤ 400) :
    Calls Tryz.prog 8 #[.slice A b.length c] w (ReadPost w (readT b) (readB b)) := by
  obtain ⟨T, S, hTS⟩ : ∃ T S, (T, S) = readL ⟨b, false⟩ [] := ⟨_, _, rfl⟩
  have hRB : readB b = (!S.bad && treeOk T && (layOf T == b)) ∧ readT b = T := by unfold readB readT; rw [← hTS]; exact ⟨rfl, rfl⟩
  rw [hRB.1, hRB.2]
  obtain ⟨OK, hOK⟩ : ∃ OK, OK = (!S.bad && treeOk T && (layOf T == b)) := ⟨_, rfl⟩
  rw [← hOK]
  have HOK := Lib.hid hOK
  clear hOK
  have HTS := Lib.hid hTS
  have HC := Lib.hid hC
  have HP := Lib.hid hp
  clear hTS hRB hC hp
  go_enter Tryz.func8, Tryz.ntmps8
  go_wp2_with fail
  go_loopw [5] (fun u wr => ∃ (A1 : Option Addr) (n1 c1 : Nat) (s : St) (t : List Nd), u = .slice A1 n1 c1 ∧ n1 = t.length ∧ n1 ≤ 401 ∧ s.l.length ≤ b.length ∧ Hid (Rd w wr w.heap.size s) ∧ Hid (OwnN wr w.heap.size (.slice A1 n1 c1) t) ∧ Hid ((Value.slice A1 n1 c1).ownBlock ≠ some w.heap.size) ∧ Hid (readL s t = (T, S)))
    (fun u _ => match u with | .slice _ n _ => 401 - n | _ => 0)
  case atStart =>
    exact ⟨none, 0, 0, ⟨b, false⟩, [], rfl, rfl, by omega, Nat.le_refl _, Lib.hid ⟨⟨A, c, heap_alloc_new w _, HC.out, hc, HP.out, hcm⟩, (Below.refl _ _).alloc (Nat.le_refl _) _, Nat.le_refl _⟩, Lib.hid (OwnN.nil _ _), Lib.hid (by simp [Value.ownBlock]), Lib.hid HTS.out.symm⟩
  case round =>
    obtain ⟨A1, n1, c1, s, t, rfl, hn1, hn401, hsl, HR, HO, HNE, HF⟩ := hrel
    have HN1 := Lib.hid hn1
    clear hn1
    obtain ⟨Ar, cr, hb, hCr, hcr⟩ := HR.out.blk
    have d1 : wr.cell? ⟨w.heap.size, 1, none⟩ = some (.bool s.bad) := by simp [World.cell?, hb]
    clear hb hCr hcr
    have HEND := Lib.hid (ended_any w wr w.heap.size s hG HR.out (by omega))
    obtain ⟨bd, hbd⟩ : ∃ bd, bd = s.bad := ⟨_, rfl⟩
    obtain ⟨en, hen⟩ : ∃ en, en = endF s.l := ⟨_, rfl⟩
    rw [← hbd] at d1
    rw [← hen] at HEND
    have HBD := Lib.hid hbd
    have HEN := Lib.hid hen
    clear hbd hen
    by_cases hcont : (!bd && !en && decide (n1 ≤ 400)) = true
    · simp only [Bool.and_eq_true, Bool.not_eq_true', decide_eq_true_eq] at hcont
      obtain ⟨⟨rfl, rfl⟩, h400⟩ := hcont
      have hn400' : n1 ≤ 400 := h400
      have b4 : decide ((n1 : Int) ≤ 400) = true := decide_eq_true (by omega)
      have HF2 : Hid (readL (nodeF s).2 (t ++ [(nodeF s).1]) = (T, S)) := Lib.hid (by rw [← HF.out, readL_go s t (by rw [← HBD.out, ← HEN.out, ← HN1.out, decide_eq_true h400]; rfl)])
      clear h400
      go_wp2_with fail
      refine HEND.out.mono ?_
      rintro e w1 ⟨rfl, hb1⟩
      go_wp2_with fail
      have hnd := nodeR_b s (by omega)
      obtain ⟨X, s', hX⟩ : ∃ X s', (X, s') = nodeF s := ⟨_, _, rfl⟩
      have hs' : s'.l.length ≤ s.l.length := by have : s' = (nodeR s).2 := by rw [show s' = (nodeF s).2 from by rw [← hX]]; rfl
                                                rw [this]; exact hnd.2
      have hNode := node_r_any w w1 w.heap.size s hG (HR.out.belowR hb1) (by omega)
      rw [← hX] at hNode HF2
      have HNODE := Lib.hid hNode
      have HO1 := Lib.hid (HO.out.blk fun k hk => hb1.block k (HO.out.lt k hk).2)
      clear hnd hX hNode hb1 HEND d1
      refine HNODE.out.mono ?_
      rintro e w2 ⟨rfl, hR2, hB2⟩
      have hO2 := HO1.out.blk fun k hk => hB2.blk k (HO1.out.lt k hk).2 (fun e => HNE.out (by rw [hk, e]))
      have hbl3 : Below w2.heap.size w2 (w2.alloc (.cells #[.string ⟨X.path.toArray⟩, .int .i64 X.kind, .string ⟨X.data.toArray⟩] 38)) := (Below.refl _ _).alloc (Nat.le_refl _) _
      have hO3 := hO2.blk fun k hk => hbl3.block k (hO2.lt k hk).2
      have hR3 := hR2.belowR hbl3
      have hsz3 : w.heap.size ≤ (w2.alloc (.cells #[.string ⟨X.path.toArray⟩, .int .i64 X.kind, .string ⟨X.data.toArray⟩] 38)).heap.size := hR3.below.size
      obtain ⟨v4, w4, hr4, ho4, hg4, hl4⟩ := hO3.app1 25 ⟨w2.heap.size, 0, none⟩ X (fun j u hj => by
        rw [add_blk, World.cell?_alloc_new]
        rw [← hj]; simp [Nd.vals]) (by rw [← HN1.out]; omega) hsz3
      have gr4 := GrN hO3 hsz3 hg4 hl4
      obtain ⟨A4, c4, rfl, hc4⟩ := ho4.form
      have hne4 : (Value.slice A4 (t ++ [X]).length c4).ownBlock ≠ some w.heap.size := fun e => (hl4 _ e).elim HNE.out (fun h => by have := hR3.lt; omega)
      have hR4 : Rd w w4 w.heap.size s' := hR3.keep (gr4.fr _ hR3.lt HNE.out) (hR3.below.trans gr4.below)
      have hlen : (t ++ [X]).length = n1 + 1 := by rw [List.length_append, List.length_singleton, HN1.out]
      rw [hlen] at hr4 ho4 hne4
      have HR4 := Lib.hid hR4
      have HO4 := Lib.hid ho4
      have HNE4 := Lib.hid hne4
      have HRUN := Lib.hid hr4
      have HLEN := Lib.hid hlen
      have hn400 : n1 ≤ 400 := hn400'
      clear hR2 hB2 hO2 hbl3 hO3 hR3 hsz3 hr4 ho4 hg4 hl4 gr4 hne4 hR4 hlen HNODE HO1
      unfold Nd.val
      go_wp2_with (at_builtin; refine Lib.wpList_append_run _ rfl _ _ _ _ rfl _ _ rfl rfl _ _ HRUN.out ?_)
      go_roundw
      case rel => exact ⟨A4, n1 + 1, c4, s', t ++ [X], rfl, HLEN.out.symm, by omega, by omega, HR4, HO4, HNE4, HF2⟩
      case measure => simp; omega
    · have hcont' : (!bd && !en && decide (n1 ≤ 400)) = false := by simpa using hcont
      obtain ⟨rfl, rfl⟩ : t = T ∧ s = S := by
        have := HF.out
        rw [readL_stop s t (by rw [← HBD.out, ← HEN.out, ← HN1.out]; exact hcont')] at this
        exact Prod.mk.inj this
      obtain rfl := HN1.out
      cases bd with
      | true =>
        have hz : OK = false := by rw [HOK.out, ← HBD.out]; rfl
        have HZ := Lib.hid hz
        clear hz hcont hcont'
        have hcn := HO.out.C
        have hLay := Lay_t_any t A1 c1 wr (hG.below' HR.out.below) hcn.2.2 hcn.2.1 (hok t)
        have HLAY := Lib.hid hLay
        have hrl := HR.out.lt
        clear hcn hLay
        obtain ⟨z, hz7⟩ : ∃ z : Int, z = if treeOk t then 0 else 7 := ⟨_, rfl⟩
        obtain ⟨zb, hzb⟩ : ∃ zb : Bs, zb = if treeOk t then layOf t else [] := ⟨_, rfl⟩
        rw [← hz7, ← hzb] at HLAY
        clear hz7 hzb
        go_wp2_with fail
        refine HLAY.out.mono ?_
        rintro e w6 ⟨A5, m5, c5, rfl, hO5, hb6⟩
        have HR6 := Lib.hid (HR.out.belowR hb6)
        have HO6 := Lib.hid (HO.out.blk fun k hk => hb6.block k (HO.out.lt k hk).2)
        have d6 : w6.cell? ⟨w.heap.size, 1, none⟩ = some (.bool s.bad) := by
          obtain ⟨Ar, cr, hb, _⟩ := HR6.out.blk
          simp [World.cell?, hb]
        rw [← HBD.out] at d6
        have HO5 := Lib.hid hO5
        clear hb6 HLAY hO5
        go_wp2_with fail
        go_ret2
        exact ⟨none, 0, 0, by rw [HZ.out]; rfl, by rw [HZ.out]; exact OwnN.nil _ _, HR6.out.below⟩
      | false =>
        cases en with
        | true =>
          clear hcont hcont'
          go_wp2_with fail
          refine HEND.out.mono ?_
          rintro e w1 ⟨rfl, hb1⟩
          have HRV := Lib.hid (HR.out.belowR hb1)
          have HOV := Lib.hid (HO.out.blk fun k hk => hb1.block k (HO.out.lt k hk).2)
          clear hb1 HEND d1
          have hcn := HOV.out.C
          have hLay := Lay_t_any t A1 c1 w1 (hG.below' HRV.out.below) hcn.2.2 hcn.2.1 (hok t)
          have HLAY := Lib.hid hLay
          have hrl := HRV.out.lt
          clear hcn hLay
          cases htr : treeOk t with
          | false =>
            have hz : OK = false := by rw [HOK.out, htr, Bool.and_false, Bool.false_and]
            rw [htr] at HLAY
            have HZ := Lib.hid hz
            clear hz htr
            go_wp2_with fail
            refine HLAY.out.mono ?_
            rintro e w6 ⟨A5, m5, c5, rfl, hO5, hb6⟩
            have HR6 := Lib.hid (HRV.out.belowR hb6)
            have HO6 := Lib.hid (HOV.out.blk fun k hk => hb6.block k (HOV.out.lt k hk).2)
            have d6 : w6.cell? ⟨w.heap.size, 1, none⟩ = some (.bool s.bad) := by
              obtain ⟨Ar, cr, hb, _⟩ := HR6.out.blk
              simp [World.cell?, hb]
            rw [← HBD.out] at d6
            have HO5 := Lib.hid hO5
            clear hb6 HLAY hO5
            go_wp2_with fail
            go_ret2
            exact ⟨none, 0, 0, by rw [HZ.out]; rfl, by rw [HZ.out]; exact OwnN.nil _ _, HR6.out.below⟩
          | true =>
            rw [htr] at HLAY
            have HTR := Lib.hid htr
            clear htr
            go_wp2_with fail
            refine HLAY.out.mono ?_
            rintro e w6 ⟨A5, m5, c5, rfl, hO5, hb6⟩
            have HR6 := Lib.hid (HRV.out.belowR hb6)
            have HO6 := Lib.hid (HOV.out.blk fun k hk => hb6.block k (HOV.out.lt k hk).2)
            have d6 : w6.cell? ⟨w.heap.size, 1, none⟩ = some (.bool s.bad) := by
              obtain ⟨Ar, cr, hb, _⟩ := HR6.out.blk
              simp [World.cell?, hb]
            rw [← HBD.out] at d6
            have HO5 := Lib.hid hO5
            clear hb6 HLAY hO5
            have hc5 := HO5.out.C
            have HEQ := Lib.hid (Equal_any A5 A m5 b.length c5 c (layOf t) b w6 (by have := hc5.2.2; rw [← hc5.1] at this; exact this) (Kd.C_below HC.out HR6.out.below))
            have HO6' := Lib.hid HO6.out
            clear hc5
            cases hq : (layOf t == b) with
            | false =>
              have hz : OK = false := by rw [HOK.out, hq, Bool.and_false]
              rw [hq] at HEQ
              have HZ := Lib.hid hz
              clear hz hq
              go_wp2_with (go_at_call 23; refine HEQ.out.mono ?_; rintro e w' ⟨rfl, rfl⟩)
              go_ret2
              exact ⟨none, 0, 0, by rw [HZ.out]; rfl, by rw [HZ.out]; exact OwnN.nil _ _, HR6.out.below⟩
            | true =>
              have hz : OK = true := by rw [HOK.out, hq, HTR.out, ← HBD.out]; rfl
              rw [hq] at HEQ
              have HZ := Lib.hid hz
              clear hz hq
              go_wp2_with (go_at_call 23; refine HEQ.out.mono ?_; rintro e w' ⟨rfl, rfl⟩)
              go_ret2
              exact ⟨A1, _, c1, by rw [HZ.out]; rfl, by rw [HZ.out]; exact HO6.out, HR6.out.below⟩
        | false =>
          have b4 : decide ((t.length : Int) ≤ 400) = false := by
            have : decide (t.length ≤ 400) = false := by simpa using hcont'
            have := of_decide_eq_false this
            exact decide_eq_false (by omega)
          clear hcont hcont'
          go_wp2_with fail
          refine HEND.out.mono ?_
          rintro e w1 ⟨rfl, hb1⟩
          have HRV := Lib.hid (HR.out.belowR hb1)
          have HOV := Lib.hid (HO.out.blk fun k hk => hb1.block k (HO.out.lt k hk).2)
          clear hb1 HEND d1
          have hcn := HOV.out.C
          have hLay := Lay_t_any t A1 c1 w1 (hG.below' HRV.out.below) hcn.2.2 hcn.2.1 (hok t)
          have HLAY := Lib.hid hLay
          have hrl := HRV.out.lt
          clear hcn hLay
          cases htr : treeOk t with
          | false =>
            have hz : OK = false := by rw [HOK.out, htr, Bool.and_false, Bool.false_and]
            rw [htr] at HLAY
            have HZ := Lib.hid hz
            clear hz htr
            go_wp2_with fail
            refine HLAY.out.mono ?_
            rintro e w6 ⟨A5, m5, c5, rfl, hO5, hb6⟩
            have HR6 := Lib.hid (HRV.out.belowR hb6)
            have HO6 := Lib.hid (HOV.out.blk fun k hk => hb6.block k (HOV.out.lt k hk).2)
            have d6 : w6.cell? ⟨w.heap.size, 1, none⟩ = some (.bool s.bad) := by
              obtain ⟨Ar, cr, hb, _⟩ := HR6.out.blk
              simp [World.cell?, hb]
            rw [← HBD.out] at d6
            have HO5 := Lib.hid hO5
            clear hb6 HLAY hO5
            go_wp2_with fail
            go_ret2
            exact ⟨none, 0, 0, by rw [HZ.out]; rfl, by rw [HZ.out]; exact OwnN.nil _ _, HR6.out.below⟩
          | true =>
            rw [htr] at HLAY
            have HTR := Lib.hid htr
            clear htr
            go_wp2_with fail
            refine HLAY.out.mono ?_
            rintro e w6 ⟨A5, m5, c5, rfl, hO5, hb6⟩
            have HR6 := Lib.hid (HRV.out.belowR hb6)
            have HO6 := Lib.hid (HOV.out.blk fun k hk => hb6.block k (HOV.out.lt k hk).2)
            have d6 : w6.cell? ⟨w.heap.size, 1, none⟩ = some (.bool s.bad) := by
              obtain ⟨Ar, cr, hb, _⟩ := HR6.out.blk
              simp [World.cell?, hb]
            rw [← HBD.out] at d6
            have HO5 := Lib.hid hO5
            clear hb6 HLAY hO5
            have hc5 := HO5.out.C
            have HEQ := Lib.hid (Equal_any A5 A m5 b.length c5 c (layOf t) b w6 (by have := hc5.2.2; rw [← hc5.1] at this; exact this) (Kd.C_below HC.out HR6.out.below))
            have HO6' := Lib.hid HO6.out
            clear hc5
            cases hq : (layOf t == b) with
            | false =>
              have hz : OK = false := by rw [HOK.out, hq, Bool.and_false]
              rw [hq] at HEQ
              have HZ := Lib.hid hz
              clear hz hq
              go_wp2_with (go_at_call 23; refine HEQ.out.mono ?_; rintro e w' ⟨rfl, rfl⟩)
              go_ret2
              exact ⟨none, 0, 0, by rw [HZ.out]; rfl, by rw [HZ.out]; exact OwnN.nil _ _, HR6.out.below⟩
            | true =>
              have hz : OK = true := by rw [HOK.out, hq, HTR.out, ← HBD.out]; rfl
              rw [hq] at HEQ
              have HZ := Lib.hid hz
              clear hz hq
              go_wp2_with (go_at_call 23; refine HEQ.out.mono ?_; rintro e w' ⟨rfl, rfl⟩)
              go_ret2
              exact ⟨A1, _, c1, by rw [HZ.out]; rfl, by rw [HZ.out]; exact HO6.out, HR6.out.below⟩
end Go.Proofs.YtbkjjapeojclpaaGreatDoor
