/- The document's own trees: Good, dir, Bad, May. -/
import Derived.Test.YtbkjjapeojclpaaGreatDoorDoc1
import Derived.Test.YtbkjjapeojclpaaGreatDoorTree
import Derived.Sort.Walk0
namespace Go.Proofs.YtbkjjapeojclpaaGreatDoor
set_option linter.unusedVariables false
set_option linter.unusedSimpArgs false
open Go.RowKit Go.Proofs.YtbkjjapeojclpaaGreatDoorW.PrintWords
set_option maxHeartbeats 400000
set_option maxRecDepth 100000

theorem rGood_any (p d : ByteArray) (k : Int) (w : World) (hp9 : p.size ≤ 90000) :
    Calls Tryz.prog 76 #[.agg #[.string p, .int .i64 k, .string d]] w fun e w' => e = .returned (.bool (goodNd ⟨p.data.toList, k, d.data.toList⟩)) ∧ Below w.heap.size w w' := by
  have hm := fun W => rMay_any p W hp9
  cases hp : pathOk p.data.toList with
  | false =>
    rw [hp] at hm
    rw [goodNd_path (n := ⟨p.data.toList, k, d.data.toList⟩) hp]
    have HM := Lib.hid hm
    clear hm hp
    go_enter Tryz.func76, Tryz.ntmps76
    go_wp2_with (go_at_call 95; refine (HM.out _).mono ?_; rintro e w1 ⟨rfl, hb⟩; obtain ⟨hc, hf⟩ := bcell hb)
    go_ret
    exact ⟨rfl, ((Below.refl _ _).alloc (Nat.le_refl _) _).trans (hb.mono (by simp))⟩
  | true =>
    rw [hp] at hm
    have HM := Lib.hid hm
    clear hm
    by_cases hd : d.size ≤ 400
    · have hg := goodNd_kind (n := ⟨p.data.toList, k, d.data.toList⟩) hp (by rw [← size_len]; exact hd)
      rw [hg]
      have hsl := size_len d
      obtain ⟨l, hl⟩ : ∃ l, l = d.data.toList := ⟨_, rfl⟩
      simp only []
      rw [← hl] at hsl ⊢
      have HSL := Lib.hid hsl
      have HL := Lib.hid hl
      have hql : d.toList.isEmpty = l.isEmpty := by rw [Lib.toList_data, hl]
      clear hg hp hsl hl
      by_cases hk4 : k = 4
      · subst hk4
        have hres : ∀ b : Bool, ((4 : Int) == 1 && b || (4 : Int) == 2 || (4 : Int) == 3 || ((4 : Int) == 4 && !b && !l.contains 0)) = (!b && !l.contains 0) := fun b => by cases b <;> simp
        rw [hres]
        clear hres
        obtain ⟨r, hr⟩ : ∃ r, r = (!l.isEmpty && !l.contains 0) := ⟨_, rfl⟩
        rw [← hr]
        have HR := Lib.hid hr
        clear hr
        go_enter Tryz.func76, Tryz.ntmps76
        go_wp2_with (go_at_call 95; refine (HM.out _).mono ?_; rintro e w1 ⟨rfl, hb⟩; obtain ⟨hc, hf⟩ := bcell hb)
        go_loop [3] (fun i => ∃ k : Nat, k ≤ d.size ∧ i = .int .i64 k ∧ Hid ((l.take k).contains 0 = false)) (fun i => d.size - (intOf i).toNat)
        case atStart => exact ⟨0, by omega, rfl, Lib.hid rfl⟩
        case round =>
          obtain ⟨k, hk, rfl, H0⟩ := hrel
          by_cases hlt : k < d.size
          · have hx : d[k]'hlt = l.getD k 0 := by rw [HL.out]; exact bat d k hlt
            have hkl : k < l.length := by rw [← HSL.out]; exact hlt
            by_cases hc0 : d[k]'hlt = 0
            · have b4 : (((d[k]'hlt).toNat : Int) == 0) = true := by rw [hc0]; rfl
              have HF := Lib.hid (contains_at l k 0 hkl (hx.symm.trans hc0))
              clear hx hkl hc0
              go_wp2_with fail
              go_ret
              exact ⟨by rw [HR.out, HF.out, Bool.not_true, Bool.and_false]; rfl, ((Below.refl _ _).alloc (Nat.le_refl _) _).trans (hb.mono (by simp))⟩
            · have b4 : (((d[k]'hlt).toNat : Int) == 0) = false := by
                rw [beq_eq_false_iff_ne]; intro e; exact hc0 (UInt8.toNat_inj.1 (by show (d[k]'hlt).toNat = 0; omega))
              have H0' := Lib.hid (contains_succ l k 0 hkl H0.out (by rw [← hx]; exact hc0))
              clear hx hkl hc0
              go_wp2_with fail
              go_round
              case rel => exact ⟨k + 1, by omega, by go_num, H0'⟩
              case measure => simp [intOf]; omega
          · obtain rfl : k = d.size := by omega
            have htk : l.take d.size = l := List.take_of_length_le (Nat.le_of_eq HSL.out.symm)
            rw [htk] at H0
            clear htk
            go_wp2_with fail
            all_goals go_ret
            all_goals refine ⟨congrArg (fun b => Ending.returned (Value.bool b)) (?_ : _ = r), ((Below.refl _ _).alloc (Nat.le_refl _) _).trans (hb.mono (by simp))⟩
            all_goals rw [HR.out, H0.out, ← hql]
            all_goals clear HR H0 HSL HL HM
            all_goals simp_all
      · have hk4' : (k == 4) = false := beq_eq_false_iff_ne.2 hk4
        have hres : ∀ b : Bool, ((k == 1 && b) || k == 2 || k == 3 || (k == 4 && !b && !l.contains 0)) = ((k == 1 && b) || k == 2 || k == 3) := fun b => by rw [hk4']; cases b <;> simp
        rw [hres]
        obtain ⟨r, hr⟩ : ∃ r, r = ((k == 1 && l.isEmpty) || k == 2 || k == 3) := ⟨_, rfl⟩
        rw [← hr]
        have HR := Lib.hid hr
        clear hr hres hk4
        go_enter Tryz.func76, Tryz.ntmps76
        go_wp2_with (go_at_call 95; refine (HM.out _).mono ?_; rintro e w1 ⟨rfl, hb⟩; obtain ⟨hc, hf⟩ := bcell hb)
        all_goals (go_ret; refine ⟨congrArg (fun b => Ending.returned (Value.bool b)) (?_ : _ = r), ((Below.refl _ _).alloc (Nat.le_refl _) _).trans (hb.mono (by simp))⟩)
        all_goals (rw [HR.out]; clear HR HM hc hf hb HSL HL)
        all_goals simp_all
    · rw [goodNd_data (n := ⟨p.data.toList, k, d.data.toList⟩) (by rw [← size_len]; exact hd)]
      clear hp
      go_enter Tryz.func76, Tryz.ntmps76
      go_wp2_with (go_at_call 95; refine (HM.out _).mono ?_; rintro e w1 ⟨rfl, hb⟩; obtain ⟨hc, hf⟩ := bcell hb)
      go_ret
      exact ⟨rfl, ((Below.refl _ _).alloc (Nat.le_refl _) _).trans (hb.mono (by simp))⟩
/-- Is there a Dir at a path? -/
def dirAny (t : List Nd) (q : Bs) : Bool := t.any fun n => decide (n.path = q) && n.kind == 1
theorem dirAny_succ (t : List Nd) (q : Bs) (k : Nat) (h : k < t.length) : dirAny (t.take (k + 1)) q = (dirAny (t.take k) q || (decide ((t.getD k default).path = q) && (t.getD k default).kind == 1)) := by
  unfold dirAny
  rw [List.take_succ_eq_append_getElem h, List.any_append, List.getD_eq_getElem?_getD, List.getElem?_eq_getElem h]
  simp only [List.any_cons, List.any_nil, Bool.or_false, Option.getD_some]
theorem dirAny_hit (t : List Nd) (q : Bs) (k : Nat) (h : k < t.length) (hx : (decide ((t.getD k default).path = q) && (t.getD k default).kind == 1) = true) : dirAny t q = true := by
  unfold dirAny
  rw [List.any_eq_true]
  rw [List.getD_eq_getElem?_getD, List.getElem?_eq_getElem h] at hx
  exact ⟨_, List.getElem_mem h, hx⟩
theorem rdir_any (t : List Nd) (A : Option Addr) (c : Nat) (q : ByteArray) (w : World) (hC : kNd.C w A t.length t) (hcap : t.length ≤ c) :
    Calls Tryz.prog 78 #[.slice A t.length c, .string q] w fun e w' => e = .returned (.bool (dirAny t q.data.toList)) ∧ w = w' := by
  have hm := C_max hC
  have HC := Lib.hid hC
  clear hC
  go_enter Tryz.func78, Tryz.ntmps78
  go_wp2_with fail
  go_loop [5] (fun i => ∃ k : Nat, k ≤ t.length ∧ i = .int .i64 k ∧ Hid (dirAny (t.take k) q.data.toList = false)) (fun i => t.length - (intOf i).toNat)
  case atStart => exact ⟨0, by omega, rfl, Lib.hid rfl⟩
  case round =>
    obtain ⟨k, hk, rfl, HK⟩ := hrel
    by_cases hlt : k < t.length
    · obtain ⟨ad, e, hd1, hd2, hd3⟩ := at_nd HC.out k hlt
      cases e
      have hs := dirAny_succ t q.data.toList k hlt
      have hh := dirAny_hit t q.data.toList k hlt
      rw [HK.out, Bool.false_or] at hs
      obtain ⟨x, hx⟩ : ∃ x, x = t.getD k default := ⟨_, rfl⟩
      rw [← hx] at hd1 hd2 hd3 hs hh
      have HS := Lib.hid hs
      have HH := Lib.hid hh
      have hkc : (k : Int) < (c : Int) := by omega
      clear hx hs hh
      obtain ⟨P, hP⟩ : ∃ P : ByteArray, P = ⟨x.path.toArray⟩ := ⟨_, rfl⟩
      have hPl : P.toList = x.path := by rw [hP, Lib.toList_data]
      rw [← hP] at hd1
      clear hP
      by_cases hp : x.path = q.data.toList
      · have e1 : P.toList = q.toList := by rw [hPl, hp, Lib.toList_data]
        clear hPl
        by_cases hk1 : x.kind = 1
        · have e2 : (x.kind == 1) = true := by rw [beq_iff_eq]; exact hk1
          have HF := Lib.hid (HH.out (by rw [decide_eq_true hp, e2]; rfl))
          clear HH HS hp
          go_wp2_with fail
          go_ret
          exact ⟨by rw [HF.out]; rfl, rfl⟩
        · have e2 : (x.kind == 1) = false := beq_eq_false_iff_ne.2 hk1
          have HF : Hid (dirAny (t.take (k + 1)) q.data.toList = false) := Lib.hid (by rw [HS.out, e2, Bool.and_false])
          clear HH HS hp
          go_wp2_with fail
          go_round
          case rel => exact ⟨k + 1, by omega, by go_num, HF⟩
          case measure => simp [intOf]; omega
      · have e1 : ¬ P.toList = q.toList := by
          rw [hPl, Lib.toList_data]
          exact hp
        clear hPl
        have HF : Hid (dirAny (t.take (k + 1)) q.data.toList = false) := Lib.hid (by rw [HS.out, decide_eq_false hp, Bool.false_and])
        clear HH HS hp
        go_wp2_with fail
        go_round
        case rel => exact ⟨k + 1, by omega, by go_num, HF⟩
        case measure => simp [intOf]; omega
    · obtain rfl : k = t.length := by omega
      have hk2 := HK.out
      rw [List.take_length] at hk2
      have HF := Lib.hid hk2
      clear hk2
      go_wp2_with fail
      go_ret
      exact ⟨by rw [HF.out]; rfl, rfl⟩
theorem bl_lt (x y : Bs) : Op.bytesLess x y = true ↔ x < y := by rw [bytesLess_eq, decide_eq_true_eq]
/-- Where all are as they may be, paths rise. -/
theorem paths_rise (t : List Nd) (k : Nat) (hk : k ≤ t.length) (h : ∀ i, i < k → okAt t i = true) : ∀ i j, i < j → j < k → (t.getD i default).path < (t.getD j default).path := by
  intro i j hij hjk
  induction j with
  | zero => omega
  | succ j ih =>
    have h1 := h (j + 1) hjk
    unfold okAt at h1
    rw [if_neg (by omega)] at h1
    simp only [Bool.and_eq_true] at h1
    have h2 := (bl_lt _ _).1 h1.2.1.2
    rw [show j + 1 - 1 = j from rfl] at h2
    rcases Nat.lt_or_ge i j with hlt | hge
    · exact List.lt_trans (ih hlt (by omega)) h2
    · obtain rfl : i = j := by omega
      exact h2
theorem dirF_any (t : List Nd) (k : Nat) (hk : k ≤ t.length) (h : ∀ i, i < k → okAt t i = true) (q : Bs) : (dirF (t.take k) q).getD false = dirAny (t.take k) q := by
  have hr := paths_rise t k hk h
  clear h
  induction k with
  | zero => rfl
  | succ k ih =>
    have hlt : k < t.length := by omega
    have e : t.take (k + 1) = t.take k ++ [t.getD k default] := by
      rw [List.take_succ_eq_append_getElem hlt, List.getD_eq_getElem?_getD, List.getElem?_eq_getElem hlt]; rfl
    have ih' := ih (by omega) (fun i j hij hj => hr i j hij (by omega))
    rw [dirAny_succ t q k hlt, e, dirF_snoc]
    show (if q = (t.getD k default).path then some ((t.getD k default).kind == 1) else dirF (t.take k) q).getD false = _
    by_cases hq : q = (t.getD k default).path
    · rw [if_pos hq, decide_eq_true hq.symm, Bool.true_and]
      have hno : dirAny (t.take k) q = false := by
        unfold dirAny
        rw [List.any_eq_false]
        intro x hx
        obtain ⟨i, hi, rfl⟩ := List.getElem_of_mem hx
        have hi' : i < k := by rw [List.length_take] at hi; omega
        have hlt2 := hr i k hi' (by omega)
        have e2 : (t.take k)[i] = t.getD i default := by rw [List.getElem_take, List.getD_eq_getElem?_getD, List.getElem?_eq_getElem (by omega)]; rfl
        rw [e2]
        have hne : ¬ (t.getD i default).path = q := fun e3 => by rw [e3, hq] at hlt2; exact List.lt_irrefl _ hlt2
        rw [decide_eq_false hne, Bool.false_and]
        decide
      rw [hno, Bool.false_or]
      rfl
    · rw [if_neg hq, ih', decide_eq_false (fun e3 => hq e3.symm), Bool.false_and, Bool.or_false]
set_option maxHeartbeats 4000000 in
theorem rBad_any (t : List Nd) (A : Option Addr) (c : Nat) (w : World) (hC : kNd.C w A t.length t) (hcap : t.length ≤ c) (hl : ∀ n ∈ t, n.path.length ≤ 90000) :
    Calls Tryz.prog 56 #[.slice A t.length c] w fun e w' => e = .returned (.int .i64 (badOf t)) ∧ Below w.heap.size w w' := by
  by_cases h0 : t = []
  · subst h0
    go_enter Tryz.func56, Tryz.ntmps56
    go_wp2_with fail
    go_ret
    exact ⟨rfl, Below.refl _ _⟩
  · have hn : 0 < t.length := List.length_pos_iff.2 h0
    have hn0 : ((t.length : Int) == 0) = false := beq_eq_false_iff_ne.2 (by omega)
    have hmx := C_max hC
    have HC := Lib.hid hC
    have H0 := Lib.hid h0
    have HLL := Lib.hid hl
    clear hC h0 hl
    go_enter Tryz.func56, Tryz.ntmps56
    go_wp2_with fail
    go_loopw [3] (fun i wr => ∃ k : Nat, k ≤ t.length ∧ i = .int .i64 k ∧ Hid (∀ i, i < k → okAt t i = true) ∧ Hid (Below w.heap.size w wr)) (fun i _ => t.length - (intOf i).toNat)
    case atStart => exact ⟨0, by omega, rfl, Lib.hid (fun i hi => by omega), Lib.hid (Below.refl _ _)⟩
    case round =>
      obtain ⟨k, hk, rfl, HOK, HB⟩ := hrel
      by_cases hlt : k < t.length
      · have hC1 := Kd.C_below HC.out HB.out
        obtain ⟨ad, e, hc1, hc2, hc3⟩ := at_nd hC1 k hlt
        cases e
        have hxl := HLL.out (t.getD k default) (by rw [List.getD_eq_getElem?_getD, List.getElem?_eq_getElem hlt]; exact List.getElem_mem hlt)
        obtain ⟨x, hx⟩ : ∃ x, x = t.getD k default := ⟨_, rfl⟩
        rw [← hx] at hc1 hc2 hc3 hxl
        have HX := Lib.hid hx
        have HC1 := Lib.hid hC1
        clear hx hC1
        have hkc : (k : Int) < (c : Int) := by omega
        have hkc' : (k : Int) ≤ (c : Int) := by omega
        have hk0' : (0 : Int) ≤ (k : Int) := Int.natCast_nonneg _
        by_cases h400 : (400 : Int) ≤ (k : Int)
        · have d400 : decide ((400 : Int) ≤ (k : Int)) = true := decide_eq_true h400
          have HF := Lib.hid (badOf_at hlt HOK.out (by simp only [okAt, show decide (k < 400) = false from decide_eq_false (by omega), Bool.false_and]))
          go_wp2_with fail
          go_ret
          exact ⟨by rw [HF.out]; rfl, HB.out⟩
        · have d400 : decide ((400 : Int) ≤ (k : Int)) = false := decide_eq_false h400
          have hgd := fun W => rGood_any ⟨x.path.toArray⟩ ⟨x.data.toArray⟩ x.kind W (by rw [size_len]; exact hxl)
          cases hgb : goodNd x with
          | false =>
            have hgd' : ∀ W, Calls Tryz.prog 76 #[.agg #[.string ⟨x.path.toArray⟩, .int .i64 x.kind, .string ⟨x.data.toArray⟩]] W fun e w' => e = .returned (.bool false) ∧ Below W.heap.size W w' := by
              intro W
              rw [← hgb]
              exact hgd W
            have HGD := Lib.hid hgd'
            have HF := Lib.hid (badOf_at hlt HOK.out (by simp only [okAt, ← HX.out, hgb, Bool.and_false, Bool.false_and]))
            clear hgd hgd' hgb
            go_wp2_with (go_at_call 76; refine (HGD.out _).mono ?_; rintro e w1 ⟨rfl, hb1⟩)
            go_ret
            exact ⟨by rw [HF.out]; rfl, HB.out.trans (hb1.mono HB.out.size)⟩
          | true =>
            have hgd' : ∀ W, Calls Tryz.prog 76 #[.agg #[.string ⟨x.path.toArray⟩, .int .i64 x.kind, .string ⟨x.data.toArray⟩]] W fun e w' => e = .returned (.bool true) ∧ Below W.heap.size W w' := by
              intro W
              rw [← hgb]
              exact hgd W
            have HGD := Lib.hid hgd'
            have HGB := Lib.hid hgb
            clear hgd hgd' hgb
            by_cases hk0 : k = 0
            · subst hk0
              have hok0 : okAt t 0 = x.path.isEmpty := by unfold okAt; rw [if_pos rfl, ← HX.out, HGB.out]; rfl
              have hxe : (⟨x.path.toArray⟩ : ByteArray).toList.isEmpty = x.path.isEmpty := by rw [Lib.toList_data]
              obtain ⟨P, hP⟩ : ∃ P : ByteArray, P = ⟨x.path.toArray⟩ := ⟨_, rfl⟩
              have hPl : P.toList.isEmpty = x.path.isEmpty := by rw [hP, Lib.toList_data]
              cases hpe : x.path.isEmpty with
              | true =>
                rw [hpe] at hPl hok0
                have HOK2 : Hid (∀ i, i < 1 → okAt t i = true) := Lib.hid (fun i hi => by
                  obtain rfl : i = 0 := by omega
                  exact hok0)
                have HPP := Lib.hid hP
                clear hok0 hpe hxe hP
                rw [show ad.add (0 * 3) = ad from by simp [Addr.add]] at hc1 hc2 hc3
                go_wp2_with fail
                refine (HGD.out _).mono ?_
                rintro e w1 ⟨rfl, hb1⟩
                have hd1 : w1.cell? ad = some (.string P) := by rw [HPP.out]; exact pw_cell_below hb1 hc1
                have HB1 := Lib.hid (HB.out.trans (hb1.mono HB.out.size))
                clear hb1 HB hc1 hc2 hc3
                go_wp2_with fail
                go_roundw
                case rel => exact ⟨1, by omega, by go_num, HOK2, HB1⟩
                case measure => simp [intOf]; omega
              | false =>
                rw [hpe] at hPl hok0
                have HF := Lib.hid (badOf_at hlt HOK.out hok0)
                have HPP := Lib.hid hP
                clear hok0 hpe hxe hP
                rw [show ad.add (0 * 3) = ad from by simp [Addr.add]] at hc1 hc2 hc3
                go_wp2_with fail
                refine (HGD.out _).mono ?_
                rintro e w1 ⟨rfl, hb1⟩
                have hd1 : w1.cell? ad = some (.string P) := by rw [HPP.out]; exact pw_cell_below hb1 hc1
                have HB1 := Lib.hid (HB.out.trans (hb1.mono HB.out.size))
                clear hb1 HB hc1 hc2 hc3
                go_wp2_with fail
                go_ret
                exact ⟨by rw [HF.out]; rfl, HB1.out⟩
            · obtain ⟨j, rfl⟩ : ∃ j, k = j + 1 := ⟨k - 1, by omega⟩
              have hparent := fun W => rParent_any ⟨x.path.toArray⟩ W (by rw [size_len]; exact hxl)
              obtain ⟨y, hy⟩ : ∃ y, y = t.getD j default := ⟨_, rfl⟩
              have hpl : (⟨x.path.toArray⟩ : ByteArray).data.toList = x.path := rfl
              have hok : okAt t (j + 1) = (parentB x.path && Op.bytesLess y.path x.path && dirAny (t.take (j + 1)) (parentR x.path)) := by
                unfold okAt
                rw [if_neg (by omega), ← HX.out, HGB.out, decide_eq_true (show j + 1 < 400 by omega), Bool.and_true, Bool.true_and, show j + 1 - 1 = j from rfl, ← hy, dirF_any t (j + 1) (by omega) HOK.out]
              rw [hpl] at hparent
              obtain ⟨q, hq⟩ : ∃ q, q = parentR x.path := ⟨_, rfl⟩
              obtain ⟨pb, hpb⟩ : ∃ pb, pb = parentB x.path := ⟨_, rfl⟩
              obtain ⟨ls, hls⟩ : ∃ ls, ls = Op.bytesLess y.path x.path := ⟨_, rfl⟩
              obtain ⟨da, hda⟩ : ∃ da, da = dirAny (t.take (j + 1)) q := ⟨_, rfl⟩
              rw [← hq, ← hpb] at hparent
              rw [← hq, ← hpb, ← hls, ← hda] at hok
              obtain ⟨P, hP⟩ : ∃ P : ByteArray, P = ⟨x.path.toArray⟩ := ⟨_, rfl⟩
              obtain ⟨Q, hQ⟩ : ∃ Q : ByteArray, Q = ⟨y.path.toArray⟩ := ⟨_, rfl⟩
              have hPl : P.toList = x.path := by rw [hP, Lib.toList_data]
              have hQl : Q.toList = y.path := by rw [hQ, Lib.toList_data]
              have hless : Op.bytesLess Q.toList P.toList = ls := by rw [hPl, hQl, hls]
              have hleq : (Op.bytesLess P.toList Q.toList || P.toList == Q.toList) = !ls := by
                rw [← hless, Bool.eq_iff_iff, Bool.or_eq_true, beq_iff_eq, Bool.not_eq_true', ← Bool.not_eq_true, bl_lt, bl_lt]
                refine ⟨fun h1 h2 => h1.elim (fun h => List.lt_irrefl _ (List.lt_trans h h2)) (fun h => by rw [h] at h2; exact List.lt_irrefl _ h2), fun h => ?_⟩
                by_cases h3 : P.toList < Q.toList
                · exact .inl h3
                · exact .inr (List.le_antisymm (List.not_lt.1 h) (List.not_lt.1 h3))
              rw [← hP] at hparent
              have HPAR := Lib.hid hparent
              have HOKJ := Lib.hid hok
              have HPP := Lib.hid hP
              have HQQ := Lib.hid hQ
              have HDA := Lib.hid hda
              have HY := Lib.hid hy
              clear hparent hok hq hpb hls hda hP hQ hPl hQl hy hpl
              go_wp2_with fail
              refine (HGD.out _).mono ?_
              rintro e w1 ⟨rfl, hb1⟩
              have hd1 : w1.cell? (ad.add ((j + 1) * 3)) = some (.string P) := by rw [HPP.out]; exact pw_cell_below hb1 hc1
              have HB1 := Lib.hid (HB.out.trans (hb1.mono HB.out.size))
              clear hb1 HB hc1 hc2 hc3
              go_wp2_with fail
              refine (HPAR.out _).mono ?_
              rintro e w2 ⟨rfl, hb2⟩
              have hB2 := HB1.out.trans (hb2.mono HB1.out.size)
              have HB2 := Lib.hid hB2
              have hC2 := Kd.C_below HC.out hB2
              obtain ⟨ad1, e1, hx1, _⟩ := at_nd hC2 (j + 1) hlt
              cases e1
              obtain ⟨ad2, e2, hy1, _⟩ := at_nd hC2 j (by omega)
              cases e2
              rw [← HX.out, ← HPP.out] at hx1
              rw [← HY.out, ← HQQ.out] at hy1
              have hC3 := Kd.C_take hC2 (show j + 1 ≤ t.length by omega)
              have htl : (t.take (j + 1)).length = j + 1 := by rw [List.length_take]; omega
              have hdir := fun n => (rdir_any (t.take (j + 1)) (some ad) c ⟨q.toArray⟩ (w2.drewN n) (Kd.C_below hC3 (below_drewN w2 n)) (by omega)).mono (fun _ _ ⟨h, k⟩ => (⟨h, k.symm⟩ : _ ∧ _))
              simp only [htl, show (⟨q.toArray⟩ : ByteArray).data.toList = q from rfl, ← HDA.out] at hdir
              have HDIR := Lib.hid hdir
              clear hb2 hB2 HB1 hC2 hC3 htl hdir hd1
              go_wp2_with fail
              clear hless HDA HPAR HGD HPP HQQ HGB HLL HC1
              have s1 : IntKind.i64.wrap ((j : Int) + 1 - 1) = (j : Int) := by rw [IntKind.wrap_i64]; omega
              have s2 : ((j : Int) + 1).toNat = j + 1 := by omega
              have s3 : (j : Int) + 1 < (c : Int) := by omega
              have s4 : (j : Int) < (c : Int) := by omega
              have s5 : (0 : Int) ≤ (j : Int) := by omega
              have s6 : (j : Int) + 1 ≤ (c : Int) := by omega
              have hbad : (pb && ls && da) = false → badOf t = ((j + 1 : Nat) : Int) := fun h => badOf_at hlt HOK.out (HOKJ.out.trans h)
              have hgood : (pb && ls && da) = true → ∀ i, i < j + 1 + 1 → okAt t i = true := fun h i hi => by
                rcases Nat.lt_succ_iff_lt_or_eq.1 hi with h' | rfl
                · exact HOK.out i h'
                · exact HOKJ.out.trans h
              have HBAD := Lib.hid hbad
              have HGOOD := Lib.hid hgood
              clear hbad hgood HOKJ
              cases ls
              case' false =>
                have HF := Lib.hid (HBAD.out (by simp))
                clear HBAD HGOOD
                go_quiet ((go_at_call 78; exact Calls.quiet_of_same (HDIR.out _)))
                go_wp2
                go_ret
                exact ⟨by rw [HF.out]; rfl, HB2.out.trans (below_drewN' _ _ _)⟩
              cases pb
              case' false =>
                have HF := Lib.hid (HBAD.out (by simp))
                clear HBAD HGOOD
                go_quiet ((go_at_call 78; exact Calls.quiet_of_same (HDIR.out _)))
                go_wp2
                go_ret
                exact ⟨by rw [HF.out]; rfl, HB2.out.trans (below_drewN' _ _ _)⟩
              cases da
              case' false =>
                have HF := Lib.hid (HBAD.out (by simp))
                clear HBAD HGOOD
                go_quiet ((go_at_call 78; exact Calls.quiet_of_same (HDIR.out _)))
                go_wp2
                go_ret
                exact ⟨by rw [HF.out]; rfl, HB2.out.trans (below_drewN' _ _ _)⟩
              have HG2 := Lib.hid (HGOOD.out (by simp))
              clear HBAD HGOOD
              go_quiet ((go_at_call 78; exact Calls.quiet_of_same (HDIR.out _)))
              go_wp2
              go_roundw
              case rel => exact ⟨j + 1 + 1, by omega, by go_num, HG2, Lib.hid (HB2.out.trans (below_drewN' _ _ _))⟩
              case measure => simp [intOf]; omega
      · obtain rfl : k = t.length := by omega
        go_wp2_with fail
        go_ret
        exact ⟨by rw [badOf_none H0.out HOK.out]; rfl, HB.out⟩
theorem rMayT_any (t : List Nd) (A : Option Addr) (c : Nat) (w : World) (hC : kNd.C w A t.length t) (hcap : t.length ≤ c) (hl : ∀ n ∈ t, n.path.length ≤ 90000) :
    Calls Tryz.prog 35 #[.slice A t.length c] w fun e w' => e = .returned (.bool (treeOk t)) ∧ Below w.heap.size w w' := by
  go_enter Tryz.func35, Tryz.ntmps35
  go_wp2_with (go_at_call 56; refine (rBad_any t A c _ hC hcap hl).mono ?_; rintro e w' ⟨rfl, hb⟩)
  go_ret
  exact ⟨rfl, hb⟩
end Go.Proofs.YtbkjjapeojclpaaGreatDoor
