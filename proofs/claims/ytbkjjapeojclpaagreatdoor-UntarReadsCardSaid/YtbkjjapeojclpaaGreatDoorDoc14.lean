/- The document's own reader: records. -/
import Derived.Test.YtbkjjapeojclpaaGreatDoorRef13
import Derived.Test.YtbkjjapeojclpaaGreatDoorReadBack
import Derived.Test.YtbkjjapeojclpaaGreatDoorRef13c
import Derived.Test.YtbkjjapeojclpaaGreatDoorRef12d
namespace Go.Proofs.YtbkjjapeojclpaaGreatDoor
set_option linter.unusedVariables false
set_option linter.unusedSimpArgs false
open Go.RowKit Go.Proofs.YtbkjjapeojclpaaGreatDoorW.PrintWords
set_option maxHeartbeats 400000
set_option maxRecDepth 100000

/-- The digits in front, at most f more from place i: where they end, what they say. -/
def digs (s : Bs) : Nat → Nat → Nat → Nat × Nat
  | 0, i, n => (i, n)
  | f + 1, i, n => if i < s.length ∧ 48 ≤ (s.getD i 0).toNat ∧ (s.getD i 0).toNat ≤ 57 then digs s f (i + 1) (n * 10 + ((s.getD i 0).toNat - 48)) else (i, n)
def eqPath : Bs := [112, 97, 116, 104, 61]
def eqLink : Bs := [108, 105, 110, 107, 112, 97, 116, 104, 61]
def segOf (s : Bs) : Bs := (s.take ((digs s 6 0 0).2 - 1)).drop ((digs s 6 0 0).1 + 1)
/-- What records say. -/
def recsF (s p q : Bs) : Bs × Bs :=
  if h : (digs s 6 0 0).1 + 1 < (digs s 6 0 0).2 ∧ (digs s 6 0 0).2 ≤ s.length then
    recsF (s.drop (digs s 6 0 0).2) (if (segOf s).take 5 = eqPath then (segOf s).drop 5 else p) (if (segOf s).take 9 = eqLink then (segOf s).drop 9 else q)
  else (p, q)
termination_by s.length
decreasing_by rw [List.length_drop]; omega
theorem recsF_stop {s p q : Bs} {i n : Nat} (h : digs s 6 0 0 = (i, n)) (h1 : ¬ (i + 1 < n ∧ n ≤ s.length)) : recsF s p q = (p, q) := by
  rw [recsF, h, dif_neg h1]
theorem recsF_go {s p q : Bs} {i n : Nat} (h : digs s 6 0 0 = (i, n)) (h1 : i + 1 < n) (h2 : n ≤ s.length) :
    recsF s p q = recsF (s.drop n) (if ((s.take (n - 1)).drop (i + 1)).take 5 = eqPath then ((s.take (n - 1)).drop (i + 1)).drop 5 else p) (if ((s.take (n - 1)).drop (i + 1)).take 9 = eqLink then ((s.take (n - 1)).drop (i + 1)).drop 9 else q) := by
  have e : segOf s = (s.take (n - 1)).drop (i + 1) := by unfold segOf; rw [h]
  conv => lhs; rw [recsF]
  rw [dif_pos (by rw [h]; exact ⟨h1, h2⟩), e, h]
theorem digs_go {s : Bs} {f i n : Nat} (h1 : i < s.length) (h2 : 48 ≤ (s.getD i 0).toNat) (h3 : (s.getD i 0).toNat ≤ 57) : digs s (f + 1) i n = digs s f (i + 1) (n * 10 + ((s.getD i 0).toNat - 48)) := by
  rw [digs, if_pos ⟨h1, h2, h3⟩]
theorem digs_stop {s : Bs} {f i n : Nat} (h : ¬ (i < s.length ∧ 48 ≤ (s.getD i 0).toNat ∧ (s.getD i 0).toNat ≤ 57)) : digs s f i n = (i, n) := by
  cases f with
  | zero => rfl
  | succ f => rw [digs, if_neg h]
theorem dec_step {n i d : Nat} (h : n < 10 ^ i) (hd : d ≤ 9) (hi : i < 6) : n * 10 + d < 10 ^ (i + 1) ∧ n * 10 + d < 1000000 := by
  have h1 : n * 10 + d < 10 ^ (i + 1) := by rw [Nat.pow_succ]; omega
  exact ⟨h1, Nat.lt_of_lt_of_le h1 (Nat.pow_le_pow_right (n := 10) (by omega) (show i + 1 ≤ 6 by omega))⟩
theorem three (R : ByteArray) (k : Nat) (L : Bs) (hL : L.length = k) :
    (decide ((k : Int) ≤ (R.size : Int)) = false ∧ ¬ R.data.toList.take k = L) ∨ ((k : Int) ≤ (R.size : Int) ∧ ((R.extract 0 k).toList == L) = false ∧ ¬ R.data.toList.take k = L) ∨ ((k : Int) ≤ (R.size : Int) ∧ ((R.extract 0 k).toList == L) = true ∧ R.data.toList.take k = L) := by
  have he : (R.extract 0 k).toList = R.data.toList.take k := by rw [seg_string, Lib.toList_data, List.drop_zero]
  rw [he]
  have hs := size_len R
  by_cases h1 : k ≤ R.size
  · by_cases h2 : R.data.toList.take k = L
    · exact .inr (.inr ⟨by omega, by rw [beq_iff_eq]; exact h2, h2⟩)
    · exact .inr (.inl ⟨by omega, by rw [beq_eq_false_iff_ne]; exact h2, h2⟩)
  · refine .inl ⟨decide_eq_false (by omega), fun e => ?_⟩
    have := congrArg List.length e
    rw [List.length_take] at this
    omega
set_option maxHeartbeats 2000000 in
theorem rrecords_any (s : ByteArray) (w : World) (hs : s.size ≤ 90000) :
    Calls Tryz.prog 25 #[.string s] w fun e w' => e = .returned (.tuple #[.string ⟨(recsF s.data.toList [] []).1.toArray⟩, .string ⟨(recsF s.data.toList [] []).2.toArray⟩]) ∧ w = w' := by
  obtain ⟨F, hF⟩ : ∃ F, F = recsF s.data.toList [] [] := ⟨_, rfl⟩
  rw [← hF]
  have HF := Lib.hid hF.symm
  clear hF
  go_enter Tryz.func25, Tryz.ntmps25
  go_wp2_with fail
  go_loop [0, 4, 5] (fun u v x => ∃ (S p q : ByteArray), S.size ≤ 90000 ∧ u = .string S ∧ v = .string p ∧ x = .string q ∧ Hid (recsF S.data.toList p.data.toList q.data.toList = F)) (fun u _ _ => match u with | .string S => S.size | _ => 0)
  case atStart => exact ⟨s, ⟨#[]⟩, ⟨#[]⟩, hs, rfl, rfl, rfl, HF⟩
  case round =>
    obtain ⟨S, p, q, hS, rfl, rfl, rfl, HR⟩ := hrel
    clear HF hs
    have hsl := size_len S
    obtain ⟨l, hl⟩ : ∃ l, l = S.data.toList := ⟨_, rfl⟩
    rw [← hl] at hsl HR
    have HSL := Lib.hid hsl
    have HL := Lib.hid hl
    clear hsl hl
    by_cases h0 : 0 < S.size
    · have b0 : (0 : Int) < (S.size : Int) := by omega
      have b1 : decide (0 < S.size) = true := decide_eq_true h0
      have b2 : decide ((0 : Int) < (S.size : Int)) = true := decide_eq_true b0
      go_upto_block 2 with fail
      try rw [b1]
      clear b1 b2
      go_cut [6, 7] (fun u i wx => w = wx ∧ ∃ j n : Nat, j ≤ 6 ∧ n < 1000000 ∧ i = .int .i64 j ∧ u = .int .i64 n ∧ Hid (digs l 6 0 0 = (j, n)))
      case first =>
        clear HR
        go_wp2_with fail
        go_loop [6, 7] (fun u i => ∃ j n : Nat, j ≤ 6 ∧ j ≤ S.size ∧ n < 1000000 ∧ i = .int .i64 j ∧ u = .int .i64 n ∧ Hid (n < 10 ^ j) ∧ Hid (digs l 6 0 0 = digs l (6 - j) j n)) (fun _ i => 6 - (intOf i).toNat)
        case atStart => exact ⟨0, 0, by omega, by omega, by omega, rfl, rfl, Lib.hid (by decide), Lib.hid rfl⟩
        case round =>
          obtain ⟨j, n, hj, hjs, hn, rfl, rfl, HN, HD⟩ := hrel
          by_cases h1 : j < S.size
          · have i1 : (j : Int) < (S.size : Int) := by omega
            have hx : S[j]'h1 = l.getD j 0 := by rw [HL.out]; exact bat S j h1
            by_cases h2 : j < 6
            · have i2 : (j : Int) < 6 := by omega
              by_cases h3 : 48 ≤ (S[j]'h1).toNat
              · have i3 : (48 : Int) ≤ ((S[j]'h1).toNat : Int) := by omega
                by_cases h4 : (S[j]'h1).toNat ≤ 57
                · have i4 : ((S[j]'h1).toNat : Int) ≤ 57 := by omega
                  have hst := dec_step HN.out (show (S[j]'h1).toNat - 48 ≤ 9 by omega) h2
                  have HN2 := Lib.hid hst.1
                  have hn2 := hst.2
                  have HD2 : Hid (digs l 6 0 0 = digs l (6 - (j + 1)) (j + 1) (n * 10 + ((S[j]'h1).toNat - 48))) := Lib.hid (by
                    rw [HD.out, show 6 - j = (6 - (j + 1)) + 1 from by omega, digs_go (by have := HSL.out; omega) (by rw [← hx]; exact h3) (by rw [← hx]; exact h4), ← hx])
                  obtain ⟨x, hxx⟩ : ∃ x, x = (S[j]'h1).toNat := ⟨_, rfl⟩
                  rw [← hxx] at HN2 hn2 HD2 h3 h4 i3 i4
                  have HXX := Lib.hid hxx.symm
                  clear hst hx hxx HN HD
                  go_wp2_with (rw [HXX.out])
                  go_round
                  case rel => exact ⟨j + 1, n * 10 + (x - 48), by omega, by omega, hn2, by go_num, congrArg (Value.int .i64) (by omega), HN2, HD2⟩
                  case measure => simp [intOf]; omega
                · have i4 : decide (((S[j]'h1).toNat : Int) ≤ 57) = false := decide_eq_false (by omega)
                  have HD2 : Hid (digs l 6 0 0 = (j, n)) := Lib.hid (by rw [HD.out, digs_stop]; rw [← hx]; omega)
                  clear hx HD HN
                  go_wp2_with fail
                  go_meet
                  exact ⟨rfl, j, n, hj, hn, rfl, rfl, HD2⟩
              · have i3 : decide ((48 : Int) ≤ ((S[j]'h1).toNat : Int)) = false := decide_eq_false (by omega)
                have HD2 : Hid (digs l 6 0 0 = (j, n)) := Lib.hid (by rw [HD.out, digs_stop]; rw [← hx]; omega)
                clear hx HD HN
                go_wp2_with fail
                go_meet
                exact ⟨rfl, j, n, hj, hn, rfl, rfl, HD2⟩
            · have i2 : decide ((j : Int) < 6) = false := decide_eq_false (by omega)
              have HD2 : Hid (digs l 6 0 0 = (j, n)) := Lib.hid (by rw [HD.out, show 6 - j = 0 from by omega]; rfl)
              clear hx HD HN
              go_wp2_with fail
              go_meet
              exact ⟨rfl, j, n, hj, hn, rfl, rfl, HD2⟩
          · have i1 : decide ((j : Int) < (S.size : Int)) = false := decide_eq_false (by omega)
            have HD2 : Hid (digs l 6 0 0 = (j, n)) := Lib.hid (by rw [HD.out, digs_stop]; have := HSL.out; omega)
            clear HD HN
            go_wp2_with fail
            go_meet
            exact ⟨rfl, j, n, hj, hn, rfl, rfl, HD2⟩
      case rest =>
        obtain ⟨rfl, j, n, hj, hn, rfl, rfl, HD⟩ := hcut
        by_cases h1 : j + 1 < n
        · have i1 : decide ((n : Int) ≤ (j : Int) + 1) = false := decide_eq_false (by omega)
          by_cases h2 : n ≤ S.size
          · have i2 : decide ((S.size : Int) < (n : Int)) = false := decide_eq_false (by omega)
            have hr := HR.out
            rw [recsF_go HD.out h1 (by have := HSL.out; omega)] at hr
            obtain ⟨R, hR⟩ : ∃ R, R = S.extract (j + 1) (n - 1) := ⟨_, rfl⟩
            obtain ⟨S2, hS2⟩ : ∃ S2, S2 = S.extract n S.size := ⟨_, rfl⟩
            have hRl : R.data.toList = (l.take (n - 1)).drop (j + 1) := by rw [hR, seg_string, ← HL.out]
            have hS2l : S2.data.toList = l.drop n := by rw [hS2, seg_string, ← HL.out, List.take_of_length_le (Nat.le_of_eq HSL.out.symm)]
            have hS2s : S2.size = S.size - n := by rw [size_len, hS2l, List.length_drop, HSL.out]
            rw [← hRl, ← hS2l] at hr
            have hRs := size_len R
            have t5 : (decide ((5 : Int) ≤ (R.size : Int)) = false ∧ ¬ R.data.toList.take 5 = eqPath) ∨ ((5 : Int) ≤ (R.size : Int) ∧ ((R.extract 0 5).toList == eqPath) = false ∧ ¬ R.data.toList.take 5 = eqPath) ∨ ((5 : Int) ≤ (R.size : Int) ∧ ((R.extract 0 5).toList == eqPath) = true ∧ R.data.toList.take 5 = eqPath) := three R 5 eqPath rfl
            have t9 : (decide ((9 : Int) ≤ (R.size : Int)) = false ∧ ¬ R.data.toList.take 9 = eqLink) ∨ ((9 : Int) ≤ (R.size : Int) ∧ ((R.extract 0 9).toList == eqLink) = false ∧ ¬ R.data.toList.take 9 = eqLink) ∨ ((9 : Int) ≤ (R.size : Int) ∧ ((R.extract 0 9).toList == eqLink) = true ∧ R.data.toList.take 9 = eqLink) := three R 9 eqLink rfl
            have e5 : (R.extract 5 R.size).data.toList = R.data.toList.drop 5 := by rw [seg_string, List.take_of_length_le (Nat.le_of_eq hRs.symm)]
            have e9 : (R.extract 9 R.size).data.toList = R.data.toList.drop 9 := by rw [seg_string, List.take_of_length_le (Nat.le_of_eq hRs.symm)]
            rw [← e5, ← e9] at hr
            have HR1 := Lib.hid hR.symm
            have HS2 := Lib.hid hS2.symm
            have HRR := Lib.hid hr
            have hS2b : S2.size ≤ 90000 := by omega
            have hS2m : S2.size < S.size := by omega
            have q1 : (j : Int) + 1 ≤ (n : Int) - 1 := by omega
            have q2 : (n : Int) - 1 ≤ (S.size : Int) := by omega
            have q3 : (n : Int) ≤ (S.size : Int) := by omega
            clear hr hR hS2 hRl hS2l hS2s hRs e5 e9 HR HD HL HSL h1 h2
            unfold eqPath at t5 HRR
            unfold eqLink at t9 HRR
            rcases t5 with ⟨a1, a3⟩ | ⟨a1, a2, a3⟩ | ⟨a1, a2, a3⟩ <;> rcases t9 with ⟨c1, c3⟩ | ⟨c1, c2, c3⟩ | ⟨c1, c2, c3⟩ <;>
              (have A3 := Lib.hid a3; have C3 := Lib.hid c3; clear a3 c3; go_wp2_with (first | rw [HR1.out] | rw [HS2.out]))
            all_goals
              go_round
              case rel =>
                refine ⟨S2, _, _, hS2b, rfl, rfl, rfl, Lib.hid ?_⟩
                have h := HRR.out
                first | rw [if_neg (show ¬ (R.data.toList.take 5 = [112, 97, 116, 104, 61]) from A3.out)] at h | rw [if_pos (show (R.data.toList.take 5 = [112, 97, 116, 104, 61]) from A3.out)] at h
                first | rw [if_neg (show ¬ (R.data.toList.take 9 = [108, 105, 110, 107, 112, 97, 116, 104, 61]) from C3.out)] at h | rw [if_pos (show (R.data.toList.take 9 = [108, 105, 110, 107, 112, 97, 116, 104, 61]) from C3.out)] at h
                exact h
              case measure => exact hS2m
          · have i2 : (S.size : Int) < (n : Int) := by omega
            have hr := HR.out
            rw [recsF_stop HD.out (by have := HSL.out; omega)] at hr
            have HR2 := Lib.hid (show (⟨F.1.toArray⟩ : ByteArray) = p ∧ (⟨F.2.toArray⟩ : ByteArray) = q from by rw [← hr]; exact ⟨mkS_data p, mkS_data q⟩)
            clear hr HR HD HL HSL h1 h2
            go_wp2_with fail
            go_ret2
            exact ⟨by rw [HR2.out.1, HR2.out.2]; rfl, rfl⟩
        · have i1 : (n : Int) ≤ (j : Int) + 1 := by omega
          have hr := HR.out
          rw [recsF_stop HD.out (by omega)] at hr
          have HR2 := Lib.hid (show (⟨F.1.toArray⟩ : ByteArray) = p ∧ (⟨F.2.toArray⟩ : ByteArray) = q from by rw [← hr]; exact ⟨mkS_data p, mkS_data q⟩)
          clear hr HR HD HL HSL h1
          go_wp2_with fail
          go_ret2
          exact ⟨by rw [HR2.out.1, HR2.out.2]; rfl, rfl⟩
    · have b0 : decide ((0 : Int) < (S.size : Int)) = false := decide_eq_false (by omega)
      have hr := HR.out
      rw [recsF_stop (i := 0) (n := 0) (digs_stop (by have := HSL.out; omega)) (by omega)] at hr
      have HR2 := Lib.hid (show (⟨F.1.toArray⟩ : ByteArray) = p ∧ (⟨F.2.toArray⟩ : ByteArray) = q from by rw [← hr]; exact ⟨mkS_data p, mkS_data q⟩)
      clear hr HR HL HSL
      go_wp2_with fail
      go_ret2
      exact ⟨by rw [HR2.out.1, HR2.out.2]; rfl, rfl⟩
/-! ### records -/
theorem digs_run (D : Bs) (hD : ∀ c ∈ D, 48 ≤ c.toNat ∧ c.toNat ≤ 57) (A r : Bs) (f i n m : Nat) (hA : A.length = i) (hf : D.length ≤ f) (hm : Lib.decFrom n D = some m) : digs (A ++ (D ++ 32 :: r)) f i n = (i + D.length, m) := by
  induction D generalizing A f i n with
  | nil =>
    have e : m = n := by simp [Lib.decFrom] at hm; exact hm.symm
    rw [digs_stop, e]
    · rfl
    · rw [List.getD_eq_getElem?_getD, List.getElem?_append_right (by omega), hA, Nat.sub_self]
      intro h
      have := h.2.1
      simp at this
  | cons c D ih =>
    obtain ⟨f, rfl⟩ : ∃ g, f = g + 1 := ⟨f - 1, by rw [List.length_cons] at hf; omega⟩
    have hc := hD c (List.mem_cons_self ..)
    have hg : (A ++ (c :: D ++ 32 :: r)).getD i 0 = c := by
      rw [List.getD_eq_getElem?_getD, List.getElem?_append_right (by omega), hA, Nat.sub_self]; rfl
    have hv : Lib.digitVal c = some (c.toNat - 48) := by unfold Lib.digitVal; rw [if_pos hc]
    rw [Lib.decFrom, hv] at hm
    rw [digs_go (by rw [List.length_append, List.length_append]; simp; omega) (by rw [hg]; exact hc.1) (by rw [hg]; exact hc.2), hg]
    have := ih (fun x hx => hD x (List.mem_cons_of_mem _ hx)) (A ++ [c]) f (i + 1) (n * 10 + (c.toNat - 48)) (by simp [hA]) (by rw [List.length_cons] at hf; omega) hm
    rw [show A ++ (c :: D ++ 32 :: r) = A ++ [c] ++ (D ++ 32 :: r) from by simp, this, List.length_cons]
    congr 1; omega
theorem recsF_rec (k v rest p q : Bs) (hl : k.length + v.length ≤ 900) :
    recsF (recOf k v ++ rest) p q = recsF rest (if (k ++ 61 :: v).take 5 = eqPath then (k ++ 61 :: v).drop 5 else p) (if (k ++ 61 :: v).take 9 = eqLink then (k ++ 61 :: v).drop 9 else q) := by
  obtain ⟨n, hn⟩ : ∃ n, n = recN (recRest k v).length := ⟨_, rfl⟩
  obtain ⟨D, hD⟩ : ∃ D, D = Lib.decDigits n := ⟨_, rfl⟩
  have hrl := rest_len k v
  have hsp := recN_spec (recRest k v).length
  have hle := recN_le (recRest k v).length (by omega)
  rw [← hn] at hsp hle
  have hDl : D.length = Lib.nDigits n := by rw [hD, Lib.decDigits_length]
  have hds := dec_spec n
  rw [← hD] at hds
  have hdv := decFrom_dec n
  rw [← hD] at hdv
  have h6 : D.length ≤ 6 := by
    rw [hDl]
    have h3 : Lib.nDigits n ≤ Lib.nDigits 999 := nDigits_mono (by omega)
    have h4 : Lib.nDigits 999 = 3 := by decide +kernel
    omega
  have e : recOf k v ++ rest = D ++ 32 :: (k ++ [61] ++ v ++ [10] ++ rest) := by
    unfold recOf; rw [← hn, ← hD]; unfold recRest; simp
  have hlen : (recOf k v).length = n := by rw [recOf_len, ← hrl, ← hn]
  have hdg : digs (recOf k v ++ rest) 6 0 0 = (D.length, n) := by
    have := digs_run D hds.1 [] (k ++ [61] ++ v ++ [10] ++ rest) 6 0 0 n rfl h6 hdv
    rw [List.nil_append, Nat.zero_add] at this
    rw [e]; exact this
  have hseg : ((recOf k v ++ rest).take (n - 1)).drop (D.length + 1) = k ++ 61 :: v := by
    rw [e, show D ++ 32 :: (k ++ [61] ++ v ++ [10] ++ rest) = (D ++ [32] ++ (k ++ 61 :: v)) ++ ([10] ++ rest) from by simp]
    rw [List.take_left' (by simp; omega), List.drop_left' (by simp)]
  rw [recsF_go hdg (by omega) (by rw [List.length_append]; omega), hseg, List.drop_left' hlen]
theorem recsF_nil (p q : Bs) : recsF [] p q = (p, q) := recsF_stop (i := 0) (n := 0) (digs_stop (by simp)) (by simp)
theorem recsF_path (v rest p q : Bs) (hl : v.length ≤ 800) : recsF (recOf bsPath v ++ rest) p q = recsF rest v q := by
  rw [recsF_rec bsPath v rest p q (by show 4 + _ ≤ _; omega), if_pos (by rfl), if_neg (by simp [bsPath, eqLink])]
  rfl
theorem recsF_link (v rest p q : Bs) (hl : v.length ≤ 800) : recsF (recOf bsLink v ++ rest) p q = recsF rest p v := by
  rw [recsF_rec bsLink v rest p q (by show 8 + _ ≤ _; omega), if_neg (by simp [bsLink, eqPath]), if_pos (by rfl)]
  rfl
theorem recsF_extra (n : Nd) (hp : n.path.length ≤ 200) (hd : n.data.length ≤ 400) :
    recsF (extraOf n) [] [] = (if 100 < (nameOf n).length then nameOf n else [], if n.kind = 4 ∧ 100 < n.data.length then n.data else []) := by
  have hnl := nameOf_le n 200 hp (by omega)
  unfold extraOf
  by_cases h1 : 100 < (nameOf n).length
  · rw [if_pos h1, if_pos h1, recsF_path _ _ _ _ (by omega)]
    by_cases h2 : n.kind = 4 ∧ 100 < n.data.length
    · rw [if_pos h2, if_pos h2, ← List.append_nil (recOf bsLink n.data), recsF_link _ _ _ _ (by omega), recsF_nil]
    · rw [if_neg h2, if_neg h2, recsF_nil]
  · rw [if_neg h1, if_neg h1, List.nil_append]
    by_cases h2 : n.kind = 4 ∧ 100 < n.data.length
    · rw [if_pos h2, if_pos h2, ← List.append_nil (recOf bsLink n.data), recsF_link _ _ _ _ (by omega), recsF_nil]
    · rw [if_neg h2, if_neg h2, recsF_nil]
/-! ### Read -/
/-- The node that an entry says, behind what records told. -/
def entNd (h : Hd) (d p q : Bs) : Nd :=
  ⟨if (if p = [] then h.name else p) = [46] then [] else if p = [] then h.name else p, h.kind, if h.kind = 4 then if q = [] then h.link else q else d⟩
def docL (y p q : Bs) (t : List Nd) : List Nd :=
  if h : 512 ≤ y.length ∧ t.length ≤ 400 then
    if (headRd (y.take 512)).ok = true ∧ (headRd (y.take 512)).n ≤ y.length - 512 then
      if (headRd (y.take 512)).kind = 5 then
        docL (y.drop (512 + ((headRd (y.take 512)).n + 511) / 512 * 512)) (recsF ((y.drop 512).take (headRd (y.take 512)).n) [] []).1 (recsF ((y.drop 512).take (headRd (y.take 512)).n) [] []).2 t
      else docL (y.drop (512 + ((headRd (y.take 512)).n + 511) / 512 * 512)) [] [] (t ++ [entNd (headRd (y.take 512)) ((y.drop 512).take (headRd (y.take 512)).n) p q])
    else t
  else t
termination_by y.length
decreasing_by all_goals (rw [List.length_drop]; omega)
theorem docL_stop {y p q : Bs} {t : List Nd} (h : ¬ (512 ≤ y.length ∧ t.length ≤ 400)) : docL y p q t = t := by rw [docL, dif_neg h]
theorem docL_end {y p q : Bs} {t : List Nd} (h : 512 ≤ y.length ∧ t.length ≤ 400) {H : Hd} (hH : headRd (y.take 512) = H) (h2 : ¬ (H.ok = true ∧ H.n ≤ y.length - 512)) : docL y p q t = t := by rw [docL, dif_pos h, hH, if_neg h2]
theorem docL_pax {y p q : Bs} {t : List Nd} (h : 512 ≤ y.length ∧ t.length ≤ 400) {H : Hd} (hH : headRd (y.take 512) = H) (h2 : H.ok = true ∧ H.n ≤ y.length - 512) (h5 : H.kind = 5) :
    docL y p q t = docL (y.drop (512 + (H.n + 511) / 512 * 512)) (recsF ((y.drop 512).take H.n) [] []).1 (recsF ((y.drop 512).take H.n) [] []).2 t := by
  conv => lhs; rw [docL]
  rw [dif_pos h, hH, if_pos h2, if_pos h5]
theorem docL_own {y p q : Bs} {t : List Nd} (h : 512 ≤ y.length ∧ t.length ≤ 400) {H : Hd} (hH : headRd (y.take 512) = H) (h2 : H.ok = true ∧ H.n ≤ y.length - 512) (h5 : H.kind ≠ 5) :
    docL y p q t = docL (y.drop (512 + (H.n + 511) / 512 * 512)) [] [] (t ++ [entNd H ((y.drop 512).take H.n) p q]) := by
  conv => lhs; rw [docL]
  rw [dif_pos h, hH, if_pos h2, if_neg h5]
/-- An entry, in front. -/
theorem entry_front {name link data : Bs} {k : Int} (rest : Bs) (h : headB name k data.length link = true) :
    512 ≤ (entryOf name k link data ++ rest).length ∧ headRd ((entryOf name k link data ++ rest).take 512) = ⟨name, k, data.length, link, true⟩ ∧ data.length ≤ (entryOf name k link data ++ rest).length - 512 ∧
      ((entryOf name k link data ++ rest).drop 512).take data.length = data ∧ (entryOf name k link data ++ rest).drop (512 + (data.length + 511) / 512 * 512) = rest := by
  have hl := headR_len h
  have e : entryOf name k link data ++ rest = headR name k data.length link ++ (data ++ (rep 0 ((512 - data.length % 512) % 512) ++ rest)) := by unfold entryOf; simp only [List.append_assoc]
  have hen : (entryOf name k link data).length = 512 + (data.length + 511) / 512 * 512 := by
    unfold entryOf
    rw [List.length_append, List.length_append, hl, rep, List.length_replicate]
    omega
  refine ⟨?_, ?_, ?_, ?_, List.drop_left' hen⟩
  · rw [List.length_append, hen]; omega
  · rw [e, List.take_left' hl, headRd_back h]
  · rw [List.length_append, hen]; omega
  · rw [e, List.drop_left' hl, List.take_left' rfl]
theorem zeros_front : (headRd ((rep 0 1024).take 512)).ok = false := by
  cases hk : rdOk ((rep 0 1024).take 512) with
  | false => unfold headRd; rw [hk]; rfl
  | true =>
    exfalso
    unfold rdOk at hk
    simp only [Bool.and_eq_true, beq_iff_eq] at hk
    obtain ⟨⟨_, hb⟩, he⟩ := hk
    obtain ⟨c, r, e, hc⟩ := headR_head hb
    rw [he] at e
    have : ((rep 0 1024).take 512).head? = some 0 := by rw [show (1024 : Nat) = 1023 + 1 from rfl, rep, List.replicate_succ]; rfl
    rw [e] at this
    simp at this
    exact hc this
theorem docL_zero (p q : Bs) (t : List Nd) : docL (rep 0 1024) p q t = t := by
  by_cases h : 512 ≤ (rep 0 1024).length ∧ t.length ≤ 400
  · exact docL_end h rfl (by rw [zeros_front]; simp)
  · exact docL_stop h
theorem entNd_back {n : Nd} (h : goodNd n = true) : entNd ⟨(nameOf n).take 100, n.kind, (ownData n).length, (linkOf n).take 100, true⟩ (ownData n) (if 100 < (nameOf n).length then nameOf n else []) (if n.kind = 4 ∧ 100 < n.data.length then n.data else []) = n := by
  have hp : pathOk n.path = true := by unfold goodNd at h; simp only [Bool.and_eq_true] at h; exact h.1.1
  have hnn : nameOf n ≠ [] := by
    unfold nameOf
    split
    · simp
    · rename_i hh; intro e; rw [e] at hh; simp at hh
  have e1 : (if (if 100 < (nameOf n).length then nameOf n else []) = [] then (nameOf n).take 100 else (if 100 < (nameOf n).length then nameOf n else [])) = nameOf n := by
    by_cases h1 : 100 < (nameOf n).length
    · rw [if_pos h1, if_neg hnn]
    · rw [if_neg h1, if_pos rfl, List.take_of_length_le (by omega)]
  have e2 : (if n.kind = 4 then (if (if n.kind = 4 ∧ 100 < n.data.length then n.data else []) = [] then (linkOf n).take 100 else (if n.kind = 4 ∧ 100 < n.data.length then n.data else [])) else ownData n) = n.data := by
    by_cases hk : n.kind = 4
    · rw [if_pos hk]
      unfold linkOf
      rw [if_pos hk]
      by_cases h2 : 100 < n.data.length
      · have h3 : n.kind = 4 ∧ 100 < n.data.length := ⟨hk, h2⟩
        have h4 : ¬ n.data = [] := fun e => by rw [e] at h2; simp at h2
        simp only [if_pos h3, if_neg h4]
      · have h3 : ¬ (n.kind = 4 ∧ 100 < n.data.length) := fun hh => h2 hh.2
        simp only [if_neg h3, if_true]
        exact List.take_of_length_le (by omega)
    · rw [if_neg hk]; unfold ownData; rw [if_neg hk]
  unfold entNd
  simp only
  rw [e1, e2]
  obtain ⟨pp, k, d⟩ := n
  simp only [Nd.mk.injEq, and_true]
  unfold nameOf
  by_cases he : pp = []
  · subst he; rfl
  · have : pp.isEmpty = false := by cases pp <;> simp_all
    simp only [this]
    rw [if_neg (by simpa using pathOk_dot hp)]
    rfl
theorem docL_node {n : Nd} (rest : Bs) (t : List Nd) (h : goodNd n = true) (ht : t.length ≤ 400) : docL (nodeOf n ++ rest) [] [] t = docL rest [] [] (t ++ [n]) := by
  have hok := NdOk_of h
  obtain ⟨o1, o2⟩ := own_entry hok
  have hown : ∀ p q, docL (ownOf n ++ rest) p q t = docL rest [] [] (t ++ [entNd ⟨(nameOf n).take 100, n.kind, (ownData n).length, (linkOf n).take 100, true⟩ (ownData n) p q]) := fun p q => by
    obtain ⟨f1, f2, f3, f4, f5⟩ := entry_front rest o2
    rw [o1, docL_own ⟨f1, ht⟩ f2 ⟨rfl, f3⟩ (goodNd_kinds h), f4, f5]
  have hback := entNd_back h
  unfold nodeOf paxOf
  by_cases hx : extraOf n = []
  · rw [if_pos hx, List.nil_append, hown]
    have hx' := hx
    unfold extraOf at hx'
    rw [List.append_eq_nil_iff] at hx'
    obtain ⟨e1, e2⟩ := hx'
    have l1 : ¬ 100 < (nameOf n).length := fun hh => by rw [if_pos hh] at e1; exact recOf_ne _ _ e1
    have l2 : ¬ (n.kind = 4 ∧ 100 < n.data.length) := fun hh => by rw [if_pos hh] at e2; exact recOf_ne _ _ e2
    rw [if_neg l1, if_neg l2] at hback
    rw [hback]
  · rw [if_neg hx, List.append_assoc]
    obtain ⟨f1, f2, f3, f4, f5⟩ := entry_front (ownOf n ++ rest) (hok.pax hx)
    rw [docL_pax ⟨f1, ht⟩ f2 ⟨rfl, f3⟩ rfl, f4, f5, recsF_extra n hok.path hok.data, hown, hback]
theorem docL_back (t acc : List Nd) (hg : ∀ n ∈ t, goodNd n = true) (hl : acc.length + t.length ≤ 401) : docL (laidOf t ++ rep 0 1024) [] [] acc = acc ++ t := by
  induction t generalizing acc with
  | nil => rw [show laidOf [] ++ rep 0 1024 = rep 0 1024 from rfl, docL_zero, List.append_nil]
  | cons n t ih =>
    rw [List.length_cons] at hl
    rw [laidOf_cons, List.append_assoc, docL_node _ _ (hg n (List.mem_cons_self ..)) (by omega), ih (acc ++ [n]) (fun m hm => hg m (List.mem_cons_of_mem _ hm)) (by rw [List.length_append, List.length_singleton]; omega)]
    simp
/-- The document's answer and the program's: the same. -/
theorem doc_same (b : Bs) : (treeOk (docL b [] [] []) && (layOf (docL b [] [] []) == b)) = readB b ∧ (readB b = true → docL b [] [] [] = readT b) := by
  have h1 : readB b = true → docL b [] [] [] = readT b := fun h => by
    obtain ⟨ht, hl⟩ := readB_lay h
    have := docL_back (readT b) [] (treeOk_good ht) (by have := (treeOk_nodes _ ht).2; simp; omega)
    rw [List.nil_append] at this
    have hl' : laidOf (readT b) ++ rep 0 1024 = b := hl
    rwa [hl'] at this
  refine ⟨?_, h1⟩
  cases hb : readB b with
  | true =>
    obtain ⟨ht, hl⟩ := readB_lay hb
    rw [h1 hb, ht, hl]; simp
  | false =>
    rw [Bool.and_eq_false_iff]
    cases ht : treeOk (docL b [] [] []) with
    | false => exact .inl rfl
    | true =>
      refine .inr ?_
      rw [beq_eq_false_iff_ne]
      intro e
      have := (read_lay ht).2
      rw [e, hb] at this
      cases this
theorem recsF_le (m : Nat) (s p q : Bs) (hs : s.length ≤ m) (hp : p.length ≤ m) : (recsF s p q).1.length ≤ m := by
  obtain ⟨z, hz⟩ : ∃ z, z = s.length := ⟨_, rfl⟩
  induction z using Nat.strongRecOn generalizing s p q with
  | _ z ih =>
    rw [recsF]
    split
    · rename_i h
      refine ih _ ?_ _ _ _ (by rw [List.length_drop]; omega) ?_ rfl
      · rw [List.length_drop]; omega
      · split
        · unfold segOf; rw [List.length_drop, List.length_drop, List.length_take]; omega
        · exact hp
    · exact hp
theorem ReadPost.of {w : World} {t1 t2 : List Nd} {ok : Bool} (h : ok = true → t1 = t2) {e : Ending} {w' : World} (hp : ReadPost w t1 ok e w') : ReadPost w t2 ok e w' := by
  cases ok with
  | false => exact hp
  | true => rw [← h rfl]; exact hp
theorem two_if (p NM N1 : ByteArray) (h : N1 = if p.data.toList = [] then NM else p) : (p.toList.isEmpty = true ∧ Hid (NM = N1)) ∨ (p.toList.isEmpty = false ∧ Hid (p = N1)) := by
  rw [Lib.toList_data]
  by_cases h1 : p.data.toList = []
  · rw [if_pos h1] at h; exact .inl ⟨by rw [h1]; rfl, Lib.hid h.symm⟩
  · rw [if_neg h1] at h; exact .inr ⟨by simpa using h1, Lib.hid h.symm⟩
theorem two_dot (N1 PX : ByteArray) (h : PX = if N1.data.toList = [46] then ⟨#[]⟩ else N1) : ((N1.toList == [46]) = true ∧ Hid ((⟨#[]⟩ : ByteArray) = PX)) ∨ ((N1.toList == [46]) = false ∧ Hid (N1 = PX)) := by
  rw [Lib.toList_data]
  by_cases h1 : N1.data.toList = [46]
  · rw [if_pos h1] at h; exact .inl ⟨by rw [h1]; rfl, Lib.hid h.symm⟩
  · rw [if_neg h1] at h; exact .inr ⟨by rw [beq_eq_false_iff_ne]; exact h1, Lib.hid h.symm⟩
theorem two_kind (k : Int) (L1 D VX : ByteArray) (h : VX = if k = 4 then L1 else D) : ((k == 4) = true ∧ Hid (L1 = VX)) ∨ ((k == 4) = false ∧ Hid (D = VX)) := by
  by_cases h1 : k = 4
  · rw [if_pos h1] at h; exact .inl ⟨by rw [h1]; rfl, Lib.hid h.symm⟩
  · rw [if_neg h1] at h; exact .inr ⟨by rw [beq_eq_false_iff_ne]; exact h1, Lib.hid h.symm⟩
/-- The node that the walk builds is the entry's. -/
theorem ent_parts (nm lk d : Bs) (k : Int) (n : Nat) (p q NM LK D N1 L1 PX VX : ByteArray) (hNM : NM = ⟨nm.toArray⟩) (hLK : LK = ⟨lk.toArray⟩) (hD : D = ⟨d.toArray⟩)
    (h1 : N1 = if p.data.toList = [] then NM else p) (h2 : L1 = if q.data.toList = [] then LK else q) (h3 : PX = if N1.data.toList = [46] then ⟨#[]⟩ else N1) (h4 : VX = if k = 4 then L1 else D) :
    entNd ⟨nm, k, n, lk, true⟩ d p.data.toList q.data.toList = ⟨PX.data.toList, k, VX.data.toList⟩ := by
  unfold entNd
  simp only [Nd.mk.injEq, true_and]
  have e1 : N1.data.toList = if p.data.toList = [] then nm else p.data.toList := by rw [h1, hNM]; split <;> rfl
  have e2 : L1.data.toList = if q.data.toList = [] then lk else q.data.toList := by rw [h2, hLK]; split <;> rfl
  refine ⟨?_, ?_⟩
  · rw [← e1, h3]; split <;> rfl
  · rw [← e2, h4, hD]; split <;> rfl
set_option maxHeartbeats 2000000 in
theorem rRead14_any (A : Option Addr) (c : Nat) (b : Bs) (w : World) (hC : kByte.C w A b.length b) (hc : b.length ≤ c) (hl : b.length ≤ 80000) :
    Calls Tryz.prog 9 #[.slice A b.length c] w (ReadPost w (readT b) (readB b)) := by
  obtain ⟨T, hT⟩ : ∃ T, T = docL b [] [] [] := ⟨_, rfl⟩
  obtain ⟨s1, s2⟩ := doc_same b
  rw [← hT] at s1 s2
  rw [← s1]
  rw [← s1] at s2
  suffices h : Calls Tryz.prog 9 #[.slice A b.length c] w (ReadPost w T (treeOk T && (layOf T == b))) from h.mono fun _ _ hp => hp.of s2
  clear s1 s2
  obtain ⟨OK, hOK⟩ : ∃ OK, OK = (treeOk T && (layOf T == b)) := ⟨_, rfl⟩
  rw [← hOK]
  have HOK := Lib.hid hOK
  clear hOK
  have HT : Hid (docL (b.drop 0) [] [] [] = T) := Lib.hid hT.symm
  have HC := Lib.hid hC
  clear hC hT
  go_enter Tryz.func9, Tryz.ntmps9
  go_upto_block 0 with fail
  go_cut [4] (fun u wr => ∃ (A1 : Option Addr) (n1 c1 : Nat), u = .slice A1 n1 c1 ∧ Hid (OwnN wr w.heap.size (.slice A1 n1 c1) T) ∧ Hid (Below w.heap.size w wr) ∧ Hid (∀ n ∈ T, n.path.length ≤ 90000))
  case first =>
    go_wp2_with fail
    go_loopw [4, 5, 6, 7] (fun u i v x wr => ∃ (A1 : Option Addr) (n1 c1 a : Nat) (p q : ByteArray) (t : List Nd), u = .slice A1 n1 c1 ∧ i = .int .i64 a ∧ v = .string p ∧ x = .string q ∧ n1 ≤ 401 ∧ a ≤ b.length + 512 ∧ p.size ≤ 80000 ∧ Hid (n1 = t.length) ∧ Hid (OwnN wr w.heap.size (.slice A1 n1 c1) t) ∧ Hid (Below w.heap.size w wr) ∧ Hid (∀ n ∈ t, n.path.length ≤ 90000) ∧ Hid (docL (b.drop a) p.data.toList q.data.toList t = T)) (fun _ i _ _ _ => b.length + 600 - (intOf i).toNat)
    case atStart => exact ⟨none, 0, 0, 0, ⟨#[]⟩, ⟨#[]⟩, [], rfl, rfl, rfl, rfl, by omega, by omega, Nat.zero_le _, Lib.hid rfl, Lib.hid (OwnN.nil _ _), Lib.hid (Below.refl _ _), Lib.hid (by simp), HT⟩
    case round =>
      obtain ⟨A1, n1, c1, a, p, q, t, rfl, rfl, rfl, rfl, hn1, ha, hp, HN, HO, HB, HP, HD⟩ := hrel
      clear HT
      have hdl : (b.drop a).length = b.length - a := List.length_drop
      by_cases h1 : a + 512 ≤ b.length
      · have i1 : (512 : Int) ≤ (b.length : Int) - (a : Int) := by omega
        by_cases h2 : n1 ≤ 400
        · have i2 : (n1 : Int) ≤ 400 := by omega
          have hC1 := Kd.C_below HC.out HB.out
          obtain ⟨ad, rfl, _⟩ := at_byte hC1 0 (by omega)
          have hcut := run_cut (some ad) b.length c a (a + 512) (by omega) (by omega)
          have hCc := C_cut (lo := a) (hi := a + 512) hC1 (by omega) h1 hc
          rw [if_neg (show ¬ c = a from by omega), List.drop_take, show a + 512 - a = 512 from by omega] at hCc
          simp only [if_neg (show ¬ c = a from by omega), show a + 512 - a = 512 from by omega, Option.map_some] at hcut
          obtain ⟨hd, hhd⟩ : ∃ hd, hd = headRd ((b.drop a).take 512) := ⟨_, rfl⟩
          have hrd := rRead_any (some (ad.add a)) 512 (c - a) _ wr hCc (by omega)
          have hnb := headRd_n ((b.drop a).take 512)
          have hle := headRd_le ((b.drop a).take 512)
          rw [← hhd] at hrd hnb hle
          have HCUT := Lib.hid hcut
          have HRD := Lib.hid hrd
          have HHD := Lib.hid hhd.symm
          clear hcut hCc hrd hhd hC1
          obtain ⟨nm, k, n, lk, ok⟩ := hd
          unfold Hd.val at HRD
          simp only at hnb hle HRD
          obtain ⟨NM, hNM⟩ : ∃ N : ByteArray, N = ⟨nm.toArray⟩ := ⟨_, rfl⟩
          obtain ⟨LK, hLK⟩ : ∃ N : ByteArray, N = ⟨lk.toArray⟩ := ⟨_, rfl⟩
          rw [← hNM, ← hLK] at HRD
          cases ok with
          | false =>
            have ht : t = T := by have := HD.out; rwa [docL_end ⟨by omega, by have := HN.out; omega⟩ HHD.out (by simp)] at this
            obtain rfl := ht
            clear HD HHD hNM hLK
            go_wp2_with (first | rw [HCUT.out] | (go_at_call 24; refine HRD.out.mono ?_; rintro e w2 ⟨rfl, hb2⟩))
            go_meet
            exact ⟨A1, n1, c1, rfl, Lib.hid (HO.out.blk fun j hj => hb2.block j (HO.out.lt j hj).2), Lib.hid (HB.out.trans (hb2.mono HB.out.size)), HP⟩
          | true =>
            by_cases h3 : n ≤ b.length - a - 512
            · have i3 : decide ((b.length : Int) - (a : Int) - 512 < (n : Int)) = false := decide_eq_false (by omega)
              have hC2 : ∀ W, Below wr.heap.size wr W → kByte.C W (if c = a + 512 then some ad else (some ad).map (·.add (a + 512))) n (((b.drop a).drop 512).take n) := fun W hW => by
                have := C_cut (lo := a + 512) (hi := a + 512 + n) (Kd.C_below HC.out (HB.out.trans (hW.mono HB.out.size))) (by omega) (by omega) hc
                rwa [List.drop_take, show a + 512 + n - (a + 512) = n from by omega, ← List.drop_drop] at this
              obtain ⟨d, hd⟩ : ∃ d, d = ((b.drop a).drop 512).take n := ⟨_, rfl⟩
              rw [← hd] at hC2
              have hdle : d.length ≤ 80000 := by rw [hd, List.length_take, List.length_drop]; omega
              obtain ⟨D, hD⟩ : ∃ N : ByteArray, N = ⟨d.toArray⟩ := ⟨_, rfl⟩
              have hcv : ∀ c9 W, Below wr.heap.size wr W → (convert 22 9 (.slice (if c = a + 512 then some ad else (some ad).map (·.add (a + 512))) n c9)).run Tryz.prog W = .ok (.string D) W := fun c9 W hW => by rw [hD]; exact bytes_string (hC2 W hW)
              have hnext : b.drop (a + 512 + (n + 511) / 512 * 512) = (b.drop a).drop (512 + (n + 511) / 512 * 512) := by rw [List.drop_drop]; congr 1; omega
              have HNEXT := Lib.hid hnext
              have Hd1 := Lib.hid hd
              clear hC2 hnext hd
              by_cases hcn : c = a + 512
              case' pos =>
                simp only [if_pos hcn] at hcv
                subst hcn
                rw [show a + 512 - a = 512 from by omega] at HRD HCUT
              case' neg =>
                simp only [if_neg hcn, Option.map_some] at hcv
                rw [show ad.add (a + 512) = ⟨ad.block, ad.off + (a + 511 + 1), none⟩ from by unfold Addr.add; rw [if_neg (by omega)]] at hcv
              all_goals
               have HCV := Lib.hid hcv
               clear hcv
               by_cases hk5 : k = 5
               · subst hk5
                 have hF := recsF_le 80000 D.data.toList [] [] (by rw [hD]; exact hdle) (Nat.zero_le _)
                 have hrec := fun W => rrecords_any D W (by rw [size_len, hD]; show d.length ≤ _; omega)
                 obtain ⟨F, hFF⟩ : ∃ F, F = recsF D.data.toList [] [] := ⟨_, rfl⟩
                 rw [← hFF] at hF hrec
                 obtain ⟨F1, hF1⟩ : ∃ N : ByteArray, N = ⟨F.1.toArray⟩ := ⟨_, rfl⟩
                 obtain ⟨F2, hF2⟩ : ∃ N : ByteArray, N = ⟨F.2.toArray⟩ := ⟨_, rfl⟩
                 rw [← hF1, ← hF2] at hrec
                 have hD2 : docL (b.drop (a + 512 + (n + 511) / 512 * 512)) F1.data.toList F2.data.toList t = T := by
                   have := HD.out
                   rw [docL_pax ⟨by omega, by have := HN.out; omega⟩ HHD.out ⟨rfl, by simp only; omega⟩ rfl] at this
                   simp only at this
                   rw [← Hd1.out, ← HNEXT.out, show d = D.data.toList from by rw [hD], ← hFF] at this
                   rw [hF1, hF2]; exact this
                 have hF1s : F1.size ≤ 80000 := by rw [size_len, hF1]; exact hF
                 have HREC := Lib.hid hrec
                 have HD2 := Lib.hid hD2
                 clear hF hrec hFF hF1 hF2 hD2 HD HHD hNM hLK hD HNEXT Hd1
                 go_wp2_with (first | rw [HCUT.out] | (go_at_call 24; refine HRD.out.mono ?_; rintro e w2 ⟨rfl, hb2⟩; have hcv2 := fun c9 => HCV.out c9 w2 hb2; have HCV2 := Lib.hid hcv2; have HB2 := Lib.hid hb2; clear hcv2 hb2) | rw [HCV2.out] | (go_at_call 25; refine (HREC.out _).mono ?_; rintro e w3 ⟨rfl, rfl⟩))
                 go_roundw
                 case rel => exact ⟨A1, n1, c1, a + 512 + (n + 511) / 512 * 512, F1, F2, t, rfl, congrArg (Value.int .i64) (by omega), rfl, rfl, hn1, by omega, hF1s, HN, Lib.hid (HO.out.blk fun j hj => HB2.out.block j (HO.out.lt j hj).2), Lib.hid (HB.out.trans (HB2.out.mono HB.out.size)), HP, HD2⟩
                 case measure => simp [intOf]; omega
               · have hk5' : (k == 5) = false := by rw [beq_eq_false_iff_ne]; exact hk5
                 obtain ⟨N1, hN1⟩ : ∃ N, N = if p.data.toList = [] then NM else p := ⟨_, rfl⟩
                 obtain ⟨L1, hL1⟩ : ∃ N, N = if q.data.toList = [] then LK else q := ⟨_, rfl⟩
                 obtain ⟨PX, hPX⟩ : ∃ N : ByteArray, N = if N1.data.toList = [46] then ⟨#[]⟩ else N1 := ⟨_, rfl⟩
                 obtain ⟨VX, hVX⟩ : ∃ N, N = if k = 4 then L1 else D := ⟨_, rfl⟩
                 have hent := ent_parts nm lk d k n p q NM LK D N1 L1 PX VX hNM hLK hD hN1 hL1 hPX hVX
                 have hPXs : PX.size ≤ 90000 := by
                   have e1 : N1.size ≤ 90000 := by
                     rw [hN1]; split
                     · rw [hNM, size_len]; show nm.length ≤ _; omega
                     · omega
                   rw [hPX]; split
                   · exact Nat.zero_le _
                   · exact e1
                 obtain ⟨a2, ha2⟩ : ∃ a2, a2 = a + 512 + (n + 511) / 512 * 512 := ⟨_, rfl⟩
                 have ha2b : a2 ≤ b.length + 512 := by omega
                 have ha2g : a + 512 ≤ a2 := by omega
                 have hD2 : docL (b.drop a2) [] [] (t ++ [⟨PX.data.toList, k, VX.data.toList⟩]) = T := by
                   have := HD.out
                   rw [docL_own ⟨by omega, by have := HN.out; omega⟩ HHD.out ⟨rfl, by simp only; omega⟩ hk5] at this
                   simp only at this
                   rw [← Hd1.out, ← HNEXT.out, hent, ← ha2] at this
                   exact this
                 have O1 := Lib.hid (two_if p NM N1 hN1)
                 have O2 := Lib.hid (two_if q LK L1 hL1)
                 have O3 := Lib.hid (two_dot N1 PX hPX)
                 have O4 := Lib.hid (two_kind k L1 D VX hVX)
                 have HD2 := Lib.hid hD2
                 have HA2 := Lib.hid ha2
                 clear hN1 hL1 hPX hVX hent hD2 ha2 hNM hLK hD HHD HD HNEXT Hd1 hdle hdl
                 go_upto_if 73 with (first | rw [HCUT.out] | (go_at_call 24; refine HRD.out.mono ?_; rintro e w2 ⟨rfl, hb2⟩; have hcv2 := fun c9 => HCV.out c9 w2 hb2; have HCV2 := Lib.hid hcv2; have HB2 := Lib.hid hb2; clear hcv2 hb2) | rw [HCV2.out])
                 go_cut [5, 8] (fun u5 u wx => w2 = wx ∧ u5 = .int .i64 a2 ∧ u = .string N1)
                 case first =>
                   rcases O1.out with ⟨e1, E1⟩ | ⟨e1, E1⟩ <;> ((try rw [e1]); (try simp only [Bool.not_true, Bool.not_false]); go_wp2_with fail; go_meet; exact ⟨rfl, congrArg (Value.int .i64) (by have := HA2.out; omega), congrArg Value.string E1.out⟩)
                 case rest =>
                   obtain ⟨rfl, rfl, rfl⟩ := hcut
                   go_upto_if 76 with fail
                   go_cut [11] (fun u wx => w2 = wx ∧ u = .string L1)
                   case first =>
                     rcases O2.out with ⟨e1, E1⟩ | ⟨e1, E1⟩ <;> ((try rw [e1]); (try simp only [Bool.not_true, Bool.not_false]); go_wp2_with fail; go_meet; exact ⟨rfl, congrArg Value.string E1.out⟩)
                   case rest =>
                     obtain ⟨rfl, rfl⟩ := hcut
                     go_upto_if 79 with fail
                     go_cut [8] (fun u wx => w2 = wx ∧ u = .string PX)
                     case first =>
                       rcases O3.out with ⟨e1, E1⟩ | ⟨e1, E1⟩ <;> ((try rw [e1]); (try simp only [Bool.not_true, Bool.not_false]); go_wp2_with fail; go_meet; exact ⟨rfl, congrArg Value.string E1.out⟩)
                     case rest =>
                       obtain ⟨rfl, rfl⟩ := hcut
                       go_upto_if 81 with fail
                       go_cut [13] (fun u wx => w2 = wx ∧ u = .string VX)
                       case first =>
                         rcases O4.out with ⟨e1, E1⟩ | ⟨e1, E1⟩ <;> ((try rw [e1]); (try simp only [Bool.not_true, Bool.not_false]); go_wp2_with fail; go_meet; exact ⟨rfl, congrArg Value.string E1.out⟩)
                       case rest =>
                         obtain ⟨rfl, rfl⟩ := hcut
                         have hB2 := HB.out.trans (HB2.out.mono HB.out.size)
                         have hO2 := HO.out.blk fun j hj => HB2.out.block j (HO.out.lt j hj).2
                         have hbl3 : Below w2.heap.size w2 (w2.alloc (.cells #[.string PX, .int .i64 k, .string VX] 38)) := (Below.refl _ _).alloc (Nat.le_refl _) _
                         have hO3 := hO2.blk fun j hj => hbl3.block j (hO2.lt j hj).2
                         have hB3 := hB2.trans (hbl3.mono hB2.size)
                         obtain ⟨v4, w4, hr4, ho4, hg4, hl4⟩ := hO3.app1 25 ⟨w2.heap.size, 0, none⟩ ⟨PX.data.toList, k, VX.data.toList⟩ (fun j u hj => by
                           rw [add_blk, World.cell?_alloc_new]
                           rw [← hj]; simp [Nd.vals]) (by have := HN.out; omega) hB3.size
                         have gr4 := GrN hO3 hB3.size hg4 hl4
                         obtain ⟨A4, c4, rfl, hc4⟩ := ho4.form
                         have hlen : (t ++ [(⟨PX.data.toList, k, VX.data.toList⟩ : Nd)]).length = n1 + 1 := by rw [List.length_append, List.length_singleton, HN.out]
                         have hP4 : ∀ m ∈ t ++ [(⟨PX.data.toList, k, VX.data.toList⟩ : Nd)], m.path.length ≤ 90000 := fun m hm => by
                           rcases List.mem_append.1 hm with h | h
                           · exact HP.out m h
                           · obtain rfl := List.mem_singleton.1 h
                             rw [size_len] at hPXs; exact hPXs
                         rw [hlen] at hr4 ho4
                         have HR4 := Lib.hid hr4
                         have HO4 := Lib.hid ho4
                         have HB4 := Lib.hid (hB3.trans gr4.below)
                         have HP4 := Lib.hid hP4
                         have HLEN := Lib.hid hlen
                         clear hB2 hO2 hbl3 hO3 hB3 hr4 ho4 hg4 hl4 gr4 hlen hP4 HO HB HP HB2
                         by_cases h9 : a2 ≤ b.length
                         · have i9 : decide ((b.length : Int) < (a2 : Int)) = false := decide_eq_false (by omega)
                           go_wp2_with (at_builtin; refine Lib.wpList_append_run _ rfl _ _ _ _ rfl _ _ rfl rfl _ _ HR4.out ?_)
                           go_roundw
                           case rel => exact ⟨A4, n1 + 1, c4, a2, ⟨#[]⟩, ⟨#[]⟩, _, rfl, rfl, rfl, rfl, by omega, ha2b, Nat.zero_le _, Lib.hid HLEN.out.symm, HO4, HB4, HP4, HD2⟩
                           case measure => simp [intOf]; omega
                         · have i9 : (b.length : Int) < (a2 : Int) := by omega
                           have ht : t ++ [(⟨PX.data.toList, k, VX.data.toList⟩ : Nd)] = T := by have := HD2.out; rwa [docL_stop (by rw [List.length_drop]; omega)] at this
                           rw [ht] at HO4 HP4
                           clear ht
                           go_wp2_with (at_builtin; refine Lib.wpList_append_run _ rfl _ _ _ _ rfl _ _ rfl rfl _ _ HR4.out ?_)
                           go_meet
                           exact ⟨A4, n1 + 1, c4, rfl, HO4, HB4, HP4⟩
            · have i3 : (b.length : Int) - (a : Int) - 512 < (n : Int) := by omega
              have ht : t = T := by have := HD.out; rwa [docL_end ⟨by omega, by have := HN.out; omega⟩ HHD.out (by simp only; omega)] at this
              obtain rfl := ht
              clear HD HHD hNM hLK
              go_wp2_with (first | rw [HCUT.out] | (go_at_call 24; refine HRD.out.mono ?_; rintro e w2 ⟨rfl, hb2⟩))
              go_meet
              exact ⟨A1, n1, c1, rfl, Lib.hid (HO.out.blk fun j hj => hb2.block j (HO.out.lt j hj).2), Lib.hid (HB.out.trans (hb2.mono HB.out.size)), HP⟩
        · have i2 : decide ((n1 : Int) ≤ 400) = false := decide_eq_false (by omega)
          have ht : t = T := by have := HD.out; rwa [docL_stop (by have := HN.out; omega)] at this
          obtain rfl := ht
          clear HD
          go_wp2_with fail
          go_meet
          exact ⟨A1, n1, c1, rfl, HO, HB, HP⟩
      · have i1 : decide ((512 : Int) ≤ (b.length : Int) - (a : Int)) = false := decide_eq_false (by omega)
        have ht : t = T := by have := HD.out; rwa [docL_stop (by omega)] at this
        obtain rfl := ht
        clear HD
        go_wp2_with fail
        go_meet
        exact ⟨A1, n1, c1, rfl, HO, HB, HP⟩
  case rest =>
    obtain ⟨A1, n1, c1, rfl, HO, HB, HP⟩ := hcut
    clear HT
    obtain ⟨hn, hcp, hCT⟩ := HO.out.C
    subst hn
    have hLay := rLayT_any T A1 c1 wc hCT hcp HP.out
    cases htr : treeOk T with
    | false =>
      have hz : OK = false := by rw [HOK.out, htr, Bool.false_and]
      rw [htr] at hLay
      have HLAY := Lib.hid hLay
      have HZ := Lib.hid hz
      clear hLay hz htr hCT HOK
      go_wp2_with (go_at_call 26; refine HLAY.out.mono ?_; rintro e w6 ⟨A5, m5, c5, rfl, hO5, hb6⟩)
      go_ret2
      exact ⟨none, 0, 0, by rw [HZ.out]; rfl, by rw [HZ.out]; exact OwnN.nil _ _, HB.out.trans (hb6.mono HB.out.size)⟩
    | true =>
      rw [htr, if_pos rfl, if_pos rfl] at hLay
      have HLAY := Lib.hid hLay
      have HTR := Lib.hid htr
      clear hLay htr hCT
      go_wp2_with (go_at_call 26; refine HLAY.out.mono ?_; rintro e w6 ⟨A5, m5, c5, rfl, hO5, hb6⟩)
      have hB6 := HB.out.trans (hb6.mono HB.out.size)
      have hO6 := HO.out.blk fun j hj => hb6.block j (HO.out.lt j hj).2
      have hcv1 := bytes_string (c := c5) hO5.C.2.2
      have hm5 := hO5.C.1
      rw [← hm5] at hcv1
      have hcv2 := bytes_string (c := c) (Kd.C_below HC.out hB6)
      have hOK : OK = (layOf T == b) := by rw [HOK.out, HTR.out, Bool.true_and]
      obtain ⟨L, hL⟩ : ∃ L, L = layOf T := ⟨_, rfl⟩
      rw [← hL] at hOK hcv1
      have HCV2 := Lib.hid hcv2
      have HB6 := Lib.hid hB6
      have HO6 := Lib.hid hO6
      clear hO5 hb6 hB6 hO6 hcv2 hm5 HOK HTR HLAY hL HO HB
      by_cases he : L = b
      · have hz : OK = true := by rw [hOK, he]; simp
        rw [he] at hcv1
        have HCV1 := Lib.hid hcv1
        have HZ := Lib.hid hz
        clear hcv1 hOK hz he
        go_wp2_with (first | rw [HCV1.out] | rw [HCV2.out])
        go_ret2
        exact ⟨A1, T.length, c1, by rw [HZ.out]; rfl, by rw [HZ.out]; exact HO6.out, HB6.out⟩
      · have hz : OK = false := by rw [hOK, beq_eq_false_iff_ne]; exact he
        have hne : ((⟨L.toArray⟩ : ByteArray).toList == (⟨b.toArray⟩ : ByteArray).toList) = false := by rw [Lib.toList_data, Lib.toList_data, beq_eq_false_iff_ne]; exact he
        obtain ⟨P, hP⟩ : ∃ P : ByteArray, P = ⟨L.toArray⟩ := ⟨_, rfl⟩
        obtain ⟨Q, hQ⟩ : ∃ Q : ByteArray, Q = ⟨b.toArray⟩ := ⟨_, rfl⟩
        have hcv2 := HCV2.out
        rw [← hP, ← hQ] at hne
        rw [← hP] at hcv1
        rw [← hQ] at hcv2
        have HCV1 := Lib.hid hcv1
        have HCV3 := Lib.hid hcv2
        have HZ := Lib.hid hz
        clear hcv1 hcv2 HCV2 hOK hz he hP hQ
        go_wp2_with (first | rw [HCV1.out] | rw [HCV3.out])
        go_ret2
        exact ⟨none, 0, 0, by rw [HZ.out]; rfl, by rw [HZ.out]; exact OwnN.nil _ _, HB6.out⟩
end Go.Proofs.YtbkjjapeojclpaaGreatDoor
