/- Plain: a header that was laid is read back. -/
import Derived.Test.YtbkjjapeojclpaaGreatDoorNdOk
namespace Go.Proofs.YtbkjjapeojclpaaGreatDoor
set_option linter.unusedVariables false
set_option linter.unusedSimpArgs false

theorem putAt_seg (A X C : Bs) (s : Bs) (k : Nat) (hk : k = A.length) (hs : s.length ≤ X.length) : putAt (A ++ (X ++ C)) k s = A ++ ((s ++ X.drop s.length) ++ C) := by
  subst hk
  unfold putAt
  rw [List.take_left, List.drop_append, List.drop_of_length_le (by omega), List.nil_append, show A.length + s.length - A.length = s.length from by omega, List.drop_append_of_le_length hs]
  simp only [List.append_assoc]
theorem cut1_zeros (l : Bs) (j : Nat) (h : l.contains 0 = false) : cut1 0 (l ++ rep 0 j) = l := by
  unfold cut1
  have hl : ∀ x ∈ l, (x != 0) = true := fun x hx => by
    simp only [bne_iff_ne, ne_eq]
    intro e
    subst e
    rw [List.contains_iff_mem.2 hx] at h
    cases h
  rw [List.takeWhile_append_of_pos hl]
  cases j with
  | zero => simp [rep]
  | succ j => simp [rep, List.replicate_succ]
theorem putAt_skip {A Y : Bs} {a k j : Nat} {s : Bs} (hA : A.length = a) (hk : k = a + j) : putAt (A ++ Y) k s = A ++ putAt Y j s := by
  subst hA hk
  unfold putAt
  rw [List.take_append, List.drop_append, List.take_of_length_le (l := A) (by omega), List.drop_of_length_le (l := A) (by omega)]
  rw [show A.length + j - A.length = j from by omega, show A.length + j + s.length - A.length = j + s.length from by omega]
  simp
theorem putAt_head {X C : Bs} {s : Bs} (hs : s.length ≤ X.length) : putAt (X ++ C) 0 s = (s ++ X.drop s.length) ++ C := by
  have := putAt_seg [] X C s 0 rfl hs
  simpa using this
/-- A text in so many places. -/
def padZ (s : Bs) (k : Nat) : Bs := s ++ rep 0 (k - s.length)
theorem padZ_len {s : Bs} {k : Nat} (h : s.length ≤ k) : (padZ s k).length = k := by unfold padZ rep; simp; omega
theorem rep_drop (k j : Nat) : (rep 0 k).drop j = rep 0 (k - j) := by simp [rep]
theorem putAt_rep {C : Bs} {s : Bs} {k : Nat} (hs : s.length ≤ k) : putAt (rep 0 k ++ C) 0 s = padZ s k ++ C := by
  rw [putAt_head (by simp [rep]; exact hs), rep_drop]; rfl
def z7 : Bs := [48, 48, 48, 48, 48, 48, 48]
def z11 : Bs := [48, 48, 48, 48, 48, 48, 48, 48, 48, 48, 48]
def sp8 : Bs := [32, 32, 32, 32, 32, 32, 32, 32]
def us8 : Bs := [117, 115, 116, 97, 114, 0, 48, 48]
/-- A header's fields, one behind the other. -/
def hdr (n m d ck sg lk : Bs) : Bs :=
  padZ n 100 ++ (padZ m 8 ++ (padZ z7 8 ++ (padZ z7 8 ++ (padZ d 12 ++ (padZ z11 12 ++ (ck ++ (sg ++ (padZ lk 100 ++ (us8 ++ rep 0 247)))))))))
theorem rep_split : rep 0 512 = rep 0 100 ++ (rep 0 8 ++ (rep 0 8 ++ (rep 0 8 ++ (rep 0 12 ++ (rep 0 12 ++ (rep 0 8 ++ (rep 0 1 ++ (rep 0 100 ++ (rep 0 8 ++ rep 0 247))))))))) := by
  simp [rep]
theorem laid0_hdr (n d lk : Bs) (k : Int) (hn : n.length ≤ 100) (hd : d.length = 11) (hl : lk.length ≤ 100) : laid0 n d k lk = hdr n (modeOf k) d sp8 (signOf k) lk := by
  have hm := mode_len k
  have hs := sign_len k
  have l1 := padZ_len hn
  have l2 := padZ_len (k := 8) (s := modeOf k) (by omega)
  have l3 : (padZ [48, 48, 48, 48, 48, 48, 48] 8).length = 8 := padZ_len (by decide)
  have l4 := padZ_len (k := 12) (s := d) (by omega)
  have l5 : (padZ [48, 48, 48, 48, 48, 48, 48, 48, 48, 48, 48] 12).length = 12 := padZ_len (by decide)
  have l6 : (padZ [32, 32, 32, 32, 32, 32, 32, 32] 8).length = 8 := padZ_len (by decide)
  have l7 : (padZ (signOf k) 1).length = 1 := padZ_len (by omega)
  have l8 := padZ_len hl
  unfold laid0
  rw [rep_split, putAt_rep hn]
  rw [putAt_skip l1 (show 100 = 100 + 0 from rfl), putAt_rep (by omega)]
  rw [putAt_skip l1 (show 108 = 100 + 8 from rfl), putAt_skip l2 (show 8 = 8 + 0 from rfl), putAt_rep (by decide)]
  rw [putAt_skip l1 (show 116 = 100 + 16 from rfl), putAt_skip l2 (show 16 = 8 + 8 from rfl), putAt_skip l3 (show 8 = 8 + 0 from rfl), putAt_rep (by decide)]
  rw [putAt_skip l1 (show 124 = 100 + 24 from rfl), putAt_skip l2 (show 24 = 8 + 16 from rfl), putAt_skip l3 (show 16 = 8 + 8 from rfl), putAt_skip l3 (show 8 = 8 + 0 from rfl), putAt_rep (by omega)]
  rw [putAt_skip l1 (show 136 = 100 + 36 from rfl), putAt_skip l2 (show 36 = 8 + 28 from rfl), putAt_skip l3 (show 28 = 8 + 20 from rfl), putAt_skip l3 (show 20 = 8 + 12 from rfl), putAt_skip l4 (show 12 = 12 + 0 from rfl), putAt_rep (by decide)]
  rw [putAt_skip l1 (show 148 = 100 + 48 from rfl), putAt_skip l2 (show 48 = 8 + 40 from rfl), putAt_skip l3 (show 40 = 8 + 32 from rfl), putAt_skip l3 (show 32 = 8 + 24 from rfl), putAt_skip l4 (show 24 = 12 + 12 from rfl), putAt_skip l5 (show 12 = 12 + 0 from rfl), putAt_rep (by decide)]
  rw [putAt_skip l1 (show 156 = 100 + 56 from rfl), putAt_skip l2 (show 56 = 8 + 48 from rfl), putAt_skip l3 (show 48 = 8 + 40 from rfl), putAt_skip l3 (show 40 = 8 + 32 from rfl), putAt_skip l4 (show 32 = 12 + 20 from rfl), putAt_skip l5 (show 20 = 12 + 8 from rfl), putAt_skip l6 (show 8 = 8 + 0 from rfl), putAt_rep (by omega)]
  rw [putAt_skip l1 (show 157 = 100 + 57 from rfl), putAt_skip l2 (show 57 = 8 + 49 from rfl), putAt_skip l3 (show 49 = 8 + 41 from rfl), putAt_skip l3 (show 41 = 8 + 33 from rfl), putAt_skip l4 (show 33 = 12 + 21 from rfl), putAt_skip l5 (show 21 = 12 + 9 from rfl), putAt_skip l6 (show 9 = 8 + 1 from rfl), putAt_skip l7 (show 1 = 1 + 0 from rfl), putAt_rep (hl)]
  rw [putAt_skip l1 (show 257 = 100 + 157 from rfl), putAt_skip l2 (show 157 = 8 + 149 from rfl), putAt_skip l3 (show 149 = 8 + 141 from rfl), putAt_skip l3 (show 141 = 8 + 133 from rfl), putAt_skip l4 (show 133 = 12 + 121 from rfl), putAt_skip l5 (show 121 = 12 + 109 from rfl), putAt_skip l6 (show 109 = 8 + 101 from rfl), putAt_skip l7 (show 101 = 1 + 100 from rfl), putAt_skip l8 (show 100 = 100 + 0 from rfl), putAt_rep (by decide)]
  have e6 : padZ [32, 32, 32, 32, 32, 32, 32, 32] 8 = sp8 := rfl
  have e7 : padZ (signOf k) 1 = signOf k := by unfold padZ; rw [hs]; simp [rep]
  have e9 : padZ [117, 115, 116, 97, 114, 0, 48, 48] 8 = us8 := rfl
  rw [e6, e7, e9]
  rfl
def ckOf (m : Nat) : Bs := octR m 6 ++ [0, 32]
theorem headR_hdr {n lk : Bs} {k : Int} {m : Nat} (h : headB n k m lk = true) : headR n k m lk = hdr n (modeOf k) (octR m 11) (ckOf (sumOf (laid0 n (octR m 11) k lk))) (signOf k) lk := by
  have hb := h
  unfold headB at hb
  simp only [Bool.and_eq_true, decide_eq_true_eq, Int.toNat_natCast] at hb
  obtain ⟨⟨hm, _⟩, ho⟩ := hb
  have hl := mayB_len hm
  have hd := oct_len ho
  have h0 := laid0_hdr n (octR m 11) lk k hl.1 hd hl.2
  have l1 := padZ_len hl.1
  have hmo := mode_len k
  have hs := sign_len k
  have l2 := padZ_len (k := 8) (s := modeOf k) (by omega)
  have l3 : (padZ z7 8).length = 8 := padZ_len (by decide)
  have l4 := padZ_len (k := 12) (s := octR m 11) (by omega)
  have l5 : (padZ z11 12).length = 12 := padZ_len (by decide)
  have l8 := padZ_len hl.2
  have hlen : (laid0 n (octR m 11) k lk).length = 512 := by
    rw [h0]; unfold hdr
    simp only [List.length_append, l1, l2, l3, l4, l5, l8, hs, rep, List.length_replicate]
    rfl
  have hsum := sumOf_le (laid0 n (octR m 11) k lk)
  have ho6 : octB (sumOf (laid0 n (octR m 11) k lk)) 6 = true := by
    unfold octB; exact decide_eq_true (mn8_len _ 6 (by omega) (by omega))
  have hck : (ckOf (sumOf (laid0 n (octR m 11) k lk))).length = 8 := by unfold ckOf; rw [List.length_append, oct_len ho6]; rfl
  have e : headR n k m lk = putAt (laid0 n (octR m 11) k lk) 148 (ckOf (sumOf (laid0 n (octR m 11) k lk))) := by unfold headR; simp only [Int.toNat_natCast]; rfl
  rw [e]
  generalize ckOf (sumOf (laid0 n (octR m 11) k lk)) = ck at hck ⊢
  rw [h0]
  unfold hdr
  rw [putAt_skip l1 (show 148 = 100 + 48 from rfl), putAt_skip l2 (show 48 = 8 + 40 from rfl), putAt_skip l3 (show 40 = 8 + 32 from rfl), putAt_skip l3 (show 32 = 8 + 24 from rfl), putAt_skip l4 (show 24 = 12 + 12 from rfl), putAt_skip l5 (show 12 = 12 + 0 from rfl)]
  rw [putAt_head (by rw [hck]; decide), hck, show sp8.drop 8 = [] from rfl, List.append_nil]
theorem take_skip {A Y : Bs} {a k j : Nat} (hA : A.length = a) (hk : k = a + j) : (A ++ Y).take k = A ++ Y.take j := by
  subst hA hk
  rw [List.take_append, List.take_of_length_le (by omega), show A.length + j - A.length = j from by omega]
theorem drop_skip {A Y : Bs} {a k j : Nat} (hA : A.length = a) (hk : k = a + j) : (A ++ Y).drop k = Y.drop j := by
  subst hA hk
  rw [List.drop_append, List.drop_of_length_le (by omega), show A.length + j - A.length = j from by omega, List.nil_append]
theorem cut1_pad {s : Bs} {k : Nat} (h : s.contains 0 = false) : cut1 0 (padZ s k) = s := cut1_zeros s _ h
theorem hdr_name (n m d ck sg lk : Bs) (hn : n.length ≤ 100) (h0 : n.contains 0 = false) : rdName (hdr n m d ck sg lk) = n := by
  unfold rdName hdr
  rw [List.take_append_of_le_length (Nat.le_of_eq (padZ_len hn).symm), List.take_of_length_le (Nat.le_of_eq (padZ_len hn))]
  exact cut1_pad h0
/-- What stands behind the checksum. -/
theorem hdr_drop (n m d ck sg lk : Bs) (hn : n.length ≤ 100) (hm : m.length ≤ 8) (hd : d.length ≤ 12) (hc : ck.length = 8) : (hdr n m d ck sg lk).drop 156 = sg ++ (padZ lk 100 ++ (us8 ++ rep 0 247)) := by
  unfold hdr
  rw [drop_skip (padZ_len hn) (show 156 = 100 + 56 from rfl), drop_skip (padZ_len hm) (show 56 = 8 + 48 from rfl), drop_skip (padZ_len (s := z7) (k := 8) (by decide)) (show 48 = 8 + 40 from rfl), drop_skip (padZ_len (s := z7) (k := 8) (by decide)) (show 40 = 8 + 32 from rfl),
    drop_skip (padZ_len hd) (show 32 = 12 + 20 from rfl), drop_skip (padZ_len (s := z11) (k := 12) (by decide)) (show 20 = 12 + 8 from rfl), drop_skip hc (show 8 = 8 + 0 from rfl), List.drop_zero]
theorem hdr_link (n m d ck sg lk : Bs) (hn : n.length ≤ 100) (hm : m.length ≤ 8) (hd : d.length ≤ 12) (hc : ck.length = 8) (hs : sg.length = 1) (hl : lk.length ≤ 100) (h0 : lk.contains 0 = false) : rdLink (hdr n m d ck sg lk) = lk := by
  unfold rdLink
  rw [List.drop_take, show 157 = 156 + 1 from rfl, ← List.drop_drop, hdr_drop n m d ck sg lk hn hm hd hc, drop_skip hs (show 1 = 1 + 0 from rfl), List.drop_zero, List.take_append_of_le_length (Nat.le_of_eq (padZ_len hl).symm), List.take_of_length_le (Nat.le_of_eq (padZ_len hl))]
  exact cut1_pad h0
theorem hdr_mode (n m d ck sg lk : Bs) (hn : n.length ≤ 100) (hm : m.length ≤ 8) (h0 : m.contains 0 = false) : cut1 0 (((hdr n m d ck sg lk).take 108).drop 100) = m := by
  unfold hdr
  rw [List.drop_take, drop_skip (padZ_len hn) (show 100 = 100 + 0 from rfl), List.drop_zero, List.take_append_of_le_length (by rw [padZ_len hm]; decide), List.take_of_length_le (by rw [padZ_len hm]; decide)]
  exact cut1_pad h0
theorem hdr_num (n m d ck sg lk : Bs) (hn : n.length ≤ 100) (hm : m.length ≤ 8) (hd : d.length ≤ 12) (h0 : d.contains 0 = false) : cut1 0 (((hdr n m d ck sg lk).take 136).drop 124) = d := by
  unfold hdr
  rw [List.drop_take, drop_skip (padZ_len hn) (show 124 = 100 + 24 from rfl), drop_skip (padZ_len hm) (show 24 = 8 + 16 from rfl), drop_skip (padZ_len (s := z7) (k := 8) (by decide)) (show 16 = 8 + 8 from rfl), drop_skip (padZ_len (s := z7) (k := 8) (by decide)) (show 8 = 8 + 0 from rfl), List.drop_zero,
    List.take_append_of_le_length (by rw [padZ_len hd]; decide), List.take_of_length_le (by rw [padZ_len hd]; decide)]
  exact cut1_pad h0
theorem hdr_sign (n m d ck sg lk : Bs) (hn : n.length ≤ 100) (hm : m.length ≤ 8) (hd : d.length ≤ 12) (hc : ck.length = 8) (c : UInt8) (hs : sg = [c]) : (hdr n m d ck sg lk).getD 156 0 = c := by
  have h := hdr_drop n m d ck sg lk hn hm hd hc
  subst hs
  rw [List.getD_eq_getElem?_getD, show 156 = 156 + 0 from rfl, ← List.getElem?_drop, h]
  rfl
theorem octVal_rep (j : Nat) (l : Bs) : octVal (rep 48 j ++ l) = octVal l := by
  induction j with
  | zero => rfl
  | succ j ih => rw [show rep 48 (j + 1) = 48 :: rep 48 j from rfl, List.cons_append]; exact ih
theorem octDigits_rep (j : Nat) (l : Bs) : octDigits (rep 48 j ++ l) = octDigits l := by
  induction j with
  | zero => rfl
  | succ j ih => rw [show rep 48 (j + 1) = 48 :: rep 48 j from rfl, List.cons_append]; unfold octDigits at *; rw [List.all_cons, ih]; rfl
theorem dgt_spec (d : Nat) (h : d < 8) : (dgt d).toNat = 48 + d := by
  unfold dgt
  rw [UInt8.toNat_ofNat_of_lt']
  show 48 + d < 256
  omega
theorem mn8_val (n : Nat) : octVal (mn8 n) = n ∧ octDigits (mn8 n) = true := by
  induction n using Nat.strongRecOn with
  | _ n ih =>
    by_cases h : n < 8
    · have hd := dgt_spec n h
      rw [mn8_lt h]
      refine ⟨by simp [octVal, hd], ?_⟩
      simp only [octDigits, List.all_cons, List.all_nil, Bool.and_true, Bool.and_eq_true, decide_eq_true_eq, UInt8.le_iff_toNat_le]
      rw [hd]
      exact ⟨by show 48 ≤ 48 + n; omega, by show 48 + n ≤ 55; omega⟩
    · have hd := dgt_spec (n % 8) (by omega)
      obtain ⟨h1, h2⟩ := ih (n / 8) (by omega)
      rw [mn8_ge h]
      refine ⟨by rw [octVal_app, h1, hd]; omega, ?_⟩
      unfold octDigits at *
      rw [List.all_append, h2]
      simp only [List.all_cons, List.all_nil, Bool.and_true, Bool.true_and, Bool.and_eq_true, decide_eq_true_eq, UInt8.le_iff_toNat_le]
      rw [hd]
      exact ⟨by show 48 ≤ 48 + n % 8; omega, by show 48 + n % 8 ≤ 55; omega⟩
theorem ofOct_oct {m : Nat} (h : octB m 11 = true) : ofOctN (octR m 11) = m ∧ (octR m 11).contains 0 = false := by
  have hl := oct_len h
  have hv := mn8_val m
  have e : octR m 11 = rep 48 (11 - (mn8 m).length) ++ mn8 m := by unfold octR; rw [if_pos h]
  have hv1 : octVal (octR m 11) = m := by rw [e, octVal_rep, hv.1]
  have hv2 : octDigits (octR m 11) = true := by rw [e, octDigits_rep, hv.2]
  refine ⟨?_, ?_⟩
  · unfold ofOctN ofOctB
    rw [hv2, hl]
    exact hv1
  · cases hc : (octR m 11).contains 0 with
    | false => rfl
    | true =>
      rw [List.contains_iff_mem] at hc
      have := List.all_eq_true.1 hv2 0 hc
      simp at this
theorem sign_one (k : Int) : ∃ c, signOf k = [c] := by
  unfold signOf
  split
  · exact ⟨_, rfl⟩
  · split
    · exact ⟨_, rfl⟩
    · split <;> exact ⟨_, rfl⟩
theorem kind_back {k : Int} {c : UInt8} (h1 : 1 ≤ k) (h5 : k ≤ 5) (hc : signOf k = [c]) : kindOf c (modeOf k) = k := by
  have : k = 1 ∨ k = 2 ∨ k = 3 ∨ k = 4 ∨ k = 5 := by omega
  rcases this with rfl | rfl | rfl | rfl | rfl
  all_goals (simp [signOf] at hc; subst hc; decide)
theorem headRd_back {n lk : Bs} {k : Int} {m : Nat} (h : headB n k m lk = true) : headRd (headR n k m lk) = ⟨n, k, m, lk, true⟩ := by
  have hb := h
  unfold headB at hb
  simp only [Bool.and_eq_true, decide_eq_true_eq, Int.toNat_natCast] at hb
  obtain ⟨⟨hm, _⟩, ho⟩ := hb
  have hl := mayB_len hm
  have hm' := hm
  unfold mayB textB at hm'
  simp only [Bool.and_eq_true, decide_eq_true_eq, Bool.not_eq_true'] at hm'
  obtain ⟨⟨⟨⟨⟨⟨_, hn0⟩, hl0⟩, hk1⟩, hk5⟩, _⟩, _⟩ := hm'
  have hd := oct_len ho
  have hmo := mode_len k
  have hmz : (modeOf k).contains 0 = false := by unfold modeOf; (repeat' split) <;> rfl
  obtain ⟨c, hc⟩ := sign_one k
  have hoct := ofOct_oct ho
  have hH := headR_hdr h
  have hck : (ckOf (sumOf (laid0 n (octR m 11) k lk))).length = 8 := by
    have hlen : (laid0 n (octR m 11) k lk).length = 512 := by
      rw [laid0_hdr n (octR m 11) lk k hl.1 hd hl.2]; unfold hdr
      simp only [List.length_append, padZ_len hl.1, padZ_len (k := 8) (s := modeOf k) (by omega), padZ_len (s := z7) (k := 8) (by decide), padZ_len (k := 12) (s := octR m 11) (by omega), padZ_len (s := z11) (k := 12) (by decide), padZ_len hl.2, sign_len k, rep, List.length_replicate]
      rfl
    have hsum := sumOf_le (laid0 n (octR m 11) k lk)
    have ho6 : octB (sumOf (laid0 n (octR m 11) k lk)) 6 = true := by
      unfold octB; exact decide_eq_true (mn8_len _ 6 (by omega) (by omega))
    unfold ckOf; rw [List.length_append, oct_len ho6]; rfl
  generalize ckOf (sumOf (laid0 n (octR m 11) k lk)) = ck at hH hck
  have r1 : rdName (headR n k m lk) = n := by rw [hH]; exact hdr_name _ _ _ _ _ _ hl.1 hn0.2
  have r2 : rdLink (headR n k m lk) = lk := by rw [hH]; exact hdr_link _ _ _ _ _ _ hl.1 (by omega) (by omega) hck (sign_len k) hl.2 hl0.2
  have r3 : rdKind (headR n k m lk) = k := by
    unfold rdKind
    rw [hH, hdr_sign _ _ _ _ _ _ hl.1 (by omega) (by omega) hck c hc, hdr_mode _ _ _ _ _ _ hl.1 (by omega) hmz]
    exact kind_back hk1 hk5 hc
  have r4 : rdN (headR n k m lk) = m := by
    unfold rdN
    rw [hH, hdr_num _ _ _ _ _ _ hl.1 (by omega) (by omega) hoct.2]
    exact hoct.1
  have hok : rdOk (headR n k m lk) = true := by
    unfold rdOk
    rw [r1, r2, r3, r4, h, headR_len h]
    simp
  unfold headRd
  rw [if_pos hok, r1, r2, r3, r4]
end Go.Proofs.YtbkjjapeojclpaaGreatDoor
