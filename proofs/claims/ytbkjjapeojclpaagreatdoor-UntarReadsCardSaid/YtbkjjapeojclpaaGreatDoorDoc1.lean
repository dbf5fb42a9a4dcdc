/- The document's own paths: Cut, Part, May, Split, Join, Parent. -/
import Derived.Test.YtbkjjapeojclpaaGreatDoorOwnT
import Derived.Test.YtbkjjapeojclpaaGreatDoorHRead
import Derived.Test.YtbkjjapeojclpaaGreatDoorPath
namespace Go.Proofs.YtbkjjapeojclpaaGreatDoor
set_option linter.unusedVariables false
set_option linter.unusedSimpArgs false
open Go.RowKit Go.Proofs.YtbkjjapeojclpaaGreatDoorW.PrintWords
set_option maxHeartbeats 400000
set_option maxRecDepth 100000

theorem split47_none (a : Bs) (h : a.contains 47 = false) : split47 a = [a] := by
  induction a with
  | nil => rfl
  | cons c a ih =>
    rw [List.contains_cons, Bool.or_eq_false_iff] at h
    have hc : ¬ c = 47 := fun e => by rw [e] at h; simp at h
    unfold split47
    rw [if_neg hc, ih h.2]
theorem split47_app (a b : Bs) (h : a.contains 47 = false) : split47 (a ++ 47 :: b) = a :: split47 b := by
  induction a with
  | nil => simp [split47]
  | cons c a ih =>
    rw [List.contains_cons, Bool.or_eq_false_iff] at h
    have hc : ¬ c = 47 := fun e => by rw [e] at h; simp at h
    rw [List.cons_append]
    conv => lhs; unfold split47
    rw [if_neg hc, ih h.2]
/-- What Cut has at place k: the parts so far; where the next one begins. -/
structure CutI (l : Bs) (k a : Nat) (out : List Bs) : Prop where
  mid : k ≤ l.length → a ≤ k ∧ ((l.take k).drop a).contains 47 = false ∧ split47 l = out ++ split47 (l.drop a)
  fin : l.length < k → out = split47 l
theorem CutI.start (l : Bs) : CutI l 0 0 [] := ⟨fun _ => ⟨Nat.le_refl _, by simp, by simp⟩, fun h => absurd h (by omega)⟩
theorem seg_succ (l : Bs) (k a : Nat) (hk : k < l.length) (ha : a ≤ k) : (l.take (k + 1)).drop a = (l.take k).drop a ++ [l.getD k 0] := by
  rw [List.take_succ_eq_append_getElem hk, List.drop_append_of_le_length (by rw [List.length_take]; omega), List.getD_eq_getElem?_getD, List.getElem?_eq_getElem hk]
  rfl
theorem CutI.on {l : Bs} {k a : Nat} {out : List Bs} (h : CutI l k a out) (hk : k < l.length) (hc : l.getD k 0 ≠ 47) : CutI l (k + 1) a out := by
  obtain ⟨h1, h2, h3⟩ := h.mid (by omega)
  refine ⟨fun _ => ⟨by omega, ?_, h3⟩, fun h => absurd h (by omega)⟩
  rw [seg_succ l k a hk h1, List.contains_eq_any_beq, List.any_append, ← List.contains_eq_any_beq, h2]
  simp [hc]
  exact fun e => hc e.symm
theorem CutI.hit {l : Bs} {k a : Nat} {out : List Bs} (h : CutI l k a out) (hk : k < l.length) (hc : l.getD k 0 = 47) : CutI l (k + 1) (k + 1) (out ++ [(l.take k).drop a]) := by
  obtain ⟨h1, h2, h3⟩ := h.mid (by omega)
  have e : split47 (l.drop a) = (l.take k).drop a :: split47 (l.drop (k + 1)) := by
    have : l.drop a = (l.take k).drop a ++ 47 :: l.drop (k + 1) := by
      have e1 : l = l.take k ++ l.drop k := (List.take_append_drop k l).symm
      have e2 : l.drop k = 47 :: l.drop (k + 1) := by
        rw [List.drop_eq_getElem_cons hk]
        rw [List.getD_eq_getElem?_getD, List.getElem?_eq_getElem hk] at hc
        simp at hc
        rw [hc]
      conv => lhs; rw [e1, List.drop_append_of_le_length (by rw [List.length_take]; omega), e2]
    rw [this, split47_app _ _ h2]
  refine ⟨fun _ => ⟨Nat.le_refl _, ?_, ?_⟩, fun h => ?_⟩
  · rw [List.drop_of_length_le (by rw [List.length_take]; omega)]; rfl
  · rw [h3, e]; simp
  · omega
theorem CutI.last {l : Bs} {a b : Nat} {out : List Bs} (h : CutI l l.length a out) : CutI l (l.length + 1) b (out ++ [(l.take l.length).drop a]) := by
  obtain ⟨h1, h2, h3⟩ := h.mid (Nat.le_refl _)
  rw [List.take_length] at h2 ⊢
  refine ⟨fun h => absurd h (by omega), fun _ => ?_⟩
  rw [h3, split47_none _ h2]
theorem split47_lenle (s : Bs) : (split47 s).length ≤ s.length + 1 := by
  induction s with
  | nil => simp [split47]
  | cons c s ih =>
    unfold split47
    split
    · simp; omega
    · split
      · simp
      · rename_i e; rw [e] at ih; simp at ih ⊢; omega
theorem CutI.len {l : Bs} {k a : Nat} {out : List Bs} (h : CutI l k a out) : out.length ≤ l.length + 1 := by
  have := split47_lenle l
  rcases Nat.lt_or_ge l.length k with hk | hk
  · rw [h.fin hk]; exact this
  · obtain ⟨_, _, h3⟩ := h.mid hk
    rw [h3, List.length_append] at this; omega
theorem seg_string (s : ByteArray) (a k : Nat) : s.extract a k = ⟨((s.data.toList.take k).drop a).toArray⟩ := by
  rw [← mkS_data (s.extract _ _), Lib.extract_data, List.drop_take]
/-- One text more behind texts of the call's own, from a row of one. -/
theorem OwnT.add {w : World} {base : Nat} {A : Option Addr} {n c : Nat} {t : List Bs} (h : OwnT w base (.slice A n c) t) (x : Bs) (hn : t.length ≤ 100000) (hb : base ≤ w.heap.size) (ty : TypeId) :
    ∃ A' c' w', (Builtin.append_ #[31, 31] ty #[.slice A n c, .slice (some ⟨w.heap.size, 0, none⟩) 1 1]).run Tryz.prog (w.alloc (.cells #[.string ⟨x.toArray⟩] 9)) = .ok (.slice A' (t.length + 1) c') w' ∧
      OwnT w' base (.slice A' (t.length + 1) c') (t ++ [x]) ∧ Below base w w' := by
  have hbl : Below w.heap.size w (w.alloc (.cells #[.string ⟨x.toArray⟩] 9)) := (Below.refl _ _).alloc (Nat.le_refl _) _
  have h1 := h.blk fun j hj => hbl.block j (h.lt j hj).2
  obtain ⟨v, w', hr, ho, hg, hl⟩ := h1.app1 ty ⟨w.heap.size, 0, none⟩ x (by rw [World.cell?_alloc_new]; rfl) hn (Nat.le_trans hb hbl.size)
  obtain ⟨A', c', rfl, _⟩ := ho.form
  have gr := GrT h1 (Nat.le_trans hb hbl.size) hg hl
  rw [List.length_append] at hr ho
  exact ⟨A', c', w', hr, ho, (hbl.mono hb).trans gr.below⟩
def TextsPost (w : World) (t : List Bs) (e : Ending) (w' : World) : Prop := ∃ A n c, e = .returned (.slice A n c) ∧ OwnT w' w.heap.size (.slice A n c) t ∧ Below w.heap.size w w'
theorem rCut_any (s : ByteArray) (w : World) (hs : s.size ≤ 90000) :
    Calls Tryz.prog 113 #[.string s] w (TextsPost w (split47 s.data.toList)) := by
  have hsl := size_len s
  obtain ⟨l, hl⟩ : ∃ l, l = s.data.toList := ⟨_, rfl⟩
  rw [← hl] at hsl ⊢
  have HSL := Lib.hid hsl
  have HL := Lib.hid hl
  clear hsl hl
  go_enter Tryz.func113, Tryz.ntmps113
  go_wp2_with fail
  go_loopw [3, 4, 5] (fun u v i wr => ∃ (k a : Nat) (out : List Bs) (A : Option Addr) (n c : Nat), k ≤ s.size + 1 ∧ a ≤ k ∧ i = .int .i64 k ∧ v = .int .i64 a ∧ u = .slice A n c ∧ n ≤ s.size + 1 ∧ Hid (n = out.length) ∧ Hid (CutI l k a out) ∧ Hid (OwnT wr w.heap.size (.slice A n c) out) ∧ Hid (Below w.heap.size w wr)) (fun _ _ i _ => s.size + 1 - (intOf i).toNat)
  case atStart => exact ⟨0, 0, [], none, 0, 0, by omega, by omega, rfl, rfl, rfl, by omega, Lib.hid rfl, Lib.hid (CutI.start l), Lib.hid (OwnT.nil _ _), Lib.hid (Below.refl _ _)⟩
  case round =>
    obtain ⟨k, a, out, A, n, c, hk, ha, rfl, rfl, rfl, hn, HN, HI, HO, HB⟩ := hrel
    by_cases hlt : k < s.size
    · have hx : s[k]'hlt = l.getD k 0 := by rw [HL.out]; exact bat s k hlt
      have b1 : ((k : Int) == (s.size : Int)) = false := by rw [beq_eq_false_iff_ne]; omega
      have b1' : (k == s.size) = false := by rw [beq_eq_false_iff_ne]; omega
      have b2 : ((k : Int) ≤ (s.size : Int)) := by omega
      by_cases hc : s[k]'hlt = 47
      · have b3 : (((s[k]'hlt).toNat : Int) == 47) = true := by rw [hc]; rfl
        have HI2 := Lib.hid (HI.out.hit (by rw [← HSL.out]; exact hlt) (by rw [← hx]; exact hc))
        obtain ⟨A', c', w', hr, ho, hb⟩ := HO.out.add ((l.take k).drop a) (by have := HI.out.len; have := HSL.out; omega) HB.out.size 31
        have hseg := seg_string s a k
        rw [← HL.out] at hseg
        rw [← HN.out] at hr ho
        have hn2 := HI2.out.len
        rw [List.length_append, List.length_singleton, ← HN.out, ← HSL.out] at hn2
        have HN2 : Hid (n + 1 = (out ++ [(l.take k).drop a]).length) := Lib.hid (by rw [List.length_append, HN.out]; rfl)
        have HR := Lib.hid hr
        have HO2 := Lib.hid ho
        have HB2 := Lib.hid (HB.out.trans hb)
        have HSEG := Lib.hid hseg
        clear hr ho hb hseg hx hc
        go_wp2_with (first | rw [HSEG.out] | (at_builtin; refine Lib.wpList_append_run _ rfl _ _ _ _ rfl _ _ rfl rfl _ _ HR.out ?_))
        go_roundw
        case rel => exact ⟨k + 1, k + 1, _, A', n + 1, c', by omega, by omega, by go_num, by go_num, rfl, by omega, HN2, HI2, HO2, HB2⟩
        case measure => simp [intOf]; omega
      · have b3 : (((s[k]'hlt).toNat : Int) == 47) = false := by
          rw [beq_eq_false_iff_ne]; intro e; exact hc (UInt8.toNat_inj.1 (by show (s[k]'hlt).toNat = 47; omega))
        have HI2 := Lib.hid (HI.out.on (by rw [← HSL.out]; exact hlt) (by rw [← hx]; exact hc))
        clear hx hc
        go_wp2_with fail
        go_roundw
        case rel => exact ⟨k + 1, a, out, A, n, c, by omega, by omega, by go_num, rfl, rfl, by omega, HN, HI2, HO, HB⟩
        case measure => simp [intOf]; omega
    · by_cases heq : k = s.size
      · subst heq
        have b1 : ((s.size : Int) == (s.size : Int)) = true := by simp
        obtain ⟨A', c', w', hr, ho, hb⟩ := HO.out.add ((l.take s.size).drop a) (by have := HI.out.len; have := HSL.out; omega) HB.out.size 31
        have HI2 : Hid (CutI l (s.size + 1) (s.size + 1) (out ++ [(l.take s.size).drop a])) := Lib.hid (by
          have h1 := HI.out
          rw [HSL.out] at h1 ⊢
          exact h1.last)
        have hseg := seg_string s a s.size
        rw [← HL.out] at hseg
        rw [← HN.out] at hr ho
        have hn2 := HI2.out.len
        rw [List.length_append, List.length_singleton, ← HN.out, ← HSL.out] at hn2
        have HN2 : Hid (n + 1 = (out ++ [(l.take s.size).drop a]).length) := Lib.hid (by rw [List.length_append, HN.out]; rfl)
        have HR := Lib.hid hr
        have HO2 := Lib.hid ho
        have HB2 := Lib.hid (HB.out.trans hb)
        have HSEG := Lib.hid hseg
        clear hr ho hb hseg
        go_wp2_with (first | rw [HSEG.out] | (at_builtin; refine Lib.wpList_append_run _ rfl _ _ _ _ rfl _ _ rfl rfl _ _ HR.out ?_))
        go_roundw
        case rel => exact ⟨s.size + 1, s.size + 1, _, A', n + 1, c', by omega, by omega, by go_num, by go_num, rfl, by omega, HN2, HI2, HO2, HB2⟩
        case measure => simp [intOf] <;> omega
      · obtain rfl : k = s.size + 1 := by omega
        have hf := HI.out.fin (by rw [← HSL.out]; omega)
        go_wp2_with fail
        go_ret
        rw [hf] at HO
        exact ⟨A, n, c, rfl, HO.out, HB.out⟩
theorem wh_prefix (l : Bs) : ([46, 119, 104, 46] : Bs).isPrefixOf l = (decide (4 ≤ l.length) && decide (l.take 4 = [46, 119, 104, 46])) := by
  rw [Bool.eq_iff_iff, List.isPrefixOf_iff_prefix, Bool.and_eq_true, decide_eq_true_eq, decide_eq_true_eq]
  constructor
  · rintro ⟨r, rfl⟩
    exact ⟨by simp, by simp⟩
  · rintro ⟨h1, h2⟩
    exact ⟨l.drop 4, by rw [← h2, List.take_append_drop]⟩
theorem contains_succ (l : Bs) (k : Nat) (c : UInt8) (hk : k < l.length) (h : (l.take k).contains c = false) (hc : l.getD k 0 ≠ c) : (l.take (k + 1)).contains c = false := by
  rw [List.take_succ_eq_append_getElem hk, List.contains_eq_any_beq, List.any_append, ← List.contains_eq_any_beq, h]
  rw [List.getD_eq_getElem?_getD, List.getElem?_eq_getElem hk, Option.getD_some] at hc
  simp
  exact fun e => hc e.symm
theorem contains_at (l : Bs) (k : Nat) (c : UInt8) (hk : k < l.length) (hc : l.getD k 0 = c) : l.contains c = true := by
  rw [List.getD_eq_getElem?_getD, List.getElem?_eq_getElem hk, Option.getD_some] at hc
  rw [List.contains_iff_mem, ← hc]
  exact List.getElem_mem hk
theorem partOk_bad (l : Bs) (h : l.contains 47 = true ∨ l.contains 0 = true) : partOk l = false := by
  unfold partOk
  rcases h with h | h <;> rw [h] <;> simp
theorem partOk_rest (l : Bs) (h1 : l.contains 47 = false) (h2 : l.contains 0 = false) :
    partOk l = (decide (1 ≤ l.length) && decide (l.length ≤ 60) && decide (l ≠ [46]) && decide (l ≠ [46, 46]) && !(decide (4 ≤ l.length) && decide (l.take 4 = [46, 119, 104, 46]))) := by
  unfold partOk
  rw [wh_prefix, h1, h2]
  have e1 : (!l.isEmpty) = decide (1 ≤ l.length) := by cases l <;> simp
  have e2 : (l != [46]) = decide (l ≠ [46]) := by rw [Bool.eq_iff_iff]; simp
  have e3 : (l != [46, 46]) = decide (l ≠ [46, 46]) := by rw [Bool.eq_iff_iff]; simp
  rw [e1, e2, e3]
  simp
theorem rPart_any (s : ByteArray) (w : World) (hs : s.size ≤ 90000) :
    Calls Tryz.prog 114 #[.string s] w fun e w' => e = .returned (.bool (partOk s.data.toList)) ∧ w = w' := by
  have hsl := size_len s
  obtain ⟨l, hl⟩ : ∃ l, l = s.data.toList := ⟨_, rfl⟩
  rw [← hl] at hsl ⊢
  have HSL := Lib.hid hsl
  have HL := Lib.hid hl
  clear hsl hl
  go_enter Tryz.func114, Tryz.ntmps114
  go_wp2_with fail
  go_loop [3] (fun i => ∃ k : Nat, k ≤ s.size ∧ i = .int .i64 k ∧ Hid ((l.take k).contains 47 = false) ∧ Hid ((l.take k).contains 0 = false)) (fun i => s.size - (intOf i).toNat)
  case atStart => exact ⟨0, by omega, rfl, Lib.hid rfl, Lib.hid rfl⟩
  case round =>
    obtain ⟨k, hk, rfl, H47, H0⟩ := hrel
    by_cases hlt : k < s.size
    · have hx : s[k]'hlt = l.getD k 0 := by rw [HL.out]; exact bat s k hlt
      have hkl : k < l.length := by rw [← HSL.out]; exact hlt
      by_cases hc : s[k]'hlt = 47
      · have b3 : (((s[k]'hlt).toNat : Int) == 47) = true := by rw [hc]; rfl
        have HF := Lib.hid (partOk_bad l (.inl (contains_at l k 47 hkl (hx.symm.trans hc))))
        clear hx hc hkl
        go_wp2_with fail
        go_ret
        exact ⟨by rw [HF.out]; rfl, rfl⟩
      · have b3 : (((s[k]'hlt).toNat : Int) == 47) = false := by
          rw [beq_eq_false_iff_ne]; intro e; exact hc (UInt8.toNat_inj.1 (by show (s[k]'hlt).toNat = 47; omega))
        by_cases hc0 : s[k]'hlt = 0
        · have b4 : (((s[k]'hlt).toNat : Int) == 0) = true := by rw [hc0]; rfl
          have HF := Lib.hid (partOk_bad l (.inr (contains_at l k 0 hkl (hx.symm.trans hc0))))
          clear hx hc hkl hc0
          go_wp2_with fail
          go_ret
          exact ⟨by rw [HF.out]; rfl, rfl⟩
        · have b4 : (((s[k]'hlt).toNat : Int) == 0) = false := by
            rw [beq_eq_false_iff_ne]; intro e; exact hc0 (UInt8.toNat_inj.1 (by show (s[k]'hlt).toNat = 0; omega))
          have H47' := Lib.hid (contains_succ l k 47 hkl H47.out (by rw [← hx]; exact hc))
          have H0' := Lib.hid (contains_succ l k 0 hkl H0.out (by rw [← hx]; exact hc0))
          clear hx hc hkl hc0
          go_wp2_with fail
          go_round
          case rel => exact ⟨k + 1, by omega, by go_num, H47', H0'⟩
          case measure => simp [intOf]; omega
    · obtain rfl : k = s.size := by omega
      have htk : l.take s.size = l := List.take_of_length_le (Nat.le_of_eq HSL.out.symm)
      rw [htk] at H47 H0
      have HF := Lib.hid (partOk_rest l H47.out H0.out)
      clear htk
      have HE := Lib.hid (seg_string s 0 4)
      go_wp2_with fail
      all_goals go_ret
      all_goals refine ⟨congrArg (fun b => Ending.returned (Value.bool b)) (?_ : _ = partOk l), rfl⟩
      all_goals rw [HF.out, ← HSL.out]
      all_goals have hE := HE.out
      all_goals have hl := HL.out
      all_goals clear HE HL HF H47 H0 HSL
      all_goals rw [← hl, List.drop_zero] at hE
      all_goals simp only [hE, Lib.toList_data, ← hl] at *
      all_goals clear hE hl
      all_goals simp_all
      all_goals first
        | (intro a b; omega)
        | (have d1 : 1 ≤ s.size := by omega
           have d2 : s.size ≤ 60 := by omega
           by_cases h4 : 4 ≤ s.size <;> first | omega | (rw [Bool.eq_iff_iff]; simp [*]))
theorem rMay_any (s : ByteArray) (w : World) (hs : s.size ≤ 90000) :
    Calls Tryz.prog 95 #[.string s] w fun e w' => e = .returned (.bool (pathOk s.data.toList)) ∧ Below w.heap.size w w' := by
  by_cases h0 : s.data.toList = []
  · have q0 : s.toList.isEmpty = true := by rw [Lib.toList_data, h0]; rfl
    go_enter Tryz.func95, Tryz.ntmps95
    go_wp2_with fail
    go_ret
    exact ⟨by rw [h0]; rfl, Below.refl _ _⟩
  · have q0 : s.toList.isEmpty = false := by rw [Lib.toList_data]; simpa using h0
    have hsl := size_len s
    have he : s.data.toList.isEmpty = false := by simpa using h0
    by_cases h200 : s.size ≤ 200
    · obtain ⟨L, hL⟩ : ∃ L, L = split47 s.data.toList := ⟨_, rfl⟩
      have hcut := rCut_any s w hs
      rw [← hL] at hcut
      have HCUT := Lib.hid hcut
      have HP : Hid (pathOk s.data.toList = (L.all partOk && decide (L.length ≤ 10))) := Lib.hid (by
        unfold pathOk
        rw [← hL, he, ← hsl, decide_eq_true h200, Bool.false_or, Bool.true_and])
      have hpl : ∀ x ∈ L, x.length ≤ 200 := fun x hx => by
        have : ∀ (l : Bs), ∀ y ∈ split47 l, y.length ≤ l.length := by
          intro l
          induction l with
          | nil => intro y hy; simp [split47] at hy; subst hy; simp
          | cons c l ih =>
            intro y hy
            unfold split47 at hy
            split at hy
            · rcases List.mem_cons.1 hy with rfl | hy
              · simp
              · have := ih y hy; simp; omega
            · cases hsp : split47 l with
              | nil => exact absurd hsp (split47_ne l)
              | cons a t =>
                rw [hsp] at hy ih
                rcases List.mem_cons.1 hy with rfl | hy
                · have := ih a (List.mem_cons_self ..); simp; omega
                · have := ih y (List.mem_cons_of_mem _ hy); simp; omega
        rw [hL] at hx
        have := this _ x hx
        omega
      have HPL := Lib.hid hpl
      have H0 := Lib.hid h0
      clear hcut hL h0 he hsl hpl
      go_enter Tryz.func95, Tryz.ntmps95
      go_wp2_with (go_at_call 113; refine HCUT.out.mono ?_; rintro e w1 ⟨A, n, c, rfl, hO, hb⟩)
      obtain ⟨hn, hcap, hC⟩ : n = L.length ∧ L.length ≤ c ∧ kBs.C w1 A L.length L := ⟨hO.C.1, hO.C.2.1, hO.C.2.2⟩
      have hm := C_max hC
      have HC := Lib.hid hC
      have HB := Lib.hid hb
      subst n
      clear hC hb hO HCUT
      go_loop [4] (fun i => ∃ k : Nat, k ≤ L.length ∧ i = .int .i64 k ∧ Hid ((L.take k).all partOk = true)) (fun i => L.length - (intOf i).toNat)
      case atStart => exact ⟨0, by omega, rfl, Lib.hid (by simp)⟩
      case round =>
        obtain ⟨k, hk, rfl, HK⟩ := hrel
        by_cases hlt : k < L.length
        · obtain ⟨ad', e, hx⟩ := at_bs HC.out k hlt
          cases e
          obtain ⟨x, hxe⟩ : ∃ x, x = L.getD k [] := ⟨_, rfl⟩
          rw [← hxe] at hx
          have hkc : (k : Int) < (c : Int) := by omega
          have hxl : x.length ≤ 200 := HPL.out x (by rw [hxe, List.getD_eq_getElem?_getD, List.getElem?_eq_getElem hlt]; exact List.getElem_mem hlt)
          have hpart := rPart_any ⟨x.toArray⟩ w1 (by rw [size_len]; show x.length ≤ _; omega)
          rw [show (⟨x.toArray⟩ : ByteArray).data.toList = x from rfl] at hpart
          have hat := all_take_succ L k hlt
          rw [show L[k] = x from by rw [hxe, List.getD_eq_getElem?_getD, List.getElem?_eq_getElem hlt]; rfl, HK.out, Bool.true_and] at hat
          have hbad : partOk x = false → L.all partOk = false := fun h => by
            rw [List.all_eq_false]
            exact ⟨x, by rw [hxe, List.getD_eq_getElem?_getD, List.getElem?_eq_getElem hlt]; exact List.getElem_mem hlt, by rw [h]; decide⟩
          have HBAD := Lib.hid hbad
          have HAT := Lib.hid hat
          clear hbad hat hxe hxl
          cases hpx : partOk x with
          | true =>
            rw [hpx] at hpart
            have HPART := Lib.hid hpart
            have HK2 : Hid ((L.take (k + 1)).all partOk = true) := Lib.hid (by rw [HAT.out, hpx])
            clear hpart hpx
            go_wp2_with (go_at_call 114; refine HPART.out.mono ?_; rintro e w' ⟨rfl, rfl⟩)
            go_round
            case rel => exact ⟨k + 1, by omega, by go_num, HK2⟩
            case measure => simp [intOf]; omega
          | false =>
            rw [hpx] at hpart
            have HPART := Lib.hid hpart
            have HF := Lib.hid (HBAD.out hpx)
            clear hpart hpx
            go_wp2_with (go_at_call 114; refine HPART.out.mono ?_; rintro e w' ⟨rfl, rfl⟩)
            go_ret
            exact ⟨by rw [HP.out, HF.out]; rfl, HB.out⟩
        · obtain rfl : k = L.length := by omega
          go_wp2_with fail
          go_ret
          have hk2 := HK.out
          rw [List.take_length] at hk2
          refine ⟨?_, HB.out⟩
          have e : decide ((L.length : Int) ≤ 10) = decide (L.length ≤ 10) := by rw [Bool.eq_iff_iff, decide_eq_true_eq, decide_eq_true_eq]; omega
          rw [HP.out, hk2, Bool.true_and, ← e]
          rfl
    · have h2 : decide ((200 : Int) < (s.size : Int)) = true := decide_eq_true (by omega)
      have HF : Hid (pathOk s.data.toList = false) := Lib.hid (by unfold pathOk; rw [he, ← hsl, decide_eq_false h200]; rfl)
      clear h0 he hsl
      go_enter Tryz.func95, Tryz.ntmps95
      go_wp2_with fail
      go_ret
      exact ⟨by rw [HF.out]; rfl, Below.refl _ _⟩
/-- The parts of a path; none of the empty one and of what is no path. -/
def splitR (p : Bs) : List Bs := if p.isEmpty || !pathOk p then [] else split47 p
theorem rSplit_any (s : ByteArray) (w : World) (hs : s.size ≤ 90000) :
    Calls Tryz.prog 96 #[.string s] w (TextsPost w (splitR s.data.toList)) := by
  by_cases h0 : s.data.toList = []
  · have q0 : s.toList.isEmpty = true := by rw [Lib.toList_data, h0]; rfl
    have HF : Hid (splitR s.data.toList = []) := Lib.hid (by rw [h0]; rfl)
    clear h0
    go_enter Tryz.func96, Tryz.ntmps96
    go_wp2_with fail
    go_ret
    exact ⟨none, 0, 0, rfl, by rw [HF.out]; exact OwnT.nil _ _, Below.refl _ _⟩
  · have q0 : s.toList.isEmpty = false := by rw [Lib.toList_data]; simpa using h0
    have he : s.data.toList.isEmpty = false := by simpa using h0
    have hmay := rMay_any s w hs
    cases hp : pathOk s.data.toList with
    | false =>
      rw [hp] at hmay
      have HM := Lib.hid hmay
      have HF : Hid (splitR s.data.toList = []) := Lib.hid (by unfold splitR; rw [hp, he]; rfl)
      clear hmay hp h0 he
      go_enter Tryz.func96, Tryz.ntmps96
      go_wp2_with (go_at_call 95; refine HM.out.mono ?_; rintro e w1 ⟨rfl, hb⟩)
      go_ret
      exact ⟨none, 0, 0, rfl, by rw [HF.out]; exact OwnT.nil _ _, hb⟩
    | true =>
      rw [hp] at hmay
      have HM := Lib.hid hmay
      have HF : Hid (splitR s.data.toList = split47 s.data.toList) := Lib.hid (by unfold splitR; rw [hp, he]; rfl)
      clear hmay hp h0 he
      go_enter Tryz.func96, Tryz.ntmps96
      go_wp2_with (first | (go_at_call 95; refine HM.out.mono ?_; rintro e w1 ⟨rfl, hb⟩) | (go_at_call 113; refine (rCut_any s _ hs).mono ?_; rintro e w2 ⟨A, n, c, rfl, hO, hb2⟩))
      go_ret
      rw [HF.out]
      refine ⟨A, n, c, rfl, ?_, below_two hb hb2⟩
      obtain ⟨q1, q2⟩ := hO
      refine ⟨q1, q2.imp id ?_⟩
      rintro ⟨g, cap, cur, a1, a2, a3⟩
      exact ⟨g, cap, cur, a1, Nat.le_trans hb.size a2, a3⟩
/-! ### join -/
def joinL : List Bs → Bs
  | [] => []
  | [x] => x
  | x :: y :: r => x ++ 47 :: joinL (y :: r)
theorem joinL_app (A B : List Bs) (hA : A ≠ []) (hB : B ≠ []) : joinL (A ++ B) = joinL A ++ 47 :: joinL B := by
  induction A with
  | nil => exact absurd rfl hA
  | cons x A ih =>
    cases A with
    | nil =>
      cases B with
      | nil => exact absurd rfl hB
      | cons b B => rfl
    | cons y A =>
      have := ih (by simp)
      simp only [List.cons_append, joinL] at this ⊢
      rw [this]
      simp
theorem joinL_split (a : Bs) : joinL (split47 a) = a := by
  induction a with
  | nil => rfl
  | cons c a ih =>
    unfold split47
    split
    · rename_i h
      subst h
      cases hs : split47 a with
      | nil => exact absurd hs (split47_ne a)
      | cons x t => rw [hs] at ih; simp only [joinL, ih]; rfl
    · cases hs : split47 a with
      | nil => exact absurd hs (split47_ne a)
      | cons x t =>
        rw [hs] at ih
        cases t with
        | nil => simp only [joinL] at ih ⊢; rw [ih]
        | cons y r => simp only [joinL] at ih ⊢; rw [← ih]; rfl
theorem joinL_succ (T : List Bs) (k : Nat) (hk : k < T.length) : joinL (T.take (k + 1)) = (if k = 0 then [] else joinL (T.take k) ++ [47]) ++ T.getD k [] := by
  rw [List.take_succ_eq_append_getElem hk, List.getD_eq_getElem?_getD, List.getElem?_eq_getElem hk]
  by_cases h : k = 0
  · subst h; simp [joinL]
  · rw [if_neg h, joinL_app _ _ (by intro e; have := congrArg List.length e; rw [List.length_take, List.length_nil] at this; omega) (by simp)]
    simp [joinL]
theorem joinL_take_le (T : List Bs) (k : Nat) : (joinL (T.take k)).length ≤ (joinL T).length := by
  by_cases h1 : T.take k = []
  · rw [h1]; simp [joinL]
  · by_cases h2 : T.drop k = []
    · have := List.take_append_drop k T
      rw [h2, List.append_nil] at this
      rw [this]; exact Nat.le_refl _
    · have := joinL_app _ _ h1 h2
      rw [List.take_append_drop] at this
      rw [this, List.length_append]; omega
theorem pathOk_parts {a : Bs} (h : pathOk a = true) (h0 : a ≠ []) : a.length ≤ 200 ∧ (split47 a).all partOk = true ∧ (split47 a).length ≤ 10 := by
  unfold pathOk at h
  have : a.isEmpty = false := by simpa using h0
  rw [this] at h
  simp only [Bool.false_or, Bool.and_eq_true, decide_eq_true_eq] at h
  exact ⟨h.1.1, h.1.2, h.2⟩
def JoinPost (w : World) (p : Bs) (e : Ending) (w' : World) : Prop := e = .returned (.tuple #[.string ⟨p.toArray⟩, .bool true]) ∧ Below w.heap.size w w'
/-- Join of a path's parts, or of none. -/
theorem rJoin_any (a : Bs) (T : List Bs) (A : Option Addr) (c : Nat) (w : World) (hC : kBs.C w A T.length T) (hcap : T.length ≤ c) (hT : (T = [] ∧ a = []) ∨ (T = split47 a ∧ a ≠ [])) (ha : pathOk a = true) :
    Calls Tryz.prog 97 #[.slice A T.length c] w (JoinPost w a) := by
  have hj : joinL T = a := by
    rcases hT with ⟨rfl, rfl⟩ | ⟨rfl, _⟩
    · rfl
    · exact joinL_split a
  have hal : a.length ≤ 200 := pathOk_len ha
  have hall : ∀ x ∈ T, partOk x = true := by
    rcases hT with ⟨rfl, _⟩ | ⟨rfl, h0⟩
    · intro x hx; cases hx
    · exact fun x hx => List.all_eq_true.1 (pathOk_parts ha h0).2.1 x hx
  have hm := C_max hC
  have hxl : ∀ x, partOk x = true → x.length ≤ 60 := fun x hx => by
    unfold partOk at hx
    simp only [Bool.and_eq_true, decide_eq_true_eq] at hx
    exact hx.1.1.1.1.1.2
  have HC := Lib.hid hC
  have HJ := Lib.hid hj
  have HALL := Lib.hid hall
  have HXL := Lib.hid hxl
  have hmay := fun W => rMay_any ⟨a.toArray⟩ W (by rw [size_len]; show a.length ≤ _; omega)
  rw [show (⟨a.toArray⟩ : ByteArray).data.toList = a from rfl, ha] at hmay
  have HMAY := Lib.hid hmay
  clear hC hj hall hxl hT ha hmay
  go_enter Tryz.func97, Tryz.ntmps97
  go_wp2_with fail
  go_loop [4, 5] (fun u i => ∃ (k : Nat) (s : Bs), k ≤ T.length ∧ i = .int .i64 k ∧ u = .string ⟨s.toArray⟩ ∧ s.length ≤ 200 ∧ Hid (s = joinL (T.take k))) (fun _ i => T.length - (intOf i).toNat)
  case atStart => exact ⟨0, [], by omega, rfl, rfl, by simp, Lib.hid (by simp [joinL])⟩
  case round =>
    obtain ⟨k, s, hk, rfl, rfl, hsl, HS⟩ := hrel
    have hss : (⟨s.toArray⟩ : ByteArray).size = s.length := by rw [size_len]
    by_cases hlt : k < T.length
    · obtain ⟨ad', e, hx⟩ := at_bs HC.out k hlt
      cases e
      obtain ⟨x, hxe⟩ : ∃ x, x = T.getD k [] := ⟨_, rfl⟩
      rw [← hxe] at hx
      have hmem : x ∈ T := by rw [hxe, List.getD_eq_getElem?_getD, List.getElem?_eq_getElem hlt]; exact List.getElem_mem hlt
      have hpx := HALL.out x hmem
      have hx60 := HXL.out x hpx
      have hxs : (⟨x.toArray⟩ : ByteArray).size = x.length := by rw [size_len]
      have hpart := fun W => rPart_any ⟨x.toArray⟩ W (by rw [hxs]; omega)
      rw [show (⟨x.toArray⟩ : ByteArray).data.toList = x from rfl, hpx] at hpart
      have HPART := Lib.hid hpart
      have hjs := joinL_succ T k hlt
      have hjl := joinL_take_le T (k + 1)
      rw [HJ.out] at hjl
      rw [hjs, ← HS.out, ← hxe] at hjl
      rw [← HS.out, ← hxe] at hjs
      have HJS := Lib.hid hjs
      have HJL := Lib.hid hjl
      clear hjs hjl hxe hmem hpx hpart
      have hkc : (k : Int) < (c : Int) := by omega
      have d200 : decide ((200 : Int) < (s.length : Int)) = false := decide_eq_false (by omega)
      have d200' : decide ((200 : Int) < ((⟨s.toArray⟩ : ByteArray).size : Int)) = false := decide_eq_false (by omega)
      by_cases hk0 : k = 0
      · subst hk0
        rw [show ad'.add 0 = ad' from by simp [Addr.add]] at hx
        have hs0 := HS.out
        rw [List.take_zero, show joinL [] = [] from rfl] at hs0
        subst hs0
        have hs1 : ((⟨([] : Bs).toArray⟩ : ByteArray) ++ ⟨x.toArray⟩) = ⟨x.toArray⟩ := mk_append [] x
        have HS1 := Lib.hid hs1
        have HJ2 : Hid (x = joinL (T.take 1)) := Lib.hid (by rw [HJS.out]; simp)
        have hsum : (⟨([] : Bs).toArray⟩ : ByteArray).size + (⟨x.toArray⟩ : ByteArray).size ≤ 9223372036854775807 := by rw [hss, hxs]; simp; omega
        clear hs1
        go_wp2_with (first | rw [HS1.out] | (go_at_call 114; refine (HPART.out _).mono ?_; rintro e w' ⟨rfl, rfl⟩))
        go_round
        case rel => exact ⟨1, x, by omega, by go_num, rfl, by omega, HJ2⟩
        case measure => simp [intOf]; omega
      · have hkp : decide (0 < (k : Int)) = true := decide_eq_true (by omega)
        have hkp' : decide (0 < k) = true := decide_eq_true (by omega)
        have hs1 : ((⟨s.toArray⟩ : ByteArray) ++ ⟨#[47]⟩) = ⟨(s ++ [47]).toArray⟩ := mk_append s [47]
        have hs2 : ((⟨(s ++ [47]).toArray⟩ : ByteArray) ++ ⟨x.toArray⟩) = ⟨(s ++ [47] ++ x).toArray⟩ := mk_append (s ++ [47]) x
        have HS1 := Lib.hid hs1
        have HS2 := Lib.hid hs2
        have HJ2 : Hid (s ++ [47] ++ x = joinL (T.take (k + 1))) := Lib.hid (by rw [HJS.out, if_neg hk0])
        have hl2 : (s ++ [47] ++ x).length ≤ 200 := by
          have := HJL.out
          rw [if_neg hk0] at this
          omega
        have hsum1 : (⟨s.toArray⟩ : ByteArray).size + (⟨#[47]⟩ : ByteArray).size ≤ 9223372036854775807 := by rw [hss]; show s.length + 1 ≤ _; omega
        have hsum1' : (⟨s.toArray⟩ : ByteArray).size + 1 ≤ 9223372036854775807 := by rw [hss]; omega
        have hsum2 : (⟨(s ++ [47]).toArray⟩ : ByteArray).size + (⟨x.toArray⟩ : ByteArray).size ≤ 9223372036854775807 := by rw [size_len, hxs]; simp; omega
        clear hs1 hs2
        go_wp2_with (first | rw [HS1.out] | rw [HS2.out] | (go_at_call 114; refine (HPART.out _).mono ?_; rintro e w' ⟨rfl, rfl⟩))
        go_round
        case rel => exact ⟨k + 1, _, by omega, by go_num, rfl, hl2, HJ2⟩
        case measure => simp [intOf]; omega
    · obtain rfl : k = T.length := by omega
      have hsa := HS.out
      rw [List.take_length, HJ.out] at hsa
      subst hsa
      go_wp2_with (go_at_call 95; refine (HMAY.out _).mono ?_; rintro e w1 ⟨rfl, hb⟩)
      go_ret2
      exact ⟨rfl, hb⟩
theorem lastI_none (p : Bs) (h : p.contains 47 = false) : lastI p = -1 := by
  have : p.reverse.dropWhile (· != 47) = [] := by
    have hall : ∀ x ∈ p.reverse, (x != 47) = true := fun x hx => by
      rw [List.mem_reverse] at hx
      simp only [bne_iff_ne, ne_eq]
      intro e
      subst e
      rw [List.contains_iff_mem.2 hx] at h
      cases h
    clear h
    generalize p.reverse = q at hall
    induction q with
    | nil => rfl
    | cons c q ih => rw [List.dropWhile_cons, if_pos (hall c (List.mem_cons_self ..))]; exact ih fun x hx => hall x (List.mem_cons_of_mem _ hx)
  unfold lastI
  rw [this]; rfl
theorem lastI_app (a b : Bs) (h : b.contains 47 = false) : lastI (a ++ 47 :: b) = a.length := by
  have hall : ∀ x ∈ b.reverse, (x != 47) = true := fun x hx => by
    rw [List.mem_reverse] at hx
    simp only [bne_iff_ne, ne_eq]
    intro e
    subst e
    rw [List.contains_iff_mem.2 hx] at h
    cases h
  unfold lastI
  rw [List.reverse_append, List.reverse_cons, List.append_assoc, List.dropWhile_append_of_pos hall]
  simp
theorem split_last (p : Bs) (h : p.contains 47 = true) : ∃ a b, p = a ++ 47 :: b ∧ b.contains 47 = false := by
  induction p with
  | nil => cases h
  | cons c p ih =>
    cases hp : p.contains 47 with
    | true =>
      obtain ⟨a, b, rfl, hb⟩ := ih hp
      exact ⟨c :: a, b, rfl, hb⟩
    | false =>
      rw [List.contains_cons, hp, Bool.or_false, beq_iff_eq] at h
      exact ⟨[], p, by rw [← h]; rfl, hp⟩
theorem split47_snoc (a b : Bs) (h : b.contains 47 = false) : split47 (a ++ 47 :: b) = split47 a ++ [b] := by
  induction a with
  | nil => simp [split47, split47_none b h]
  | cons c a ih =>
    rw [List.cons_append]
    unfold split47
    split
    · rw [ih]; rfl
    · rw [ih]
      cases hs : split47 a with
      | nil => exact absurd hs (split47_ne a)
      | cons x t => rfl
/-- A path without its last part: none, or a path, whose parts are all but the last. -/
theorem parent_parts {p : Bs} (h : pathOk p = true) (h0 : p ≠ []) : ∃ T, T = (split47 p).dropLast ∧ pathOk (parentOf p) = true ∧ ((T = [] ∧ parentOf p = []) ∨ (T = split47 (parentOf p) ∧ parentOf p ≠ [])) := by
  obtain ⟨h200, hall, h10⟩ := pathOk_parts h h0
  refine ⟨_, rfl, ?_⟩
  cases hc : p.contains 47 with
  | false =>
    have e : parentOf p = [] := by unfold parentOf; rw [lastI_none p hc]; rfl
    rw [split47_none p hc, e]
    exact ⟨rfl, .inl ⟨rfl, rfl⟩⟩
  | true =>
    obtain ⟨a, b, rfl, hb⟩ := split_last p hc
    have e : parentOf (a ++ 47 :: b) = a := by unfold parentOf; rw [lastI_app a b hb, Int.toNat_natCast, List.take_left]
    have ha : a ≠ [] := by
      intro e0
      subst e0
      have := List.all_eq_true.1 hall [] (by simp [split47])
      revert this
      decide
    rw [split47_snoc a b hb] at hall h10
    rw [e, split47_snoc a b hb, List.dropLast_concat]
    refine ⟨?_, .inr ⟨rfl, ha⟩⟩
    rw [List.all_append, Bool.and_eq_true] at hall
    rw [List.length_append] at h10 h200
    unfold pathOk
    rw [decide_eq_true (by omega), hall.1, decide_eq_true (by omega)]
    simp
theorem rParent_any (s : ByteArray) (w : World) (hs : s.size ≤ 90000) :
    Calls Tryz.prog 77 #[.string s] w fun e w' => e = .returned (.tuple #[.string ⟨(parentR s.data.toList).toArray⟩, .bool (parentB s.data.toList)]) ∧ Below w.heap.size w w' := by
  have hsp := rSplit_any s w hs
  obtain ⟨p, hp⟩ : ∃ p, p = s.data.toList := ⟨_, rfl⟩
  rw [← hp] at hsp ⊢
  cases hb : (p.isEmpty || !pathOk p) with
  | true =>
    have hF : splitR p = [] := by unfold splitR; rw [hb]; rfl
    have hR : parentR p = [] ∧ parentB p = false := by
      unfold parentR parentB
      cases hpk : pathOk p with
      | false => exact ⟨rfl, by simp⟩
      | true =>
        rw [hpk] at hb
        have : p = [] := by simpa using hb
        subst this
        exact ⟨rfl, rfl⟩
    rw [hF] at hsp
    have HSP := Lib.hid hsp
    have HR := Lib.hid hR
    clear hsp hF hR hb hp
    go_enter Tryz.func77, Tryz.ntmps77
    go_wp2_with fail
    refine HSP.out.mono ?_
    rintro e w1 ⟨A, n, c, rfl, hO, hb1⟩
    obtain rfl : n = 0 := hO.C.1
    clear hO
    go_wp2_with fail
    go_ret2
    exact ⟨by rw [HR.out.1, HR.out.2]; rfl, hb1⟩
  | false =>
    rw [Bool.or_eq_false_iff, Bool.not_eq_false'] at hb
    have h0 : p ≠ [] := by simpa using hb.1
    have hF : splitR p = split47 p := by unfold splitR; rw [hb.1, hb.2]; rfl
    obtain ⟨T, hT, hpo, hcase⟩ := parent_parts hb.2 h0
    have hl10 := (pathOk_parts hb.2 h0).2.2
    have hne := split47_ne p
    have hpos : 0 < (split47 p).length := List.length_pos_iff.2 hne
    have hTl : T.length = (split47 p).length - 1 := by rw [hT, List.length_dropLast]
    have hTt : T = (split47 p).take ((split47 p).length - 1) := by rw [hT, List.dropLast_eq_take]
    have hR : parentR p = parentOf p ∧ parentB p = true := by
      unfold parentR parentB
      rw [hb.1, hb.2]
      exact ⟨rfl, rfl⟩
    rw [hF] at hsp
    rw [hR.1, hR.2]
    obtain ⟨L, hL⟩ : ∃ L, L = split47 p := ⟨_, rfl⟩
    obtain ⟨q, hq⟩ : ∃ q, q = parentOf p := ⟨_, rfl⟩
    rw [← hL] at hsp hl10 hpos hTl hTt
    rw [← hq] at hpo hcase ⊢
    have HSP := Lib.hid hsp
    have HPO := Lib.hid hpo
    have HCASE := Lib.hid hcase
    have HTT := Lib.hid hTt
    have HTL := Lib.hid hTl
    clear hsp hF hR hb hT hpo hcase hne hTt hTl hL hq hp h0
    go_enter Tryz.func77, Tryz.ntmps77
    go_wp2_with fail
    refine HSP.out.mono ?_
    rintro e w1 ⟨A, n, c, rfl, hO, hb1⟩
    obtain ⟨hn, hcap, hC⟩ : n = L.length ∧ L.length ≤ c ∧ kBs.C w1 A L.length L := ⟨hO.C.1, hO.C.2.1, hO.C.2.2⟩
    subst n
    have hm := C_max hC
    have hC2 := Kd.C_take hC (show L.length - 1 ≤ L.length by omega)
    rw [← HTT.out] at hC2
    have hJ := rJoin_any q T A c w1 hC2 (by have := HTL.out; omega) HCASE.out HPO.out
    rw [HTL.out] at hJ
    have HJ := Lib.hid hJ
    have HB1 := Lib.hid hb1
    have hcast : (L.length : Int) - 1 = ((L.length - 1 : Nat) : Int) := by omega
    have b1 : ((L.length : Int) == 0) = false := by rw [beq_eq_false_iff_ne]; omega
    have b1' : (L.length == 0) = false := by rw [beq_eq_false_iff_ne]; omega
    have i1 : (0 : Int) ≤ (L.length : Int) - 1 := by omega
    have i2 : (L.length : Int) - 1 ≤ (c : Int) := by omega
    have ht : ((L.length : Int) - 1).toNat = L.length - 1 := by omega
    clear hO hC hC2 hJ hb1 hcast HTT HSP HTL HCASE
    go_wp2_with fail
    refine HJ.out.mono ?_
    rintro e w2 ⟨rfl, hb2⟩
    go_wp2_with fail
    go_ret2
    exact ⟨rfl, below_two HB1.out hb2⟩
end Go.Proofs.YtbkjjapeojclpaaGreatDoor
