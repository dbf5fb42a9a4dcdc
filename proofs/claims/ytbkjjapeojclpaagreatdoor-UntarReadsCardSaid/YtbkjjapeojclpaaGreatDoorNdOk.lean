/- Plain: the nodes of a tree are laid without a fault. -/
import Derived.Test.YtbkjjapeojclpaaGreatDoorLaid
namespace Go.Proofs.YtbkjjapeojclpaaGreatDoor
set_option linter.unusedVariables false
set_option linter.unusedSimpArgs false
open Go.RowKit Go.Proofs.YtbkjjapeojclpaaGreatDoorW.PrintWords

theorem mn8_len (n k : Nat) (hk : 1 ≤ k) (h : n < 8 ^ k) : (mn8 n).length ≤ k := by
  induction k generalizing n with
  | zero => omega
  | succ k ih =>
    by_cases h8 : n < 8
    · rw [mn8_lt h8]; simp
    · rw [mn8_ge h8]
      rw [Nat.pow_succ] at h
      by_cases hk0 : k = 0
      · subst hk0; simp at h; omega
      · have := ih (n / 8) (by omega) (by omega)
        simp; omega
theorem split47_mem (c : UInt8) (hc : c ≠ 47) : ∀ p : Bs, c ∈ p → ∃ s ∈ split47 p, c ∈ s
  | [], h => by cases h
  | x :: p, h => by
    unfold split47
    by_cases hx : x = 47
    · rw [if_pos hx]
      rcases List.mem_cons.1 h with rfl | h'
      · exact absurd hx hc
      · obtain ⟨s, hs, hcs⟩ := split47_mem c hc p h'
        exact ⟨s, List.mem_cons_of_mem _ hs, hcs⟩
    · rw [if_neg hx]
      cases hsp : split47 p with
      | nil => exact absurd hsp (split47_ne p)
      | cons a l =>
        simp only
        rcases List.mem_cons.1 h with rfl | h'
        · exact ⟨c :: a, List.mem_cons_self .., List.mem_cons_self ..⟩
        · obtain ⟨s, hs, hcs⟩ := split47_mem c hc p h'
          rw [hsp] at hs
          rcases List.mem_cons.1 hs with rfl | hs'
          · exact ⟨x :: s, List.mem_cons_self .., List.mem_cons_of_mem _ hcs⟩
          · exact ⟨s, List.mem_cons_of_mem _ hs', hcs⟩
theorem pathOk_zero {p : Bs} (h : pathOk p = true) : p.contains 0 = false := by
  cases hc : p.contains 0 with
  | false => rfl
  | true =>
    exfalso
    rw [List.contains_iff_mem] at hc
    unfold pathOk at h
    rw [Bool.or_eq_true] at h
    rcases h with h | h
    · rw [List.isEmpty_iff] at h; subst h; cases hc
    · simp only [Bool.and_eq_true] at h
      obtain ⟨s, hs, h0⟩ := split47_mem 0 (by decide) p hc
      have := List.all_eq_true.1 h.1.2 s hs
      unfold partOk at this
      simp only [Bool.and_eq_true, Bool.not_eq_true'] at this
      have h3 := this.1.1.1.2
      rw [List.contains_iff_mem.2 h0] at h3
      cases h3
theorem contains_take {l : Bs} {k : Nat} {c : UInt8} (h : l.contains c = false) : (l.take k).contains c = false := by
  cases hc : (l.take k).contains c with
  | false => rfl
  | true =>
    rw [List.contains_iff_mem] at hc
    have := List.contains_iff_mem.2 (List.mem_of_mem_take hc)
    rw [h] at this; cases this
theorem nameOf_good {n : Nd} (h : pathOk n.path = true) : ((nameOf n).take 100).isEmpty = false ∧ textB ((nameOf n).take 100) = true := by
  have h0 : (nameOf n).contains 0 = false := by
    unfold nameOf
    split
    · rfl
    · exact pathOk_zero h
  have hne : nameOf n ≠ [] := by
    unfold nameOf
    split
    · simp
    · rename_i h'; simpa using h'
  refine ⟨?_, ?_⟩
  · cases hn : nameOf n with
    | nil => exact absurd hn hne
    | cons a l => rfl
  · unfold textB
    rw [contains_take h0, decide_eq_true (by rw [List.length_take]; omega)]
    rfl
theorem NdOk_of {n : Nd} (h : goodNd n = true) : NdOk n := by
  have h' := h
  unfold goodNd at h'
  simp only [Bool.and_eq_true, decide_eq_true_eq] at h'
  obtain ⟨⟨hp, hd⟩, hk⟩ := h'
  have hpl := pathOk_len hp
  have hg := nameOf_good hp
  have oct : ∀ m : Nat, m ≤ 100000 → octB m 11 = true := fun m hm => by
    unfold octB; exact decide_eq_true (mn8_len m 11 (by omega) (by omega))
  refine ⟨hpl, hd, fun hx => ?_, fun hk4 => ?_, fun hk4 => ?_⟩
  · have hl := extraOf_le2 n hpl hd
    have ho := oct (extraOf n).length (by omega)
    unfold headB mayB
    rw [Int.toNat_natCast, ho]
    simp
    decide
  · have hk' : n.data.isEmpty = false ∧ n.data.contains 0 = false := by
      rw [hk4] at hk; simp at hk; simpa using hk
    unfold headB mayB
    rw [hg.1, hg.2]
    have ht : textB (n.data.take 100) = true := by unfold textB; rw [contains_take hk'.2, decide_eq_true (by rw [List.length_take]; omega)]; rfl
    have hne : (n.data.take 100).isEmpty = false := by
      cases hn : n.data with
      | nil => rw [hn] at hk'; simp at hk'
      | cons a l => rfl
    rw [ht, hne]
    have ho := oct 0 (by omega)
    simp only [Int.toNat_zero, ho]
    decide
  · have ho := oct n.data.length (by omega)
    unfold headB mayB
    rw [hg.1, hg.2, Int.toNat_natCast, ho]
    have hk3 : n.kind = 1 ∧ n.data = [] ∨ n.kind = 2 ∨ n.kind = 3 := by
      simp only [Bool.or_eq_true, Bool.and_eq_true, beq_iff_eq] at hk
      rcases hk with ((hk | hk) | hk) | hk
      · exact .inl ⟨hk.1, by simpa using hk.2⟩
      · exact .inr (.inl hk)
      · exact .inr (.inr hk)
      · exact absurd hk.1.1 hk4
    rcases hk3 with ⟨h1, h2⟩ | h1 | h1
    · rw [h1, h2]; decide
    · rw [h1]; simp; decide
    · rw [h1]; simp; decide
theorem treeOk_spec {t : List Nd} (h : treeOk t = true) : t ≠ [] ∧ ∀ i, i < t.length → okAt t i = true := by
  unfold treeOk badOf at h
  have h := of_decide_eq_true h
  split at h
  · omega
  · rename_i hne
    refine ⟨by simpa using hne, fun i hi => ?_⟩
    cases hf : (List.range t.length).find? (fun i => !okAt t i) with
    | some j => rw [hf] at h; simp at h; omega
    | none =>
      rw [List.find?_eq_none] at hf
      simpa using hf i (by simpa using hi)
theorem treeOk_nodes (t : List Nd) (h : treeOk t = true) : (∀ n ∈ t, NdOk n) ∧ t.length ≤ 400 := by
  obtain ⟨hne, hok⟩ := treeOk_spec h
  refine ⟨fun n hn => ?_, ?_⟩
  · obtain ⟨i, hi, rfl⟩ := List.getElem_of_mem hn
    have := hok i hi
    unfold okAt at this
    simp only [Bool.and_eq_true] at this
    have hg := this.1.2
    rw [List.getD_eq_getElem?_getD, List.getElem?_eq_getElem hi] at hg
    exact NdOk_of hg
  · have hl : 0 < t.length := List.length_pos_iff.2 hne
    have := hok (t.length - 1) (by omega)
    unfold okAt at this
    simp only [Bool.and_eq_true, decide_eq_true_eq] at this
    have := this.1.1
    omega
end Go.Proofs.YtbkjjapeojclpaaGreatDoor
