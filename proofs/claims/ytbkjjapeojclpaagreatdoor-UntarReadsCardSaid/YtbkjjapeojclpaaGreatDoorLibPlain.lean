/- The library's plain functions at a separator of one byte, in the words of these proofs. -/
import Derived.Test.YtbkjjapeojclpaaGreatDoorPlain
import Derived.Lib.CutLaws
import Derived.Lib.SplitLaws
import Derived.Lib.Split
import Derived.Lib.IndexBytes
import Derived.Lib.IndexLaws
import Derived.Lib.LastIndexByte
import Derived.Lib.Repeat
namespace Go.Proofs.YtbkjjapeojclpaaGreatDoor
set_option linter.unusedVariables false
set_option linter.unusedSimpArgs false
open Go

theorem splitK_split47 (s : Bs) : Lib.splitK [47] 0 (Lib.count s [47]) s = split47 s := by
  induction s with
  | nil => rfl
  | cons c s ih =>
    by_cases h : c = 47
    · subst h
      rw [Lib.count_cons_eq, Nat.add_comm, Lib.splitK]
      have hi : Lib.index (47 :: s) [47] = 0 := by rw [Lib.index_one]; rfl
      rw [hi, if_neg (by decide)]
      simp only [split47, if_pos]
      rw [← ih]
      rfl
    · rw [Lib.count_cons_ne _ _ _ h]
      have hix : Lib.index (c :: s) [47] = if Lib.index s [47] == -1 then -1 else Lib.index s [47] + 1 := by
        rw [Lib.index_one, Lib.index_one]
        show (if c == 47 then 0 else _) = _
        rw [if_neg (by simpa using h)]
      simp only [split47, if_neg h]
      rw [← ih]
      by_cases hm : Lib.index s [47] = -1
      · rw [Lib.count_miss hm]
        rfl
      · obtain ⟨i, hi⟩ : ∃ i : Nat, Lib.index s [47] = i := ⟨(Lib.index s [47]).toNat, by have := Lib.index_ge s [47]; omega⟩
        obtain ⟨k, hk⟩ : ∃ k, Lib.count s [47] = k + 1 := ⟨_, by rw [Lib.count_hit (by simp) hi, Nat.add_comm]⟩
        rw [hk]
        simp only [Lib.splitK]
        rw [hix, hi]
        have e1 : ((i : Int) == -1) = false := by rw [beq_eq_false_iff_ne]; omega
        have e2 : ((i : Int) + 1 == -1) = false := by rw [beq_eq_false_iff_ne]; omega
        have e3 : ((i : Int) + 1).toNat = i + 1 := by omega
        simp [e1, e2, e3]
theorem splitB_split47 (s : ByteArray) : (Lib.splitB ⟨#[47]⟩ 0 (Lib.countB s ⟨#[47]⟩) s) = (split47 s.data.toList).map fun l => ⟨l.toArray⟩ := by
  have h := Lib.splitB_data ⟨#[47]⟩ 0 (Lib.countB s ⟨#[47]⟩) s
  have e : Lib.splitK (⟨#[47]⟩ : ByteArray).data.toList 0 (Lib.countB s ⟨#[47]⟩) s.data.toList = split47 s.data.toList := splitK_split47 _
  rw [e] at h
  rw [← h, List.map_map]
  conv => lhs; rw [← List.map_id (Lib.splitB ⟨#[47]⟩ 0 (Lib.countB s ⟨#[47]⟩) s)]
  rfl
theorem split47_count (s : ByteArray) : (split47 s.data.toList).length = Lib.countB s ⟨#[47]⟩ + 1 := by
  have h := congrArg List.length (splitB_split47 s)
  rw [List.length_map] at h
  rw [← h, Lib.splitB_all ⟨#[47]⟩ (Nat.le_refl 1) 0 (Lib.countB s ⟨#[47]⟩) s rfl]

/-- The last place of a byte. -/
theorem lastIdx_rev (c : UInt8) : ∀ (l : Bs) (s : ByteArray) (k : Nat), k ≤ s.size → s.data.toList.take k = l.reverse → Lib.lastIdx s c.toNat k = ((l.dropWhile (· != c)).length : Int) - 1
  | [], s, k, hk, h => by
    have : k = 0 := by
      have h1 := congrArg List.length h
      rw [List.length_take] at h1
      have e : s.size = s.data.toList.length := by rw [Array.length_toList]; rfl
      have : (([] : Bs).reverse).length = 0 := rfl
      omega
    subst this
    rfl
  | x :: l, s, k, hk, h => by
    have hl := congrArg List.length h
    have e : s.size = s.data.toList.length := by rw [Array.length_toList]; rfl
    rw [List.length_take, List.length_reverse, List.length_cons] at hl
    obtain ⟨j, rfl⟩ : ∃ j, k = j + 1 := ⟨k - 1, by omega⟩
    have hj : j < s.data.toList.length := by omega
    rw [List.take_succ_eq_append_getElem hj, List.reverse_cons] at h
    obtain ⟨h1, h2⟩ := List.append_inj' h rfl
    have h3 : s.data.toList[j] = x := by simpa using h2
    have h4 : s.data[j]! = x := by rw [← h3, getElem!_pos s.data j (by simpa using hj)]; simp
    by_cases hc : x = c
    · rw [Lib.lastIdx_hit s _ j (by rw [h4, hc])]
      subst hc
      simp
      omega
    · rw [Lib.lastIdx_miss s _ j (by rw [h4]; intro e; exact hc (UInt8.toNat_inj.1 (by omega)))]
      rw [lastIdx_rev c l s j (by omega) h1]
      rw [List.dropWhile_cons, if_pos (by simpa using hc)]
theorem lastIndexByte_lastI (s : ByteArray) : Lib.lastIndexByte s 47 = lastI s.data.toList := by
  unfold Lib.lastIndexByte lastI
  exact lastIdx_rev 47 s.data.toList.reverse s s.size (Nat.le_refl _) (by rw [List.reverse_reverse, List.take_of_length_le]; simp)

/-- A text cut at the first place of a byte. -/
def cut1 (c : UInt8) (l : Bs) : Bs := l.takeWhile (· != c)
def cut2 (c : UInt8) (l : Bs) : Bs := (l.dropWhile (· != c)).drop 1
theorem cut_one (l : Bs) (c : UInt8) : Lib.cut l [c] = (cut1 c l, cut2 c l, l.contains c) := by
  unfold Lib.cut
  rw [Lib.index_one]
  induction l with
  | nil => rfl
  | cons b l ih =>
    by_cases h : b = c
    · subst h
      have : Lib.indexByte (b :: l) b = 0 := by unfold Lib.indexByte; simp
      rw [this]
      simp [cut1, cut2]
    · have hb : (b == c) = false := beq_eq_false_iff_ne.2 h
      have hg := Lib.indexByte_ge l c
      have hix : Lib.indexByte (b :: l) c = if Lib.indexByte l c == -1 then -1 else Lib.indexByte l c + 1 := by
        conv => lhs; unfold Lib.indexByte
        rw [hb, if_neg (by decide)]
      have h' : ¬ c = b := fun e => h e.symm
      rw [hix]
      by_cases hm : Lib.indexByte l c = -1
      · have e0 : ((-1 : Int) == -1) = true := rfl
        rw [hm, e0, if_pos rfl, if_neg (by omega)]
        rw [hm, if_neg (by omega)] at ih
        simp only [Prod.mk.injEq] at ih ⊢
        obtain ⟨i1, i2, i3⟩ := ih
        refine ⟨?_, ?_, ?_⟩
        · unfold cut1 at *; rw [List.takeWhile_cons, if_pos (by simpa using h), ← i1]
        · unfold cut2 at *; rw [List.dropWhile_cons, if_pos (by simpa using h), ← i2]
        · rw [List.contains_cons, ← i3]; simpa using h'
      · have e1 : (Lib.indexByte l c == -1) = false := beq_eq_false_iff_ne.2 hm
        rw [e1, if_neg (show ¬ (false = true) from by decide), if_pos (by omega)]
        rw [if_pos (by omega)] at ih
        simp only [Prod.mk.injEq] at ih ⊢
        obtain ⟨i1, i2, i3⟩ := ih
        have e3 : (Lib.indexByte l c + 1).toNat = (Lib.indexByte l c).toNat + 1 := by omega
        refine ⟨?_, ?_, ?_⟩
        · unfold cut1 at *; rw [List.takeWhile_cons, if_pos (by simpa using h), ← i1, e3, List.take_succ_cons]
        · unfold cut2 at *; rw [List.dropWhile_cons, if_pos (by simpa using h), ← i2, e3]; simp
        · rw [List.contains_cons, ← i3]; simp
/-- One byte so many times. -/
def rep (c : UInt8) (k : Nat) : Bs := List.replicate k c
theorem repeat_one (c : UInt8) (k : Nat) : Lib.repeatL [c] k = rep c k := by
  unfold rep
  induction k with
  | zero => rfl
  | succ k ih => simp [Lib.repeatL, ih, List.replicate_succ]
end Go.Proofs.YtbkjjapeojclpaaGreatDoor
