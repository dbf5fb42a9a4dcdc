/- Package path: what its functions answer. -/
import Derived.Test.YtbkjjapeojclpaaGreatDoorLib
namespace Go.Proofs.YtbkjjapeojclpaaGreatDoor
set_option linter.unusedVariables false
set_option linter.unusedSimpArgs false
open Go.RowKit Go.Proofs.YtbkjjapeojclpaaGreatDoorW.PrintWords
set_option maxHeartbeats 400000

theorem index_lt (l : Bs) (c : UInt8) : Lib.indexByte l c < 0 ↔ l.contains c = false := by
  induction l with
  | nil => simp [Lib.indexByte]
  | cons b l ih =>
    unfold Lib.indexByte
    by_cases h : b = c
    · simp [h]
    · have hg := Lib.indexByte_ge l c
      have h' : ¬ c = b := fun e => h e.symm
      rw [List.contains_cons, show (c == b) = false from beq_eq_false_iff_ne.2 h', Bool.false_or, ← ih]
      rw [if_neg (by simpa using h)]
      split
      · rename_i e; rw [beq_iff_eq] at e; omega
      · rename_i e; rw [beq_iff_eq] at e; omega
theorem index_ge (l : Bs) (c : UInt8) : 0 ≤ Lib.indexByte l c ↔ l.contains c = true := by
  have := index_lt l c
  rw [← Bool.not_eq_false, ← this]
  omega

theorem size_len (s : ByteArray) : s.size = s.data.toList.length := by rw [Array.length_toList]; rfl

theorem Part_any (s : ByteArray) (w : World) :
    Calls Tryz.prog 100 #[.string s] w fun e w' => e = .returned (.bool (partOk s.data.toList)) ∧ w = w' := by
  go_enter Tryz.func100, Tryz.ntmps100
  go_wp2_with (first | (go_at_call 63; refine (IndexByte_any _ _ _).mono ?_; rintro e w' ⟨rfl, rfl⟩) | (go_at_call 117; refine (HasPrefix_any _ _ _).mono ?_; rintro e w' ⟨rfl, rfl⟩))
  all_goals go_ret
  all_goals refine ⟨congrArg (fun b => Ending.returned (Value.bool b)) (?_ : _ = partOk s.data.toList), rfl⟩
  all_goals simp only [Lib.toList_data, size_len] at *
  all_goals generalize s.data.toList = l at *
  all_goals try simp only [index_lt, index_ge] at *
  all_goals unfold partOk
  all_goals simp_all
  all_goals first | omega | (rw [show (decide (l.length ≤ 60)) = true from decide_eq_true (by omega), Bool.and_true]; rfl)

theorem all_take_succ (l : List Bs) (k : Nat) (h : k < l.length) : (l.take (k + 1)).all partOk = ((l.take k).all partOk && partOk l[k]) := by
  rw [List.take_succ_eq_append_getElem h]; simp only [List.all_append, List.all_cons, List.all_nil, Bool.and_true]

theorem pathOk_lt {p : Bs} {k : Nat} (h0 : p ≠ []) (h : k < (split47 p).length) (hp : partOk ((split47 p).getD k []) = false) : pathOk p = false := by
  have : (split47 p).all partOk = false := by
    rw [List.all_eq_false]
    refine ⟨_, List.getElem_mem h, ?_⟩
    simpa [List.getD_eq_getElem?_getD, List.getElem?_eq_getElem h] using hp
  simp [pathOk, h0, this]

def PartsPost (w : World) (b : Bool) (e : Ending) (w' : World) : Prop := ∃ v, e = .returned (.tuple #[v, .bool b]) ∧ Below w.heap.size w w'
theorem parts_any (s : ByteArray) (w : World) (hG : Glob w) :
    Calls Tryz.prog 81 #[.string s] w (PartsPost w (pathOk s.data.toList)) := by
  by_cases h0 : s.data.toList = []
  · have q0 : s.toList.isEmpty = true := by rw [Lib.toList_data, h0]; rfl
    go_enter Tryz.func81, Tryz.ntmps81
    go_wp2_with fail
    go_ret2
    exact ⟨_, by rw [h0]; rfl, Below.refl _ _⟩
  · have q0 : s.toList.isEmpty = false := by rw [Lib.toList_data]; simpa using h0
    by_cases h200 : s.size ≤ 200
    · obtain ⟨L, hL⟩ : ∃ L, L = split47 s.data.toList := ⟨_, rfl⟩
      have hsp := Split_any s w hG (by omega)
      rw [← hL] at hsp
      have HSP := Lib.hid hsp
      have HL := Lib.hid hL
      clear hsp hL hG
      have H0 := Lib.hid h0
      clear h0
      go_enter Tryz.func81, Tryz.ntmps81
      go_wp2_with (go_at_call 99; refine HSP.out.mono ?_; rintro e w1 ⟨ad, rfl, hC, hb⟩)
      have HC := Lib.hid hC
      have hm := C_max hC
      have HB := Lib.hid hb
      clear hC hb
      go_loop [16] (fun i => ∃ k : Nat, k ≤ L.length ∧ i = .int .i64 k ∧ Hid ((L.take k).all partOk = true)) (fun i => L.length - (intOf i).toNat)
      case atStart => exact ⟨0, by omega, rfl, Lib.hid (by simp)⟩
      case round =>
        obtain ⟨k, hk, rfl, HK⟩ := hrel
        by_cases hlt : k < L.length
        · obtain ⟨ad', e, hx⟩ := at_bs HC.out k hlt
          cases e
          go_wp2_with (go_at_call 100; refine (Part_any _ _).mono ?_; rintro e w' ⟨rfl, rfl⟩)
          · have hp : (!partOk L[k]) = true := by assumption
            go_ret2
            refine ⟨.slice none 0 0, ?_, HB.out⟩
            rw [pathOk_lt (k := k) H0.out (by rw [← HL.out]; exact hlt) (by rw [← HL.out]; simpa [List.getD_eq_getElem?_getD, List.getElem?_eq_getElem hlt] using hp)]
            rfl
          · have hp : (!partOk L[k]) = false := by assumption
            go_round
            case rel => exact ⟨k + 1, by omega, by go_num, Lib.hid (by rw [all_take_succ L k hlt, HK.out]; simpa using hp)⟩
            case measure => simp [intOf]; omega
        · obtain rfl : k = L.length := by omega
          go_wp2_with fail
          go_ret2
          have hk2 := HK.out
          rw [List.take_length] at hk2
          refine ⟨.slice (some ad) L.length L.length, ?_, HB.out⟩
          have : pathOk s.data.toList = decide ((L.length : Int) ≤ 10) := by
            unfold pathOk
            rw [← HL.out, hk2, ← size_len]
            have h1 : s.data.toList.isEmpty = false := by simpa using H0.out
            rw [h1]
            simp [h200]
            omega
          rw [this]
          rfl
    · have h200' : ¬ ((s.size : Int) ≤ 200) := by omega
      go_enter Tryz.func81, Tryz.ntmps81
      go_wp2_with fail
      go_ret2
      refine ⟨.slice none 0 0, ?_, Below.refl _ _⟩
      have : pathOk s.data.toList = false := by
        have h1 : s.data.toList.isEmpty = false := by simpa using h0
        have h2 : ¬ s.data.toList.length ≤ 200 := by rw [← size_len]; exact h200
        simp only [pathOk, h1, decide_eq_false h2, Bool.false_and, Bool.or_self]
      rw [this]
      rfl

theorem May_any (s : ByteArray) (w : World) (hG : Glob w) :
    Calls Tryz.prog 62 #[.string s] w fun e w' => e = .returned (.bool (pathOk s.data.toList)) ∧ Below w.heap.size w w' := by
  go_enter Tryz.func62, Tryz.ntmps62
  go_wp2_with (go_at_call 81; refine (parts_any _ _ hG).mono ?_; rintro e w' ⟨v, rfl, hb⟩)
  go_ret
  exact ⟨rfl, hb⟩
theorem lastI_bd (p : Bs) : -1 ≤ lastI p ∧ lastI p < p.length := by
  unfold lastI
  have := (List.dropWhile_sublist (fun b : UInt8 => b != 47) (l := p.reverse)).length_le
  rw [List.length_reverse] at this
  omega
theorem pathOk_len {p : Bs} (h : pathOk p = true) : p.length ≤ 200 := by
  unfold pathOk at h
  simp only [Bool.or_eq_true, Bool.and_eq_true, decide_eq_true_eq, List.isEmpty_iff] at h
  rcases h with h | h
  · simp [h]
  · exact h.1.1
theorem Parent_any (s : ByteArray) (w : World) (hG : Glob w) :
    Calls Tryz.prog 64 #[.string s] w fun e w' =>
      e = .returned (.tuple #[.string ⟨(parentR s.data.toList).toArray⟩, .bool (parentB s.data.toList)]) ∧ Below w.heap.size w w' := by
  by_cases h0 : s.data.toList = []
  · have q0 : s.toList.isEmpty = true := by rw [Lib.toList_data, h0]; rfl
    go_enter Tryz.func64, Tryz.ntmps64
    go_wp2_with fail
    go_ret2
    exact ⟨by rw [h0]; rfl, Below.refl _ _⟩
  · have q0 : s.toList.isEmpty = false := by rw [Lib.toList_data]; simpa using h0
    have H0 := Lib.hid h0
    clear h0
    cases hp : pathOk s.data.toList with
    | false =>
      have hm := May_any s w hG
      rw [hp] at hm
      have HM := Lib.hid hm
      have HP := Lib.hid hp
      clear hm hp hG
      go_enter Tryz.func64, Tryz.ntmps64
      go_wp2_with (go_at_call 62; refine HM.out.mono ?_; rintro e w' ⟨rfl, hb⟩)
      go_ret2
      exact ⟨by simp [parentR, parentB, HP.out], by assumption⟩
    | true =>
      have hm := May_any s w hG
      rw [hp] at hm
      have HM := Lib.hid hm
      have hl := pathOk_len hp
      rw [← size_len] at hl
      clear hm hG
      obtain ⟨n, hn⟩ : ∃ n, n = lastI s.data.toList := ⟨_, rfl⟩
      have hbd := lastI_bd s.data.toList
      rw [← hn, ← size_len] at hbd
      obtain ⟨hb1, hb2⟩ := hbd
      have hli := fun w => LastIndexByte_any s w (by omega)
      rw [← hn] at hli
      have HLI := Lib.hid hli
      have HP := Lib.hid hp
      have HN := Lib.hid hn
      clear hn hli hp
      go_enter Tryz.func64, Tryz.ntmps64
      go_wp2_with (first | (go_at_call 62; refine HM.out.mono ?_; rintro e w' ⟨rfl, hb⟩) | (go_at_call 83; refine (HLI.out _).mono ?_; rintro e w' ⟨rfl, rfl⟩))
      go_ret2
      refine ⟨?_, hb⟩
      rw [parentR, parentB, HP.out, if_pos rfl, parentOf, ← HN.out, show s.data.toList.isEmpty = false from by simpa using H0.out]
      show Ending.returned (.tuple #[.string (s.extract 0 (max n 0).toNat), .bool true]) = _
      rw [Lib.extract_eq, show (max n 0).toNat = n.toNat from by omega]
      rfl
end Go.Proofs.YtbkjjapeojclpaaGreatDoor
