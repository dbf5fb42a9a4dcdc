/- The document's own headers: Lay. -/
import Derived.Test.YtbkjjapeojclpaaGreatDoorRef12
namespace Go.Proofs.YtbkjjapeojclpaaGreatDoor
set_option linter.unusedVariables false
set_option linter.unusedSimpArgs false
open Go.RowKit Go.Proofs.YtbkjjapeojclpaaGreatDoorW.PrintWords
set_option maxHeartbeats 400000
set_option maxRecDepth 100000

/-- A text copied into a row of 512 bytes. -/
theorem copy_put {w0 w : World} {B : Nat} {l : Bs} (h : BytesAt w B l) (hl : l.length = 512) (hlo : w0.heap.size ≤ B) (hb : Below w0.heap.size w0 w) (k : Nat) (s : ByteArray) (hk : k + s.size ≤ 512) (hk' : k < 512) :
    ∃ w', (Builtin.copy_ #[22, 9] 3 #[.slice (some ⟨B, k, none⟩) (512 - k) (512 - k), .string s]).run Tryz.prog w = .ok (goInt s.size) w' ∧ BytesAt w' B (putAt l k s.data.toList) ∧ (putAt l k s.data.toList).length = 512 ∧ Below w0.heap.size w0 w' := by
  have hcp := Lib.run_copy_row_string (P := Tryz.prog) w 22 9 3 5 B k (512 - k) (512 - k) s (l.map bval).toArray 5 Tryz.underlying22 (by kernel_rfl) h (by omega) (by simp; omega)
  refine ⟨_, hcp, ?_, ?_, ?_⟩
  · have hu : k + s.data.toList.length ≤ l.length := by rw [← size_len]; omega
    have h := setRow_heap w B _ (List.take k (List.map bval l) ++ (Lib.byteCells s.data.toList ++ List.drop (k + s.size) (List.map bval l))).toArray _ _ h
    have e : (putAt l k s.data.toList).map bval = List.take k (List.map bval l) ++ (Lib.byteCells s.data.toList ++ List.drop (k + s.size) (List.map bval l)) := by
      unfold putAt
      rw [List.map_append, List.map_append, List.append_assoc, List.map_take, List.map_drop, size_len]
      rfl
    unfold BytesAt
    rw [e]
    simpa using h
  · rw [putAt_len (by rw [← size_len, hl]; exact hk), hl]
  · exact below_setRow hb hlo _
/-- A byte stored into a row. -/
theorem store_put {w0 w : World} {B : Nat} {l : Bs} (h : BytesAt w B l) (hl : l.length = 512) (hlo : w0.heap.size ≤ B) (hb : Below w0.heap.size w0 w) (k : Nat) (c : UInt8) (hk : k < 512) :
    BytesAt (w.setCell ⟨B, k, none⟩ (bval c)) B (putAt l k [c]) ∧ (putAt l k [c]).length = 512 ∧ Below w0.heap.size w0 (w.setCell ⟨B, k, none⟩ (bval c)) ∧ w.frozen? ⟨B, k, none⟩ = false ∧ (w.cell? ⟨B, k, none⟩).isSome = true := by
  refine ⟨?_, by rw [putAt_len (by simp; omega), hl], hb.setCell hlo _, blk_frozen h k, ?_⟩
  · unfold BytesAt
    rw [blk_set h]
    congr 2
    apply Array.ext'
    rw [Array.toList_setIfInBounds]
    unfold putAt
    rw [List.map_append, List.map_append, ← List.map_set]
    show List.map bval (l.set k c) = _
    rw [List.set_eq_take_append_cons_drop]
    rw [if_pos (by omega)]
    simp
  · rw [blk_cell h]
    simp
    omega
theorem rLay_no (name link : ByteArray) (k : Int) (n : Nat) (w : World) (h : headB name.data.toList k n link.data.toList = false)
    (hc : Calls Tryz.prog 34 #[.string name, .int .i64 k, .int .i64 n, .string link] w fun e w' => e = .returned (.tuple #[.slice none 0 0, .bool false]) ∧ Below w.heap.size w w') :
    Calls Tryz.prog 34 #[.string name, .int .i64 k, .int .i64 n, .string link] w (LayPost w (headB name.data.toList k n link.data.toList) (headR name.data.toList k n link.data.toList)) := by
  rw [h]
  exact hc
set_option maxHeartbeats 2000000 in
/-- Where no header may be. -/
theorem rLay_bad (name link : ByteArray) (k : Int) (n : Nat) (w : World) (hn : n < 8 ^ 20) (hs : name.size ≤ 90000) (hls : link.size ≤ 90000) (hm : mayB name.data.toList k n link.data.toList = false) :
    Calls Tryz.prog 34 #[.string name, .int .i64 k, .int .i64 n, .string link] w (LayPost w (headB name.data.toList k n link.data.toList) (headR name.data.toList k n link.data.toList)) := by
  have hl1 := size_len name
  have hl2 := size_len link
  have hz1 := rzero_any name w hs
  have hz2 := rzero_any link w hls
  have HF : Hid (headB name.data.toList k n link.data.toList = false) := Lib.hid (by unfold headB; rw [hm]; rfl)
  have q1 : name.toList.isEmpty = name.data.toList.isEmpty := by rw [Lib.toList_data]
  have q2 : link.toList.isEmpty = link.data.toList.isEmpty := by rw [Lib.toList_data]
  unfold mayB textB at hm
  rw [← hl1, ← hl2] at hm
  refine rLay_no name link k n w HF.out ?_
  generalize name.data.toList = nl at *
  generalize link.data.toList = ll at *
  generalize nl.contains 0 = z1 at *
  generalize ll.contains 0 = z2 at *
  generalize nl.isEmpty = e1 at *
  generalize ll.isEmpty = e2 at *
  have HZ1 := Lib.hid hz1
  have HZ2 := Lib.hid hz2
  clear hz1 hz2 hl1 hl2 HF
  cases e1
  case' true =>
    clear hm
    go_enter Tryz.func34, Tryz.ntmps34
    go_wp2_with (go_at_call 52; first | ((with_reducible refine HZ1.out.mono ?_); rintro e w1 ⟨rfl, rfl⟩) | ((with_reducible refine HZ2.out.mono ?_); rintro e w1 ⟨rfl, rfl⟩))
    go_ret2
    exact ⟨rfl, Below.refl _ _⟩
  by_cases c1 : name.size ≤ 100
  case' neg =>
    have b1 : decide ((100 : Int) < (name.size : Int)) = true := decide_eq_true (by omega)
    clear hm
    go_enter Tryz.func34, Tryz.ntmps34
    go_wp2_with (go_at_call 52; first | ((with_reducible refine HZ1.out.mono ?_); rintro e w1 ⟨rfl, rfl⟩) | ((with_reducible refine HZ2.out.mono ?_); rintro e w1 ⟨rfl, rfl⟩))
    go_ret2
    exact ⟨rfl, Below.refl _ _⟩
  have b1 : decide ((100 : Int) < (name.size : Int)) = false := decide_eq_false (by omega)
  cases z1
  case' true =>
    clear hm
    go_enter Tryz.func34, Tryz.ntmps34
    go_wp2_with (go_at_call 52; first | ((with_reducible refine HZ1.out.mono ?_); rintro e w1 ⟨rfl, rfl⟩) | ((with_reducible refine HZ2.out.mono ?_); rintro e w1 ⟨rfl, rfl⟩))
    go_ret2
    exact ⟨rfl, Below.refl _ _⟩
  by_cases c2 : link.size ≤ 100
  case' neg =>
    have b2 : decide ((100 : Int) < (link.size : Int)) = true := decide_eq_true (by omega)
    clear hm
    go_enter Tryz.func34, Tryz.ntmps34
    go_wp2_with (go_at_call 52; first | ((with_reducible refine HZ1.out.mono ?_); rintro e w1 ⟨rfl, rfl⟩) | ((with_reducible refine HZ2.out.mono ?_); rintro e w1 ⟨rfl, rfl⟩))
    go_ret2
    exact ⟨rfl, Below.refl _ _⟩
  have b2 : decide ((100 : Int) < (link.size : Int)) = false := decide_eq_false (by omega)
  cases z2
  case' true =>
    clear hm
    go_enter Tryz.func34, Tryz.ntmps34
    go_wp2_with (go_at_call 52; first | ((with_reducible refine HZ1.out.mono ?_); rintro e w1 ⟨rfl, rfl⟩) | ((with_reducible refine HZ2.out.mono ?_); rintro e w1 ⟨rfl, rfl⟩))
    go_ret2
    exact ⟨rfl, Below.refl _ _⟩
  by_cases c3 : 1 ≤ k
  case' neg =>
    have b3 : decide (k < 1) = true := decide_eq_true (by omega)
    clear hm
    go_enter Tryz.func34, Tryz.ntmps34
    go_wp2_with (go_at_call 52; first | ((with_reducible refine HZ1.out.mono ?_); rintro e w1 ⟨rfl, rfl⟩) | ((with_reducible refine HZ2.out.mono ?_); rintro e w1 ⟨rfl, rfl⟩))
    go_ret2
    exact ⟨rfl, Below.refl _ _⟩
  have b3 : decide (k < 1) = false := decide_eq_false (by omega)
  by_cases c4 : k ≤ 5
  case' neg =>
    have b4 : decide (5 < k) = true := decide_eq_true (by omega)
    clear hm
    go_enter Tryz.func34, Tryz.ntmps34
    go_wp2_with (go_at_call 52; first | ((with_reducible refine HZ1.out.mono ?_); rintro e w1 ⟨rfl, rfl⟩) | ((with_reducible refine HZ2.out.mono ?_); rintro e w1 ⟨rfl, rfl⟩))
    go_ret2
    exact ⟨rfl, Below.refl _ _⟩
  have b4 : decide (5 < k) = false := decide_eq_false (by omega)
  rw [decide_eq_true c1, decide_eq_true c2, decide_eq_true c3, decide_eq_true c4] at hm
  have hkk : k = 1 ∨ k = 2 ∨ k = 3 ∨ k = 4 ∨ k = 5 := by omega
  rcases hkk with rfl | rfl | rfl | rfl | rfl <;> cases e2
  all_goals simp at hm
  all_goals try
   (go_enter Tryz.func34, Tryz.ntmps34
    go_wp2_with (go_at_call 52; first | ((with_reducible refine HZ1.out.mono ?_); rintro e w1 ⟨rfl, rfl⟩) | ((with_reducible refine HZ2.out.mono ?_); rintro e w1 ⟨rfl, rfl⟩))
    go_ret2
    exact ⟨rfl, Below.refl _ _⟩)
  all_goals trace_state
  all_goals sorry
end Go.Proofs.YtbkjjapeojclpaaGreatDoor
