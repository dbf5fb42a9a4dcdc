/- untar's reader: take, entry. -/
import Derived.Test.YtbkjjapeojclpaaGreatDoorHRead
namespace Go.Proofs.YtbkjjapeojclpaaGreatDoor
set_option linter.unusedVariables false
set_option linter.unusedSimpArgs false
open Go.RowKit Go.Proofs.YtbkjjapeojclpaaGreatDoorW.PrintWords
set_option maxHeartbeats 400000
set_option maxRecDepth 100000

/-- What a reader has still to read; has it met what may not be? -/
structure St where
  l : Bs
  bad : Bool
/-- Nothing is asked of the address (an empty row may lie anywhere). -/
def Plain (_A : Option Addr) : Prop := True
theorem Plain.add {A : Option Addr} (_h : Plain A) (n : Nat) : Plain (A.map (·.add n)) := trivial
/-- A reader at block R; its bytes lie in w0's memory. -/
structure Rd (w0 w : World) (R : Nat) (s : St) : Prop where
  blk : ∃ A c, w.heap[R]? = some (.cells #[.slice A s.l.length c, .bool s.bad] 51 (0, 0)) ∧ kByte.C w0 A s.l.length s.l ∧ s.l.length ≤ c ∧ Plain A ∧ c ≤ 9223372036854775807
  below : Below w0.heap.size w0 w
  lo : w0.heap.size ≤ R
theorem Rd.lt {w0 w : World} {R : Nat} {s : St} (h : Rd w0 w R s) : R < w.heap.size := by
  obtain ⟨A, c, h1, _⟩ := h.blk
  exact (Array.getElem?_eq_some_iff.1 h1).1
/-- Nothing of what was has turned but block R. -/
structure But (R : Nat) (w w' : World) : Prop where
  size : w.heap.size ≤ w'.heap.size
  blk : ∀ k, k < w.heap.size → k ≠ R → w'.heap[k]? = w.heap[k]?
theorem But.refl (R : Nat) (w : World) : But R w w := ⟨Nat.le_refl _, fun _ _ _ => rfl⟩
theorem But.trans {R : Nat} {w w1 w2 : World} (h : But R w w1) (k : But R w1 w2) : But R w w2 := ⟨Nat.le_trans h.size k.size, fun j hj hR => (k.blk j (Nat.lt_of_lt_of_le hj h.size) hR).trans (h.blk j hj hR)⟩
theorem But.of {R : Nat} {w w' : World} (h : Below w.heap.size w w') : But R w w' := ⟨h.size, fun k hk _ => h.block k hk⟩
theorem Rd.belowR {w0 w w' : World} {R : Nat} {s : St} (h : Rd w0 w R s) (hb : Below w.heap.size w w') : Rd w0 w' R s := by
  obtain ⟨A, c, h1, h2⟩ := h.blk
  exact ⟨⟨A, c, by rw [hb.block R h.lt]; exact h1, h2⟩, h.below.trans (hb.mono h.below.size), h.lo⟩
theorem setCell_but (w : World) (R o : Nat) (v : Value) : But R w (w.setCell ⟨R, o, none⟩ v) := ⟨by simp, fun k _ hR => Below.heap_setCell _ _ _ _ hR⟩

def takeF (s : St) (n : Nat) : Bs × St := if !s.bad && decide (n ≤ s.l.length) then (s.l.take n, ⟨s.l.drop n, false⟩) else ([], ⟨s.l, true⟩)
def TakePost (w0 w : World) (R : Nat) (o : Bs) (s : St) (e : Ending) (w' : World) : Prop := ∃ A c, e = .returned (.slice A o.length c) ∧ kByte.C w0 A o.length o ∧ o.length ≤ c ∧ Rd w0 w' R s ∧ But R w w'
theorem C_nil (w : World) : kByte.C w none 0 [] := ⟨rfl, by omega, fun h => absurd h (by omega)⟩
theorem take_any (w0 w : World) (R : Nat) (s : St) (n : Nat) (h : Rd w0 w R s) (hn : n ≤ 1000000000000) :
    Calls Tryz.prog 50 #[.pointer (some ⟨R, 0, none⟩), .int .i64 n] w (TakePost w0 w R (takeF s n).1 (takeF s n).2) := by
  obtain ⟨A, c, hb, hC, hc, hp⟩ := h.blk
  have c0 : w.cell? ⟨R, 0, none⟩ = some (.slice A s.l.length c) := by simp [World.cell?, hb]
  have c1 : w.cell? ⟨R, 1, none⟩ = some (.bool s.bad) := by simp [World.cell?, hb]
  have f0 : w.frozen? ⟨R, 0, none⟩ = false := blk_frozen hb 0
  have f1 : w.frozen? ⟨R, 1, none⟩ = false := blk_frozen hb 1
  have hn0 : decide ((n : Int) < 0) = false := decide_eq_false (by omega)
  by_cases ht : (!s.bad && decide (n ≤ s.l.length)) = true
  · simp only [Bool.and_eq_true, Bool.not_eq_true', decide_eq_true_eq] at ht
    obtain ⟨hbd, hle⟩ := ht
    have hF : takeF s n = (s.l.take n, ⟨s.l.drop n, false⟩) := by unfold takeF; rw [hbd, decide_eq_true hle]; rfl
    rw [hF]
    rw [hbd] at c1 hb
    have hle0 : decide (s.l.length < n) = false := decide_eq_false (by omega)
    have HC := Lib.hid hC
    have HB := Lib.hid hb
    have HH := Lib.hid h
    have hlt : n - 0 = n := rfl
    have H1 := Lib.hid (C_cut_to hC hle)
    have hlen : (s.l.take n).length = n := by rw [List.length_take]; omega
    have hlen2 : (s.l.drop n).length = s.l.length - n := by rw [List.length_drop]
    have H2 : Hid (kByte.C w0 (if c = n then A else A.map (·.add n)) (s.l.length - n) (s.l.drop n)) := Lib.hid (by
      have := C_cut hC hle (Nat.le_refl _) hc
      rwa [List.take_of_length_le (Nat.le_refl _)] at this)
    have hfin : ∀ A2 n2 c2, A2 = (if c = n then A else A.map (·.add n)) → n2 = s.l.length - n → c2 = c - n → TakePost w0 w R (s.l.take n) ⟨s.l.drop n, false⟩ (.returned (.slice A n c)) (w.setCell ⟨R, 0, none⟩ (.slice A2 n2 c2)) := by
      rintro A2 n2 c2 rfl rfl rfl
      refine ⟨A, c, by rw [hlen], by rw [hlen]; exact H1.out, by omega, ⟨⟨if c = n then A else A.map (·.add n), c - n, ?_, ?_, ?_, ?_⟩, HH.out.below.setCell HH.out.lo _, HH.out.lo⟩, setCell_but _ _ _ _⟩
      · rw [blk_set HB.out]; simp only [hlen2]; rfl
      · simp only [hlen2]; exact H2.out
      · simp only [hlen2]; omega
      · refine ⟨?_, by omega⟩
        split; exact hp.1; exact hp.1.add n
    have HFIN := Lib.hid hfin
    have h3 := h
    clear hC hb h hbd hF H1 H2 hlen hlen2 hfin h3 hlt
    by_cases hcn : c = n
    · subst hcn
      have HFIN2 : Hid (TakePost w0 w R (s.l.take c) ⟨s.l.drop c, false⟩ (.returned (.slice A c c)) (w.setCell ⟨R, 0, none⟩ (.slice A 0 0))) := Lib.hid (HFIN.out A 0 0 (by rw [if_pos rfl]) (by omega) (by omega))
      clear HFIN
      go_enter Tryz.func50, Tryz.ntmps50
      go_wp2_with fail
      go_ret
      exact HFIN2.out
    · have HFIN2 := Lib.hid (HFIN.out (A.map (·.add n)) (s.l.length - n) (c - n) (by rw [if_neg hcn]) rfl rfl)
      clear HFIN
      go_enter Tryz.func50, Tryz.ntmps50
      go_wp2_with fail
      go_ret
      exact HFIN2.out
  · have hF : takeF s n = ([], ⟨s.l, true⟩) := by unfold takeF; rw [if_neg ht]
    rw [hF]
    have hfin : TakePost w0 w R [] ⟨s.l, true⟩ (.returned (.slice none 0 0)) (w.setCell ⟨R, 1, none⟩ (.bool true)) :=
      ⟨none, 0, rfl, C_nil w0, Nat.le_refl _, ⟨⟨A, c, by rw [blk_set hb]; rfl, hC, hc, hp⟩, h.below.setCell h.lo _, h.lo⟩, setCell_but _ _ _ _⟩
    have HFIN := Lib.hid hfin
    cases hbd : s.bad with
    | true =>
      rw [hbd] at c1
      clear hC hb h hF hfin ht hbd
      go_enter Tryz.func50, Tryz.ntmps50
      go_wp2_with fail
      go_ret
      exact HFIN.out
    | false =>
      rw [hbd] at c1
      have hgt : decide (s.l.length < n) = true := decide_eq_true (by rw [hbd] at ht; simp at ht; omega)
      clear hC hb h hF hfin ht hbd
      go_enter Tryz.func50, Tryz.ntmps50
      go_wp2_with fail
      go_ret
      exact HFIN.out
end Go.Proofs.YtbkjjapeojclpaaGreatDoor
