/- Slices of bytes: cut, turned into a text. -/
import Derived.Test.YtbkjjapeojclpaaGreatDoorKinds
import Derived.Test.YtbkjjapeojclpaaGreatDoorLibPlain
import Derived.Lib.BufferWrite
import Derived.Laws.CopyOwn
namespace Go.Proofs.YtbkjjapeojclpaaGreatDoor
set_option linter.unusedVariables false
set_option linter.unusedSimpArgs false
open Go.RowKit Go.Proofs.YtbkjjapeojclpaaGreatDoorW.PrintWords

theorem sz_byte (W : World) : (sizeOf 5).run Tryz.prog W = .ok 1 W := by kernel_rfl
/-- string(b) -/
theorem bytes_string {w : World} {A : Option Addr} {n c : Nat} {xs : Bs} (h : kByte.C w A n xs) : (convert 22 9 (.slice A n c)).run Tryz.prog w = .ok (.string ⟨xs.toArray⟩) w := by
  have hl := C_len h
  subst hl
  rcases A with _ | ad
  · have h0 : xs.length = 0 := by
      rcases Nat.eq_zero_or_pos xs.length with h0 | h0
      · exact h0
      · obtain ⟨ad, e, _⟩ := at_byte h 0 h0
        cases e
    obtain rfl : xs = [] := List.eq_nil_of_length_eq_zero h0
    exact run_convert_bytes_nil w _ _ Tryz.underlying22 Tryz.underlying5 0 c _ Tryz.underlying9
  · refine run_convert_bytes_back w _ _ _ ad c xs Tryz.underlying22 Tryz.underlying5 Tryz.underlying9 fun j hj => ?_
    obtain ⟨ad', e, hc⟩ := at_byte h j hj
    cases e
    rw [hc, List.getD_eq_getElem?_getD, List.getElem?_eq_getElem hj]
    rfl
/-- b[lo:hi] -/
theorem run_cut (A : Option Addr) (n c lo hi : Nat) (h1 : lo ≤ hi) (h2 : hi ≤ c) (W : World) : (Instr.slice 22 (.slice A n c) (some (.int .i64 (lo : Int))) (some (.int .i64 (hi : Int))) none).run Tryz.prog W = .ok (.slice (if c = lo then A else A.map (·.add lo)) (hi - lo) (c - lo)) W := by
  have hu : Tryz.prog.underlying 22 = some (.slice (Tryz.prog.elem 22)) := by kernel_rfl
  rw [run_slice_lh W _ A n c hu .i64 .i64 (lo : Int) (hi : Int) (by omega) (by omega) (by omega), show Tryz.prog.elem 22 = 5 from by kernel_rfl, sz_byte]
  simp [sliced, Result.andThen]
theorem run_cut_to (A : Option Addr) (n c hi : Nat) (h2 : hi ≤ c) (W : World) : (Instr.slice 22 (.slice A n c) none (some (.int .i64 (hi : Int))) none).run Tryz.prog W = .ok (.slice A hi c) W := by
  have hu : Tryz.prog.underlying 22 = some (.slice (Tryz.prog.elem 22)) := by kernel_rfl
  rw [run_slice_h W _ A n c hu .i64 (hi : Int) (by omega) (by omega), show Tryz.prog.elem 22 = 5 from by kernel_rfl, sz_byte]
  simp [sliced, Result.andThen]
  intro _
  cases A <;> simp [Addr.add]
theorem run_cut_from (A : Option Addr) (n c lo : Nat) (h1 : lo ≤ n) (h2 : n ≤ c) (W : World) : (Instr.slice 22 (.slice A n c) (some (.int .i64 (lo : Int))) none none).run Tryz.prog W = .ok (.slice (if c = lo then A else A.map (·.add lo)) (n - lo) (c - lo)) W := by
  have hu : Tryz.prog.underlying 22 = some (.slice (Tryz.prog.elem 22)) := by kernel_rfl
  rw [run_slice_l W _ A n c hu .i64 (lo : Int) (by omega) (by omega), show Tryz.prog.elem 22 = 5 from by kernel_rfl, sz_byte]
  simp [sliced, Result.andThen]
theorem C_cut {w : World} {A : Option Addr} {n c lo hi : Nat} {xs : Bs} (h : kByte.C w A n xs) (h1 : lo ≤ hi) (h2 : hi ≤ n) (hc : n ≤ c) : kByte.C w (if c = lo then A else A.map (·.add lo)) (hi - lo) ((xs.take hi).drop lo) := by
  have hl := C_len h
  subst hl
  have := Kd.C_mid h h1 h2 hc
  rwa [show ((xs.take hi).drop lo).length = hi - lo from by simp; omega, show lo * kByte.sz = lo from Nat.mul_one lo] at this
def bval (b : UInt8) : Value := .int .u8 b.toNat
/-- Block B holds just these bytes. -/
def BytesAt (w : World) (B : Nat) (l : Bs) : Prop := w.heap[B]? = some (.cells (l.map bval).toArray 5 (0, 0))
/-- make([]byte, n, c) -/
theorem make_bytes (n c : Nat) (h1 : n ≤ c) (h2 : c ≤ 281474976710656) (W : World) : (Instr.makeSlice 22 (.int .i64 (n : Int)) (.int .i64 (c : Int))).run Tryz.prog W = .ok (.slice (some ⟨W.heap.size, 0, none⟩) n c) (W.alloc (.cells ((rep 0 c).map bval).toArray 5)) := by
  obtain ⟨i, hi, hz, hs, hb⟩ : ∃ i, Tryz.prog.info? 5 = some i ∧ i.zero = some (.int .u8 0) ∧ i.size = 1 ∧ i.bytes = 1 := by
    have h : (Tryz.prog.info? 5).map (fun i => (i.zero, i.size, i.bytes)) = some (some (.int .u8 0), 1, 1) := by kernel_rfl
    cases hi : Tryz.prog.info? 5 with
    | none => rw [hi] at h; cases h
    | some i =>
      rw [hi] at h
      simp only [Option.map_some, Option.some.injEq, Prod.mk.injEq] at h
      exact ⟨i, rfl, h.1, h.2.1, h.2.2⟩
  have h := run_make (P := Tryz.prog) W 22 5 i (.int .u8 0) Tryz.underlying22 hi hz .i64 .i64 (n : Int) (c : Int) (by omega) (by omega) (by rw [hb]; omega) (by omega)
  rw [h, hs]
  have e : madeCells (Value.int IntKind.u8 0).cells ((c : Int).toNat * 1) = ((rep 0 c).map bval).toArray := by
    apply Array.ext
    · simp [madeCells, rep]
    · intro j h1 h2
      have e : (Value.int IntKind.u8 0).cells = #[.int .u8 0] := rfl
      simp [madeCells, rep, bval, e, Nat.mod_one]
  rw [e]
  simp
theorem BytesAt.C {w : World} {B : Nat} {l : Bs} (h : BytesAt w B l) (hl : l.length ≤ 9223372036854775807) : kByte.C w (some ⟨B, 0, none⟩) l.length l := by
  refine C_of hl fun k x hx => ?_
  rw [add_blk]
  simp only [World.cell?, BytesAt] at h ⊢
  rw [h]
  simp [hx]
  rfl
theorem BytesAt.kept {w w' : World} {B : Nat} {l : Bs} (h : BytesAt w B l) (hb : w'.heap[B]? = w.heap[B]?) : BytesAt w' B l := by unfold BytesAt at *; rw [hb]; exact h
theorem BytesAt.lt {w : World} {B : Nat} {l : Bs} (h : BytesAt w B l) : B < w.heap.size := by
  unfold BytesAt at h
  exact (Array.getElem?_eq_some_iff.1 h).1
theorem BytesAt.below {w w' : World} {B : Nat} {l : Bs} (h : BytesAt w B l) (hb : Below w.heap.size w w') : BytesAt w' B l := h.kept (hb.block B h.lt)
theorem bytesAt_new (w : World) (l : Bs) : BytesAt (w.alloc (.cells (l.map bval).toArray 5)) w.heap.size l := heap_alloc_new w _
end Go.Proofs.YtbkjjapeojclpaaGreatDoor
