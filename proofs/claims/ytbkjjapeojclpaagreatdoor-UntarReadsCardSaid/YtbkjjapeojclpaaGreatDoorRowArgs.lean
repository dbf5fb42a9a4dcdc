/- The arguments of a law, opened: []api.Node, []byte, []string. -/
import Derived.Test.YtbkjjapeojclpaaGreatDoorRow
namespace Go.Proofs.YtbkjjapeojclpaaGreatDoor
set_option linter.unusedVariables false
set_option linter.unusedSimpArgs false
open Go.ChangeShapes Go.WideShapes Go.ChangeAt Go.RowKit Go.Deep

section
variable {H : Type} {enc : TypeId × Value → H} {P : Program} {w : World} {base : Nat} {held : Bool}
/-- A slice of structs whose fields are one cell each, read: each field's cell and its reading. -/
theorem open_fields {t e : TypeId} {fs : Array Field} {fuel : Nat} {cs : List Value} {x : DataW H × List MemPlace} (ht : P.underlying t = some (.slice e)) (he : P.underlying e = some (.struct fs))
    (hone : oneCellFields P fs = true) (hC : P.cellsOf e = fs.size) (h : DataW.trod enc P w base (fun _ => true) held fuel t cs = some x) :
    cs = [.slice none 0 0] ∨
    ∃ (a : Addr) (len cap : Nat), cs = [.slice (some a) len cap] ∧ len ≤ cap ∧ cap ≤ maxLen ∧
      ∀ i, i < cap → ∀ (j : Nat) (f : Field), fs[j]? = some f → ∃ (v : Value) (n : Nat) (y : DataW H × List MemPlace), w.cell? (a.add (i * fs.size + j)) = some v ∧ DataW.trod enc P w base (fun _ => true) held n f.type [v] = some y := by
  rcases open_slice ht h with ⟨h0, _⟩ | ⟨a, len, cap, m, n, D, Pl, hcs, hb, hl, hm, hmm, hx, hi⟩
  · exact .inl h0
  · refine .inr ⟨a, len, cap, hcs, hl, hm, fun i him j f hj => ?_⟩
    have hmc : m = cap := by simpa using hmm
    obtain ⟨cs', hc, ht'⟩ := hi i (by omega)
    rw [hC] at hc
    obtain ⟨ys, n', hn', hy, hlen, hyl, hf⟩ := DataW.trod_struct he ht'
    obtain ⟨_, hcl, hat⟩ := World.cells?_some hc
    obtain ⟨ho, hk⟩ := hone_of hone j f hj
    have hjl : j < fs.size := (Array.getElem?_eq_some_iff.1 hj).1
    have hcell := hat j hjl
    have hv : cs'[j]? = some (cs'[j]'(by omega)) := List.getElem?_eq_getElem (by omega)
    have h1 := hf j f hj
    rw [ho, hk] at h1
    have hone' : (cs'.drop j).take 1 = [cs'[j]'(by omega)] := by
      rw [List.drop_eq_getElem_cons (by omega)]
      rfl
    rw [hone'] at h1
    have hys : ys[j]? = some (ys[j]'(by omega)) := List.getElem?_eq_getElem (by omega)
    refine ⟨_, n', _, ?_, h1.trans hys⟩
    rw [← Go.Deep.add_add, hcell, hv]
end
section
variable {H : Type} {enc : TypeId × Value → H} {w : World}
/-- A []api.Node that came in. -/
theorem open_nds {A : Option Addr} {n c : Nat} {held : Bool} {d : DataW H} {p : List MemPlace} (h : DataW.Trod enc Tryz.prog w 0 (fun _ => true) held 25 (.slice A n c) d p) :
    ∃ t : List Nd, n = t.length ∧ t.length ≤ c ∧ c ≤ 9223372036854775807 ∧ kNd.C w A t.length t := by
  obtain ⟨fuel, hf⟩ := h
  rcases open_fields Tryz.underlying25 Tryz.underlying38 (by kernel_rfl) (by kernel_rfl) hf with hcs | ⟨a, len, cap, hcs, hl, hm, hi⟩
  · simp [Value.cells] at hcs
    obtain ⟨rfl, rfl, rfl⟩ := hcs
    exact ⟨[], rfl, Nat.le_refl _, by omega, ⟨rfl, by simp, fun h => absurd h (by simp)⟩⟩
  · simp [Value.cells] at hcs
    obtain ⟨rfl, rfl, rfl⟩ := hcs
    have hnd : ∀ i, i < c → ∃ x : Nd, w.cell? (a.add (i * 3 + 0)) = some (.string ⟨x.path.toArray⟩) ∧ w.cell? (a.add (i * 3 + 1)) = some (.int .i64 x.kind) ∧ w.cell? (a.add (i * 3 + 2)) = some (.string ⟨x.data.toArray⟩) := by
      intro i hic
      obtain ⟨v0, n0, y0, c0, r0⟩ := hi i hic 0 _ rfl
      obtain ⟨v1, n1, y1, c1, r1⟩ := hi i hic 1 _ rfl
      obtain ⟨v2, n2, y2, c2, r2⟩ := hi i hic 2 _ rfl
      obtain ⟨s0, e0, _⟩ := DataW.trod_string Tryz.underlying9 r0
      obtain ⟨k1, e1, _⟩ := DataW.trod_int Tryz.underlying3 r1
      obtain ⟨s2, e2, _⟩ := DataW.trod_string Tryz.underlying9 r2
      simp only [List.cons.injEq, and_true] at e0 e1 e2
      subst e0 e1 e2
      exact ⟨⟨s0.data.toList, k1, s2.data.toList⟩, by rw [mkS_data]; exact c0, c1, by rw [mkS_data]; exact c2⟩
    refine ⟨(List.range n).map fun i => if hic : i < c then Classical.choose (hnd i hic) else default, by simp, by simpa using hl, by simp only [maxLen] at hm; omega, ⟨rfl, by simp only [maxLen] at hm; simp; omega, fun _ => ⟨a, rfl, fun j x hx => ⟨x.vals, rfl, kNd_mk w x, fun i u hu => ?_⟩⟩⟩⟩
    have hj : j < n := by have := (List.getElem?_eq_some_iff.1 hx).1; simpa using this
    have hjc : j < c := by omega
    rw [List.getElem?_map, List.getElem?_range hj] at hx
    simp only [Option.map_some, dif_pos hjc, Option.some.injEq] at hx
    obtain ⟨q0, q1, q2⟩ := Classical.choose_spec (hnd j hjc)
    rw [hx] at q0 q1 q2
    rw [show j * kNd.sz + i = j * 3 + i from rfl]
    have hi3 : i < 3 := by have := (List.getElem?_eq_some_iff.1 hu).1; simpa [Nd.vals] using this
    have : i = 0 ∨ i = 1 ∨ i = 2 := by omega
    rcases this with rfl | rfl | rfl
    · rw [q0]; exact hu
    · rw [q1]; exact hu
    · rw [q2]; exact hu
/-- A []byte that came in. -/
theorem open_bytes {A : Option Addr} {n c : Nat} {held : Bool} {d : DataW H} {p : List MemPlace} (h : DataW.Trod enc Tryz.prog w 0 (fun _ => true) held 22 (.slice A n c) d p) :
    ∃ b : Bs, n = b.length ∧ b.length ≤ c ∧ c ≤ 9223372036854775807 ∧ kByte.C w A b.length b := by
  obtain ⟨fuel, hf⟩ := h
  rcases open_ints Tryz.underlying22 Tryz.underlying5 (by kernel_rfl) hf with ⟨hcs, _⟩ | ⟨x, l, cap, zs, hcs, _, hl, hm, hz, _, hcell, hwz⟩
  · simp [Value.cells] at hcs
    obtain ⟨rfl, rfl, rfl⟩ := hcs
    exact ⟨[], rfl, Nat.le_refl _, by omega, ⟨rfl, by simp, fun h => absurd h (by simp)⟩⟩
  · simp [Value.cells] at hcs
    obtain ⟨rfl, rfl, rfl⟩ := hcs
    have hzl : zs.length = c := by simpa using hz
    refine ⟨(zs.take n).map fun z => UInt8.ofNat z.toNat, by simp; omega, by simp; omega, by simp only [maxLen] at hm; omega, C_of (by simp only [maxLen] at hm; simp; omega) fun k y hy => ?_⟩
    have hk : k < n := by have := (List.getElem?_eq_some_iff.1 hy).1; simp at this; omega
    rw [hcell k (by omega)]
    rw [List.getElem?_map, List.getElem?_take_of_lt hk, List.getElem?_eq_getElem (by omega)] at hy
    simp only [Option.map_some, Option.some.injEq] at hy
    have hw := hwz (zs[k]'(by omega)) (List.getElem_mem _)
    rw [List.getD_eq_getElem?_getD, List.getElem?_eq_getElem (by omega), Option.getD_some, ← hy]
    have hr : 0 ≤ zs[k]'(by omega) ∧ zs[k]'(by omega) < 256 := by
      have m1 : IntKind.u8.min = 0 := by decide
      have m2 : IntKind.u8.max = 255 := by decide
      simp [Lit.wf, m1, m2] at hw
      omega
    rw [UInt8.toNat_ofNat_of_lt' (show (zs[k]'(by omega)).toNat < 256 by omega)]
    congr 2
    omega
end
end Go.Proofs.YtbkjjapeojclpaaGreatDoor
