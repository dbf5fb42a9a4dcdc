/- Slices of nodes that the call owns. -/
import Derived.Test.YtbkjjapeojclpaaGreatDoorOwn
namespace Go.Proofs.YtbkjjapeojclpaaGreatDoor
set_option linter.unusedVariables false
set_option linter.unusedSimpArgs false
open Go.RowKit Go.Proofs.YtbkjjapeojclpaaGreatDoorW.PrintWords

def ndVals (t : List Nd) : List Value := t.flatMap Nd.vals
theorem ndVals_len (t : List Nd) : (ndVals t).length = t.length * 3 := by
  induction t with
  | nil => rfl
  | cons n t ih => simp only [ndVals, List.flatMap_cons, List.length_append, List.length_cons] at *; rw [ih]; simp [Nd.vals]; omega
theorem ndVals_at (t : List Nd) (k i : Nat) (hi : i < 3) (hk : k < t.length) : (ndVals t)[k * 3 + i]? = (t.getD k default).vals[i]? := by
  induction t generalizing k with
  | nil => simp at hk
  | cons n t ih =>
    simp only [ndVals, List.flatMap_cons]
    cases k with
    | zero => rw [List.getElem?_append_left (by simp [Nd.vals]; omega)]; simp
    | succ k =>
      rw [List.getElem?_append_right (by simp [Nd.vals]; omega)]
      have := ih k (by simpa using hk)
      simp only [ndVals] at this
      rw [show (k + 1) * 3 + i - n.vals.length = k * 3 + i from by simp [Nd.vals]; omega, this]
      simp
def OwnN (w : World) (base : Nat) (v : Value) (t : List Nd) : Prop := w.ownsRow base 38 3 v t.length (ndVals t)
theorem info_nd : ∃ i, Tryz.prog.info? 38 = some i ∧ i.zero = some (.agg #[.string ⟨#[]⟩, .int .i64 0, .string ⟨#[]⟩]) ∧ i.size = 3 ∧ i.bytes = 40 := by
  have h : (Tryz.prog.info? 38).map (fun i => (i.zero, i.size, i.bytes)) = some (some (.agg #[.string ⟨#[]⟩, .int .i64 0, .string ⟨#[]⟩]), 3, 40) := by kernel_rfl
  cases hi : Tryz.prog.info? 38 with
  | none => rw [hi] at h; cases h
  | some i =>
    rw [hi] at h
    simp only [Option.map_some, Option.some.injEq, Prod.mk.injEq] at h
    exact ⟨i, rfl, h.1, h.2.1, h.2.2⟩
theorem OwnN.nil (w : World) (base : Nat) : OwnN w base (.slice none 0 0) [] := World.ownsRow_nil w base _ 3
theorem OwnN.form {w : World} {base : Nat} {v : Value} {t : List Nd} (h : OwnN w base v t) : ∃ A c, v = .slice A t.length c ∧ t.length ≤ c := by
  rcases h.2 with ⟨rfl, h0⟩ | ⟨g, cap, cur, rfl, _, _, hc, _⟩
  · exact ⟨none, 0, by rw [h0], by omega⟩
  · exact ⟨_, cap, rfl, hc⟩
theorem OwnN.C {w : World} {base : Nat} {A : Option Addr} {n c : Nat} {t : List Nd} (h : OwnN w base (.slice A n c) t) : n = t.length ∧ t.length ≤ c ∧ kNd.C w A t.length t := by
  rcases h.2 with ⟨hv, h0⟩ | ⟨g, cap, cur, hv, _, hg, hc, hm, hs, ht⟩
  · cases hv
    have : t = [] := List.eq_nil_of_length_eq_zero h0
    subst this
    exact ⟨rfl, by omega, ⟨rfl, by simp, fun h => absurd h (by simp)⟩⟩
  · cases hv
    refine ⟨rfl, hc, rfl, by simp only [maxLen] at hm; omega, fun _ => ⟨_, rfl, fun j p hp => ⟨p.vals, rfl, kNd_mk w p, fun i u hu => ?_⟩⟩⟩
    have hj : j < t.length := (List.getElem?_eq_some_iff.1 hp).1
    have hi : i < 3 := by have := (List.getElem?_eq_some_iff.1 hu).1; simpa [Nd.vals] using this
    rw [show j * kNd.sz + i = j * 3 + i from rfl, add_blk]
    have h1 : (cur.toList.take (t.length * 3))[j * 3 + i]? = (ndVals t)[j * 3 + i]? := by rw [ht]
    rw [List.getElem?_take_of_lt (by omega), Array.getElem?_toList, ndVals_at t j i hi hj, List.getD_eq_getElem?_getD, hp] at h1
    simp only [World.cell?, hg]
    rw [h1]
    exact hu
theorem OwnN.blk {w w' : World} {base : Nat} {v : Value} {t : List Nd} (h : OwnN w base v t) (hr : ∀ k, v.ownBlock = some k → w'.heap[k]? = w.heap[k]?) : OwnN w' base v t := by
  refine ⟨h.1, ?_⟩
  rcases h.2 with h0 | ⟨g, cap, cur, rfl, hb, hg', r⟩
  · exact .inl h0
  · exact .inr ⟨g, cap, cur, rfl, hb, (hr g rfl).trans hg', r⟩
theorem OwnN.lt {w : World} {base : Nat} {v : Value} {t : List Nd} (h : OwnN w base v t) : ∀ k, v.ownBlock = some k → base ≤ k ∧ k < w.heap.size := World.ownsRow.lt h
theorem OwnN.app1 {w : World} {base : Nat} {v : Value} {t : List Nd} (h : OwnN w base v t) (ty : TypeId) (ad : Addr) (x : Nd) (hx : ∀ j u, x.vals[j]? = some u → w.cell? (ad.add j) = some u) (hn : t.length ≤ 100000) (hb : base ≤ w.heap.size) :
    ∃ v' w', (Builtin.append_ #[25, 25] ty #[v, .slice (some ad) 1 1]).run Tryz.prog w = .ok v' w' ∧ OwnN w' base v' (t ++ [x]) ∧ w.grownBy w' v.ownBlock ∧ (∀ k, v'.ownBlock = some k → v.ownBlock = some k ∨ w.heap.size ≤ k) := by
  obtain ⟨i, hi, hz, hs, hby⟩ := info_nd
  obtain ⟨v', w', h1', h2, h3, h4, h5⟩ := run_append_own_at (P := Tryz.prog) w base 25 ty 38 i _ 3 40 Tryz.underlying25 hi hz hs hby rfl (by omega) v t.length (ndVals t) h ad 1 1 x.vals rfl hx
    (fun u hu => by simp only [Nd.vals, List.mem_cons, List.not_mem_nil, or_false] at hu; rcases hu with rfl | rfl | rfl <;> rfl)
    (by unfold maxLen; omega) (by omega) hb
  refine ⟨v', w', h1', ?_, h3, fun k hk => ?_⟩
  · have e : ndVals (t ++ [x]) = ndVals t ++ x.vals := by simp [ndVals]
    unfold OwnN; rw [List.length_append, List.length_singleton, e]; exact h2
  · rcases h5 with h5 | h5
    · exact .inl (h5 ▸ hk)
    · rw [h5] at hk; cases hk; exact .inr (Nat.le_refl _)
theorem GrN {B : Nat} {w w' : World} {v v' : Value} {l : List Nd} (h : OwnN w B v l) (hB : B ≤ w.heap.size) (hg : w.grownBy w' v.ownBlock) (hl : ∀ k, v'.ownBlock = some k → v.ownBlock = some k ∨ w.heap.size ≤ k) : Gr B w w' v v' :=
  ⟨(Below.refl B w).grown hg hB (fun k e => (h.lt k e).1), fun k hk hn => hg.block k hk (fun e => hn e.symm), hl⟩
end Go.Proofs.YtbkjjapeojclpaaGreatDoor
