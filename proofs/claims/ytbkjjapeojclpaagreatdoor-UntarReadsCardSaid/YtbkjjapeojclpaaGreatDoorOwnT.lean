/- Slices of texts that the call owns. -/
import Derived.Test.YtbkjjapeojclpaaGreatDoorOwnN
namespace Go.Proofs.YtbkjjapeojclpaaGreatDoor
set_option linter.unusedVariables false
set_option linter.unusedSimpArgs false
open Go.RowKit Go.Proofs.YtbkjjapeojclpaaGreatDoorW.PrintWords

def bsVal (b : Bs) : Value := .string ⟨b.toArray⟩
def OwnT (w : World) (base : Nat) (v : Value) (t : List Bs) : Prop := w.ownsRow base 9 1 v t.length (t.map bsVal)
theorem info_str : ∃ i, Tryz.prog.info? 9 = some i ∧ i.zero = some (.string ⟨#[]⟩) ∧ i.size = 1 ∧ i.bytes = 16 := by
  have h : (Tryz.prog.info? 9).map (fun i => (i.zero, i.size, i.bytes)) = some (some (.string ⟨#[]⟩), 1, 16) := by kernel_rfl
  cases hi : Tryz.prog.info? 9 with
  | none => rw [hi] at h; cases h
  | some i =>
    rw [hi] at h
    simp only [Option.map_some, Option.some.injEq, Prod.mk.injEq] at h
    exact ⟨i, rfl, h.1, h.2.1, h.2.2⟩
theorem OwnT.nil (w : World) (base : Nat) : OwnT w base (.slice none 0 0) [] := World.ownsRow_nil w base _ 1
theorem OwnT.form {w : World} {base : Nat} {v : Value} {t : List Bs} (h : OwnT w base v t) : ∃ A c, v = .slice A t.length c ∧ t.length ≤ c := by
  rcases h.2 with ⟨rfl, h0⟩ | ⟨g, cap, cur, rfl, _, _, hc, _⟩
  · exact ⟨none, 0, by rw [h0], by omega⟩
  · exact ⟨_, cap, rfl, hc⟩
theorem OwnT.C {w : World} {base : Nat} {A : Option Addr} {n c : Nat} {t : List Bs} (h : OwnT w base (.slice A n c) t) : n = t.length ∧ t.length ≤ c ∧ kBs.C w A t.length t := by
  rcases h.2 with ⟨hv, h0⟩ | ⟨g, cap, cur, hv, _, hg, hc, hm, hs, ht⟩
  · cases hv
    have : t = [] := List.eq_nil_of_length_eq_zero h0
    subst this
    exact ⟨rfl, by omega, ⟨rfl, by simp, fun h => absurd h (by simp)⟩⟩
  · cases hv
    refine ⟨rfl, hc, C_of (by simp only [maxLen] at hm; omega) fun k x hx => ?_⟩
    rw [add_blk]
    have hk : k < t.length := (List.getElem?_eq_some_iff.1 hx).1
    have h1 : (cur.toList.take (t.length * 1))[k]? = (t.map bsVal)[k]? := by rw [ht]
    rw [List.getElem?_take_of_lt (by omega), Array.getElem?_toList] at h1
    simp only [World.cell?, hg]
    rw [h1, List.getElem?_map, hx]
    rfl
theorem OwnT.blk {w w' : World} {base : Nat} {v : Value} {t : List Bs} (h : OwnT w base v t) (hr : ∀ k, v.ownBlock = some k → w'.heap[k]? = w.heap[k]?) : OwnT w' base v t := by
  refine ⟨h.1, ?_⟩
  rcases h.2 with h0 | ⟨g, cap, cur, rfl, hb, hg', r⟩
  · exact .inl h0
  · exact .inr ⟨g, cap, cur, rfl, hb, (hr g rfl).trans hg', r⟩
theorem OwnT.lt {w : World} {base : Nat} {v : Value} {t : List Bs} (h : OwnT w base v t) : ∀ k, v.ownBlock = some k → base ≤ k ∧ k < w.heap.size := World.ownsRow.lt h
theorem OwnT.app1 {w : World} {base : Nat} {v : Value} {t : List Bs} (h : OwnT w base v t) (ty : TypeId) (ad : Addr) (x : Bs) (hx : w.cell? ad = some (bsVal x)) (hn : t.length ≤ 100000) (hb : base ≤ w.heap.size) :
    ∃ v' w', (Builtin.append_ #[31, 31] ty #[v, .slice (some ad) 1 1]).run Tryz.prog w = .ok v' w' ∧ OwnT w' base v' (t ++ [x]) ∧ w.grownBy w' v.ownBlock ∧ (∀ k, v'.ownBlock = some k → v.ownBlock = some k ∨ w.heap.size ≤ k) := by
  obtain ⟨i, hi, hz, hs, hby⟩ := info_str
  obtain ⟨v', w', h1', h2, h3, h4, h5⟩ := run_append_own_at (P := Tryz.prog) w base 31 ty 9 i _ 1 16 Tryz.underlying31 hi hz hs hby rfl (by omega) v t.length (t.map bsVal) h ad 1 1 [bsVal x] rfl
    (fun j u hj => by
      cases j with
      | zero => simp at hj; subst hj; exact hx
      | succ j => simp at hj)
    (fun u hu => by simp only [List.mem_cons, List.not_mem_nil, or_false] at hu; subst hu; rfl)
    (by unfold maxLen; omega) (by omega) hb
  refine ⟨v', w', h1', ?_, h3, fun k hk => ?_⟩
  · unfold OwnT; rw [List.length_append, List.length_singleton, List.map_append]; exact h2
  · rcases h5 with h5 | h5
    · exact .inl (h5 ▸ hk)
    · rw [h5] at hk; cases hk; exact .inr (Nat.le_refl _)
theorem GrT {B : Nat} {w w' : World} {v v' : Value} {l : List Bs} (h : OwnT w B v l) (hB : B ≤ w.heap.size) (hg : w.grownBy w' v.ownBlock) (hl : ∀ k, v'.ownBlock = some k → v.ownBlock = some k ∨ w.heap.size ≤ k) : Gr B w w' v v' :=
  ⟨(Below.refl B w).grown hg hB (fun k e => (h.lt k e).1), fun k hk hn => hg.block k hk (fun e => hn e.symm), hl⟩
end Go.Proofs.YtbkjjapeojclpaaGreatDoor
