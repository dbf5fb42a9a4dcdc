/- A map with texts as keys that the call itself has made, its elements encoded by an injective function: what a look-up and a store do to it. -/
import Derived.Test.YtbkjjapeojclpaaGreatDoorKinds
import Derived.Maps.Own
import Derived.Maps.OwnOps
import Derived.Maps.Views
namespace Go.Proofs.YtbkjjapeojclpaaGreatDoor
set_option linter.unusedVariables false
set_option linter.unusedSimpArgs false
open Go.RowKit Go.Maps Go.Proofs.YtbkjjapeojclpaaGreatDoorW.PrintWords Go.WideMaps

section
variable {α : Type}
/-- How an element reads: as the token x, where its value is 'enc x'. -/
noncomputable def encR (enc : α → Value) (v : Value) : Option (DataW α × List MemPlace) := by
  classical exact if h : ∃ x, enc x = v then some (.held h.choose, []) else none
theorem encR_of {enc : α → Value} (hi : ∀ x y, enc x = enc y → x = y) (x : α) : encR enc (enc x) = some (.held x, []) := by
  unfold encR
  have h : ∃ y, enc y = enc x := ⟨x, rfl⟩
  rw [dif_pos h]
  rw [hi _ _ h.choose_spec]
theorem encR_inv {enc : α → Value} {v : Value} {d : DataW α} {ps : List MemPlace} (h : encR enc v = some (d, ps)) : ∃ x, v = enc x ∧ d = .held x := by
  unfold encR at h
  split at h
  · rename_i hx
    simp only [Option.some.injEq, Prod.mk.injEq] at h
    exact ⟨hx.choose, hx.choose_spec.symm, h.1.symm⟩
  · cases h

/-- Block b is a map of at most n entries that holds just what f tells. -/
def MapIs (w : World) (k : TypeId) (enc : α → Value) (b n : Nat) (f : Bs → Option α) : Prop :=
  ∃ D : DataW α, w.ownsMap Tryz.prog k (encR enc) b n D ∧ IsMap D ∧ ∀ s : Bs, ∀ z, D.atKey (.string s) z = match f s with | some x => .held x | none => z
theorem MapIs.made (w : World) (k : TypeId) (enc : α → Value) : MapIs (w.alloc (.map #[] 0)) k enc w.heap.size 0 (fun _ => none) :=
  ⟨.map [], World.ownsMap_made w Tryz.prog k (encR enc), isMap_empty, fun _ _ => rfl⟩
theorem MapIs.lt {w : World} {k : TypeId} {enc : α → Value} {b n : Nat} {f : Bs → Option α} (h : MapIs w k enc b n f) : b < w.heap.size := by
  obtain ⟨D, h, _⟩ := h
  exact h.lt
theorem MapIs.blk {w w' : World} {k : TypeId} {enc : α → Value} {b n : Nat} {f : Bs → Option α} (h : MapIs w k enc b n f) (hb : w'.heap[b]? = w.heap[b]?) : MapIs w' k enc b n f := by
  obtain ⟨D, ⟨es, cl, h1, h2⟩, h3⟩ := h
  exact ⟨D, ⟨es, cl, hb.trans h1, h2⟩, h3⟩
theorem MapIs.below {w w' : World} {k : TypeId} {enc : α → Value} {b n : Nat} {f : Bs → Option α} (h : MapIs w k enc b n f) (hb : Below w.heap.size w w') : MapIs w' k enc b n f := h.blk (hb.block b h.lt)

/-- 'm[s]': the element, or the zero value. -/
theorem MapIs.look {w : World} {t k e : TypeId} {enc : α → Value} {b n : Nat} {f : Bs → Option α} (h : MapIs w k enc b n f) (hi : ∀ x y, enc x = enc y → x = y) (hk : Tryz.prog.underlying k = some .string)
    (ht : Tryz.prog.underlying t = some (.map k e)) {z : α} (hz : (zeroValue e).run Tryz.prog w = .ok (enc z) w) (s : ByteArray) (hs : s.size ≤ maxLen) :
    (Instr.lookup t (.map (some b)) (.string s) false).run Tryz.prog w = .ok (enc ((f s.data.toList).getD z)) w := by
  obtain ⟨D, hown, _, hf⟩ := h
  obtain ⟨v, ps, hrun, hv⟩ := hown.lookup (string_keyed hk) ht hz (encR_of hi z) (kl := .string s.data.toList) (keyOf_string_mk hk hs)
  rw [hf] at hv
  rw [hrun]
  obtain ⟨x, rfl, hx⟩ := encR_inv hv
  cases hfs : f s.data.toList with
  | none => rw [hfs] at hx; have hx' : (DataW.held z : DataW α) = .held x := hx; obtain rfl := DataW.held.inj hx'; rw [Option.getD_none]
  | some y => rw [hfs] at hx; have hx' : (DataW.held y : DataW α) = .held x := hx; obtain rfl := DataW.held.inj hx'; rw [Option.getD_some]
/-- 'v, ok := m[s]'. -/
theorem MapIs.look2 {w : World} {t k e : TypeId} {enc : α → Value} {b n : Nat} {f : Bs → Option α} (h : MapIs w k enc b n f) (hi : ∀ x y, enc x = enc y → x = y) (hk : Tryz.prog.underlying k = some .string)
    (ht : Tryz.prog.underlying t = some (.map k e)) {z : α} (hz : (zeroValue e).run Tryz.prog w = .ok (enc z) w) (s : ByteArray) (hs : s.size ≤ maxLen) :
    (Instr.lookup t (.map (some b)) (.string s) true).run Tryz.prog w = .ok (.tuple #[enc ((f s.data.toList).getD z), .bool (f s.data.toList).isSome]) w := by
  obtain ⟨D, ⟨es, cl, hb, F, _, rfl⟩, _, hf⟩ := h
  have hkey : keyOf Tryz.prog k (.string s) = some (.string s.data.toList) := keyOf_string_mk hk hs
  rcases Maps.fit_look true (string_keyed hk) ht hz hb F hkey with ⟨hrun, _, hat⟩ | ⟨e0, y, _, _, hrun, hRv, hat, _⟩
  · rw [hrun]
    have h1 := hf s.data.toList
    cases hfs : f s.data.toList with
    | none => rw [if_pos rfl, Option.getD_none, Option.isSome_none]
    | some x =>
      have h2 := h1 .nil
      rw [hat, hfs] at h2
      cases h2
  · rw [hrun]
    obtain ⟨d, ps⟩ := y
    obtain ⟨x, hx, rfl⟩ := encR_inv hRv
    have h1 := hf s.data.toList .nil
    rw [hat] at h1
    cases hfs : f s.data.toList with
    | none => rw [hfs] at h1; cases h1
    | some x' => rw [hfs] at h1; have h1' : (DataW.held x : DataW α) = .held x' := h1; obtain rfl := DataW.held.inj h1'; rw [if_pos rfl, hx, Option.getD_some, Option.isSome_some]
/-- 'm[s] = x'. -/
theorem MapIs.put {w : World} {t k e : TypeId} {enc : α → Value} {b n : Nat} {f : Bs → Option α} (h : MapIs w k enc b n f) (hi : ∀ x y, enc x = enc y → x = y) (hk : Tryz.prog.underlying k = some .string)
    (ht : Tryz.prog.underlying t = some (.map k e)) (hn : n < maxLen) (s : ByteArray) (hs : s.size ≤ maxLen) (x : α) :
    ∃ w', (Instr.mapUpdate t (.map (some b)) (.string s) (enc x)).run Tryz.prog w = .ok () w' ∧ MapIs w' k enc b (n + 1) (fun q => if q = s.data.toList then some x else f q) ∧ w.grownBy w' (some b) := by
  obtain ⟨D, hown, hD, hf⟩ := h
  obtain ⟨w', hrun, hown', hg⟩ := hown.update (string_keyed hk) ht hn (kl := .string s.data.toList) (keyOf_string_mk hk hs) (encR_of hi x)
  refine ⟨w', hrun, ⟨_, hown', hD.put _ _, fun q z => ?_⟩, hg⟩
  by_cases hq : q = s.data.toList
  · subst hq
    simp only [if_pos]
    rw [atKey_put_same hD (by trivial)]
  · simp only [if_neg hq]
    rw [atKey_put_other (by simpa using hq), hf]
end
end Go.Proofs.YtbkjjapeojclpaaGreatDoor
