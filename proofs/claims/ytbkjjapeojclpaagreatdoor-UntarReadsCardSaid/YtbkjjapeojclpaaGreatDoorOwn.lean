/- Slices of bytes that the call owns, and what append does to them. -/
import Derived.Test.YtbkjjapeojclpaaGreatDoorBytes
import Derived.Lib.AppendStr
import Derived.Lib.AppendZerosOnto
import Derived.Laws.OwnMore
import Derived.Maps.AppendAt
import Derived.Deep.AppendSrc
namespace Go.Proofs.YtbkjjapeojclpaaGreatDoor
set_option linter.unusedVariables false
set_option linter.unusedSimpArgs false
open Go.RowKit Go.Proofs.YtbkjjapeojclpaaGreatDoorW.PrintWords

def OwnB (w : World) (base : Nat) (v : Value) (l : Bs) : Prop := w.ownsRow base 5 1 v l.length (l.map bval)
theorem info_byte : ∃ i, Tryz.prog.info? 5 = some i ∧ i.zero = some (.int .u8 0) ∧ i.size = 1 ∧ i.bytes = 1 := by
  have h : (Tryz.prog.info? 5).map (fun i => (i.zero, i.size, i.bytes)) = some (some (.int .u8 0), 1, 1) := by kernel_rfl
  cases hi : Tryz.prog.info? 5 with
  | none => rw [hi] at h; cases h
  | some i =>
    rw [hi] at h
    simp only [Option.map_some, Option.some.injEq, Prod.mk.injEq] at h
    exact ⟨i, rfl, h.1, h.2.1, h.2.2⟩
theorem OwnB.nil (w : World) (base : Nat) : OwnB w base (.slice none 0 0) [] := World.ownsRow_nil w base _ 1
theorem OwnB.slice {w : World} {base : Nat} {v : Value} {l : Bs} (h : OwnB w base v l) : ∃ A c, v = .slice A l.length c ∧ l.length ≤ c := by
  rcases h.2 with ⟨rfl, h0⟩ | ⟨g, cap, cur, rfl, _, _, hc, _⟩
  · exact ⟨none, 0, by rw [h0], by omega⟩
  · exact ⟨_, cap, rfl, hc⟩
theorem OwnB.form {w : World} {base : Nat} {v : Value} {l : Bs} (h : OwnB w base v l) : ∃ A n c, v = .slice A n c := by
  obtain ⟨A, c, h, _⟩ := h.slice
  exact ⟨A, _, c, h⟩
theorem OwnB.C {w : World} {base : Nat} {A : Option Addr} {n c : Nat} {l : Bs} (h : OwnB w base (.slice A n c) l) : n = l.length ∧ l.length ≤ c ∧ kByte.C w A l.length l := by
  rcases h.2 with ⟨hv, h0⟩ | ⟨g, cap, cur, hv, _, hg, hc, hm, hs, ht⟩
  · cases hv
    have : l = [] := List.eq_nil_of_length_eq_zero h0
    subst this
    exact ⟨rfl, by omega, ⟨rfl, by simp, fun h => absurd h (by simp)⟩⟩
  · cases hv
    refine ⟨rfl, hc, C_of (by simp only [maxLen] at hm; omega) fun k x hx => ?_⟩
    rw [add_blk]
    have hk : k < l.length := (List.getElem?_eq_some_iff.1 hx).1
    have h1 : (cur.toList.take (l.length * 1))[k]? = (l.map bval)[k]? := by rw [ht]
    rw [List.getElem?_take_of_lt (by omega), Array.getElem?_toList] at h1
    simp only [World.cell?, hg]
    rw [h1, List.getElem?_map, hx]
    rfl
theorem OwnB.kept {w w' : World} {base : Nat} {v : Value} {l : Bs} {row : Option Nat} (h : OwnB w base v l) (hg : w.grownBy w' row) (hr : ∀ k, v.ownBlock = some k → some k ≠ row) : OwnB w' base v l := by
  refine ⟨h.1, ?_⟩
  rcases h.2 with h0 | ⟨g, cap, cur, rfl, hb, hg', r⟩
  · exact .inl h0
  · refine .inr ⟨g, cap, cur, rfl, hb, ?_, r⟩
    rw [hg.block g (Array.getElem?_eq_some_iff.1 hg').1 (hr g rfl)]
    exact hg'
theorem OwnB.blk {w w' : World} {base : Nat} {v : Value} {l : Bs} (h : OwnB w base v l) (hr : ∀ k, v.ownBlock = some k → w'.heap[k]? = w.heap[k]?) : OwnB w' base v l := by
  refine ⟨h.1, ?_⟩
  rcases h.2 with h0 | ⟨g, cap, cur, rfl, hb, hg', r⟩
  · exact .inl h0
  · exact .inr ⟨g, cap, cur, rfl, hb, (hr g rfl).trans hg', r⟩
theorem OwnB.lt {w : World} {base : Nat} {v : Value} {l : Bs} (h : OwnB w base v l) : ∀ k, v.ownBlock = some k → base ≤ k ∧ k < w.heap.size := World.ownsRow.lt h

/-- What an append comes to, by its two runs: there is room, or there is none. -/
theorem OwnB.of {w : World} {base : Nat} {v : Value} {l : Bs} (h : OwnB w base v l) (xs : Bs) (R : Result Value) (hn : l.length + xs.length ≤ 140737488355328) (hb : base ≤ w.heap.size)
    (hnil : v = .slice none 0 0 → l = [] → xs = [] → R = .ok (.slice none 0 0) w)
    (hroom : ∀ g cap cur, v = .slice (some ⟨g, 0, none⟩) l.length cap → w.heap[g]? = some (.cells cur 5 (0, 0)) → l.length + xs.length ≤ cap → l.length + xs.length ≤ cur.size →
      R = .ok (.slice (some ⟨g, 0, none⟩) (l.length + xs.length) cap) (w.setRow g (cur.toList.take l.length ++ (xs.map bval) ++ cur.toList.drop (l.length + xs.length)).toArray))
    (hgrow : ∀ A cap, v = .slice A l.length cap → (∀ W : World, W.heap = w.heap → (Builtin.firstCells 1 l.length v).run Tryz.prog W = .ok (l.map bval).toArray W) → cap < l.length + xs.length →
      R = .ok (.slice (some ⟨w.heap.size, 0, none⟩) (l.length + xs.length) (grownCap w (l.length + xs.length) cap 5))
        (w.drew.alloc (.cells (((l ++ xs).map bval).toArray ++ Builtin.zeroCells (Value.int .u8 0).cells (grownCap w (l.length + xs.length) cap 5 - (l.length + xs.length))) 5))) :
    ∃ v' w', R = .ok v' w' ∧ OwnB w' base v' (l ++ xs) ∧ w.grownBy w' v.ownBlock ∧ (∀ k, v'.ownBlock = some k → v.ownBlock = some k ∨ w.heap.size ≤ k) := by
  have hlen : ((l ++ xs).map bval).length = (l ++ xs).length * 1 := by simp
  have h63 : l.length + xs.length ≤ maxLen := by unfold maxLen; omega
  have hle : (l ++ xs).length = l.length + xs.length := by simp
  have grown : ∀ cap, cap < l.length + xs.length → ∀ row,
      OwnB (w.drew.alloc (.cells (((l ++ xs).map bval).toArray ++ Builtin.zeroCells (Value.int .u8 0).cells (grownCap w (l.length + xs.length) cap 5 - (l.length + xs.length))) 5)) base
        (.slice (some ⟨w.heap.size, 0, none⟩) (l.length + xs.length) (grownCap w (l.length + xs.length) cap 5)) (l ++ xs) ∧
      w.grownBy (w.drew.alloc (.cells (((l ++ xs).map bval).toArray ++ Builtin.zeroCells (Value.int .u8 0).cells (grownCap w (l.length + xs.length) cap 5 - (l.length + xs.length))) 5)) row := by
    intro cap hc row
    have hge := grownCap_ge w (l.length + xs.length) cap 5
    have hcm := grownCap_le_maxLen w (l.length + xs.length) cap 5 h63
    have hz1 : (Value.int IntKind.u8 0).cells.size = 1 := rfl
    refine ⟨⟨hlen, .inr ⟨w.heap.size, _, _, by rw [hle], hb, heap_alloc_new w.drew _, by rw [hle]; exact hge, hcm, ?_, ?_⟩⟩, ⟨rfl, rfl, rfl, by simp, fun k hk _ => by simp only [World.alloc]; rw [Array.getElem?_push_lt (by exact hk)]; exact (Array.getElem?_eq_getElem (by exact hk)).symm⟩⟩
    · simp only [Array.size_append, List.size_toArray, size_zeroCells, hz1, List.length_map, hle]
      omega
    · rw [Array.toList_append, ← hlen]
      exact List.take_left
  rcases h.2 with ⟨rfl, h0⟩ | ⟨g, cap, cur, rfl, hbg, hg, hnc, hcm, hcs, htake⟩
  · obtain rfl : l = [] := List.eq_nil_of_length_eq_zero h0
    by_cases hx : xs = []
    · subst hx
      exact ⟨_, _, hnil rfl rfl rfl, OwnB.nil w base, ⟨rfl, rfl, rfl, Nat.le_refl _, fun _ _ _ => rfl⟩, fun k hk => by cases hk⟩
    · have hx0 : 0 < xs.length := List.length_pos_iff.2 hx
      have hr := hgrow none 0 rfl (fun W _ => by simp [Builtin.firstCells]) (by simp; omega)
      have hgr := grown 0 (by simp; omega) (Value.ownBlock (.slice none 0 0))
      exact ⟨_, _, hr, hgr.1, hgr.2, fun k hk => .inr (by simp only [Value.ownBlock, Option.some.injEq] at hk; omega)⟩
  · by_cases hr : l.length + xs.length ≤ cap
    · have hcs' : cur.size = cap := by simpa using hcs
      refine ⟨_, _, hroom g cap cur rfl hg hr (by omega), ⟨hlen, .inr ⟨g, cap, _, by rw [hle], hbg, setRow_heap w g cur _ _ _ hg, by rw [hle]; exact hr, hcm, ?_, ?_⟩⟩, ⟨rfl, rfl, rfl, by simp, fun k _ hk => setRow_other w g k _ (fun e => hk (by simp [Value.ownBlock, e]))⟩, fun k hk => .inl hk⟩
      · simp only [List.size_toArray, List.length_append, List.length_take, List.length_drop, Array.length_toList, List.length_map]
        omega
      · have ht' : cur.toList.take l.length = l.map bval := by simpa using htake
        rw [ht', ← hlen, ← List.map_append]
        exact List.take_left
    · have hh := h
      have hgr := grown cap (by omega) (Value.ownBlock (.slice (some ⟨g, 0, none⟩) l.length cap))
      refine ⟨_, _, hgrow (some ⟨g, 0, none⟩) cap rfl (fun W hW => ?_) (by omega), hgr.1, hgr.2, fun k hk => .inr (by simp only [Value.ownBlock, Option.some.injEq] at hk; omega)⟩
      refine run_firstCells_some (P := Tryz.prog) W 1 l.length ⟨g, 0, none⟩ l.length cap (l.map bval) (by simp) fun j u hj => ?_
      have h1 : (cur.toList.take (l.length * 1))[j]? = (l.map bval)[j]? := by rw [htake]
      have hjl : j < l.length := by have := (List.getElem?_eq_some_iff.1 hj).1; simpa using this
      rw [List.getElem?_take_of_lt (by omega), Array.getElem?_toList, hj] at h1
      rw [add_blk]
      simp only [World.cell?, hW, hg]
      exact h1

theorem OwnB.app {w : World} {base : Nat} {v : Value} {l : Bs} (h : OwnB w base v l) (ty : TypeId) (ad : Addr) (m c : Nat) (xs : Bs) (hx : kByte.C w (some ad) m xs) (hn : l.length + xs.length ≤ 140737488355328) (hb : base ≤ w.heap.size) :
    ∃ v' w', (Builtin.append_ #[22, 22] ty #[v, .slice (some ad) m c]).run Tryz.prog w = .ok v' w' ∧ OwnB w' base v' (l ++ xs) ∧ w.grownBy w' v.ownBlock ∧ (∀ k, v'.ownBlock = some k → v.ownBlock = some k ∨ w.heap.size ≤ k) := by
  obtain ⟨i, hi, hz, hs, hby⟩ := info_byte
  have hl := C_len hx
  subst hl
  have hnews : ∀ j u, (xs.map bval)[j]? = some u → w.cell? (ad.add j) = some u := fun j u hj => by
    have hjl : j < xs.length := by have := (List.getElem?_eq_some_iff.1 hj).1; simpa using this
    obtain ⟨ad', e, hc⟩ := at_byte hx j hjl
    cases e
    rw [hc, ← hj, List.getElem?_map, List.getD_eq_getElem?_getD, List.getElem?_eq_getElem hjl]
    rfl
  have h1 : ∀ u ∈ xs.map bval, u.oneCell' = true := fun u hu => by
    obtain ⟨_, _, rfl⟩ := List.mem_map.1 hu
    rfl
  obtain ⟨v', w', h1', h2, h3, h4, h5⟩ := run_append_own_at (P := Tryz.prog) w base 22 ty 5 i (.int .u8 0) 1 1 Tryz.underlying22 hi hz hs hby rfl (by omega) v l.length (l.map bval) h ad xs.length c (xs.map bval) (by simp) hnews h1
    (by unfold maxLen; omega) (by omega) hb
  refine ⟨v', w', h1', ?_, h3, fun k hk => ?_⟩
  · unfold OwnB; rw [List.length_append, List.map_append]; exact h2
  · rcases h5 with h5 | h5
    · exact .inl (h5 ▸ hk)
    · rw [h5] at hk; cases hk; exact .inr (Nat.le_refl _)
theorem OwnB.appS {w : World} {base : Nat} {v : Value} {l : Bs} (h : OwnB w base v l) (ty : TypeId) (s : ByteArray) (hn : l.length + s.size ≤ 140737488355328) (hb : base ≤ w.heap.size) :
    ∃ v' w', (Builtin.append_ #[22, 9] ty #[v, .string s]).run Tryz.prog w = .ok v' w' ∧ OwnB w' base v' (l ++ s.data.toList) ∧ w.grownBy w' v.ownBlock ∧ (∀ k, v'.ownBlock = some k → v.ownBlock = some k ∨ w.heap.size ≤ k) := by
  obtain ⟨i, hi, hz, hs, hby⟩ := info_byte
  have hsz := Lib.size_eq s
  have hcells : Lib.strCells s = s.data.toList.map bval := rfl
  refine h.of s.data.toList _ (by omega) hb ?_ ?_ ?_
  · rintro rfl rfl he
    have h0 : s.size = 0 := by rw [hsz, he]; rfl
    have hf := Lib.run_firstCells_string (P := Tryz.prog) w 1 s
    rw [h0, hcells, he] at hf
    simp [Builtin.append_, run_underlying Tryz.underlying22, run_underlying Tryz.underlying9, sizeOf, typeInfo, hi, hs, Builtin.lenOf, h0, hf]
  · rintro g cap cur rfl hg hr hc
    have := Lib.run_append_room_string (P := Tryz.prog) w 22 9 ty 5 i Tryz.underlying22 Tryz.underlying9 hi hs g l.length cap cur hg s (by omega) (by omega)
    rw [this, ← hsz, hcells]
  · rintro A cap rfl hf hlt
    have := run_append_grow_src (P := Tryz.prog) w 22 9 ty 5 i _ Tryz.underlying22 hi hz A l.length cap (l.map bval) (by rw [hs]; exact hf _ rfl) (.string s) s.size _ (by rw [hs]; exact Src.ofString w Tryz.underlying9 s) (by omega) (by omega)
      (by rw [hby]; exact growslice_fits (by omega) (by omega))
    rw [this, ← hsz, List.map_append]
    rfl
theorem OwnB.appZ {w : World} {base : Nat} {v : Value} {l : Bs} (h : OwnB w base v l) (ty : TypeId) (k : Nat) (hn : l.length + k ≤ 140737488355328) (hb : base ≤ w.heap.size) :
    ∃ v' w', (Builtin.append_ #[22, 3] ty #[v, .int .i64 k]).run Tryz.prog w = .ok v' w' ∧ OwnB w' base v' (l ++ rep 0 k) ∧ w.grownBy w' v.ownBlock ∧ (∀ k, v'.ownBlock = some k → v.ownBlock = some k ∨ w.heap.size ≤ k) := by
  obtain ⟨i, hi, hz, hs, hby⟩ := info_byte
  have hk : (rep 0 k).length = k := by simp [rep]
  have hw : IntKind.i64.wrap (k : Int) = k := by rw [IntKind.wrap_i64]; omega
  have hneg : ¬ ((k : Int) < 0) := by omega
  have h48 : ¬ (281474976710656 < (k : Int) * (i.bytes : Int)) := by rw [hby]; omega
  have hzc : Builtin.zeroCells (Value.int .u8 0).cells k = ((rep 0 k).map bval).toArray := by
    apply Array.ext
    · rw [size_zeroCells, show (Value.int IntKind.u8 0).cells.size = 1 from rfl]; simp [rep]
    · intro j h1 h2
      have e : (Value.int IntKind.u8 0).cells = #[.int .u8 0] := rfl
      simp [Builtin.zeroCells, rep, bval, e, Nat.mod_one]
  refine h.of (rep 0 k) _ (by rw [hk]; omega) hb ?_ ?_ ?_
  · rintro rfl rfl he
    have h0 : k = 0 := by rw [he] at hk; exact hk.symm
    subst h0
    have hw0 : IntKind.i64.wrap 0 = 0 := by decide
    simp [Builtin.append_, run_underlying Tryz.underlying22, run_underlying Tryz.underlying3, sizeOf, typeInfo, hi, hs, asInt, asIntOf, hw0]
  · rintro g cap cur rfl hg hr hc
    rw [hk] at hr hc ⊢
    have hst := run_storeCells_at Tryz.prog g l.length 5 ((rep 0 k).map bval) 0 cur w hg (by rw [List.length_map, hk]; omega) (by intro u hu; obtain ⟨_, _, rfl⟩ := List.mem_map.1 hu; rfl)
    simp only [Nat.add_zero, List.length_map, hk] at hst
    by_cases h0 : k = 0
    · subst h0
      have hw0 : IntKind.i64.wrap 0 = 0 := by decide
      have hr0 : l.length ≤ cap := hr
      have hs0 := setRow_self w g cur 5 (0, 0) hg
      simp [Builtin.append_, run_underlying Tryz.underlying22, run_underlying Tryz.underlying3, sizeOf, typeInfo, hi, hs, asInt, asIntOf, hw0, hr0, Addr.add_lit, storeCells, rep, hs0]
    · simp [Builtin.append_, run_underlying Tryz.underlying22, run_underlying Tryz.underlying3, sizeOf, typeInfo, zeroValue, hi, hz, hs, asInt, asIntOf, hw, hneg, h48, h0, hr, Addr.add_lit, hzc, hst]
  · rintro A cap rfl hf hlt
    rw [hk] at hlt ⊢
    have := Lib.run_append_grow_zeros (P := Tryz.prog) w 22 3 ty 5 i _ .i64 _ Tryz.underlying22 Tryz.underlying3 hi hz A l.length cap (l.map bval) (by rw [hs]; exact hf _ rfl) k (by have := h.C; omega) (by omega) (by omega) (by omega) (by rw [hby]; omega)
      (by rw [hby]; exact growslice_fits (by omega) (by omega))
    rw [this, hzc, List.map_append]
    simp
/-- From w to w' nothing turned but the row that v owns; v' owns that row or a new one. -/
structure Gr (B : Nat) (w w' : World) (v v' : Value) : Prop where
  below : Below B w w'
  fr : ∀ k, k < w.heap.size → v.ownBlock ≠ some k → w'.heap[k]? = w.heap[k]?
  own : ∀ k, v'.ownBlock = some k → v.ownBlock = some k ∨ w.heap.size ≤ k
theorem Gr.of {B : Nat} {w w' : World} {v v' : Value} {l : Bs} (h : OwnB w B v l) (hB : B ≤ w.heap.size) (hg : w.grownBy w' v.ownBlock) (hl : ∀ k, v'.ownBlock = some k → v.ownBlock = some k ∨ w.heap.size ≤ k) : Gr B w w' v v' :=
  ⟨(Below.refl B w).grown hg hB (fun k e => (h.lt k e).1), fun k hk hn => hg.block k hk (fun e => hn e.symm), hl⟩
theorem Gr.trans {B : Nat} {w w1 w2 : World} {v v1 v2 : Value} (h1 : Gr B w w1 v v1) (h2 : Gr B w1 w2 v1 v2) : Gr B w w2 v v2 :=
  ⟨h1.below.trans h2.below, fun k hk hn => (h2.fr k (Nat.lt_of_lt_of_le hk h1.below.size) (fun e => (h1.own k e).elim hn (fun h => by omega))).trans (h1.fr k hk hn),
    fun k hk => (h2.own k hk).elim (h1.own k) (fun h => .inr (Nat.le_trans h1.below.size h))⟩
end Go.Proofs.YtbkjjapeojclpaaGreatDoor
