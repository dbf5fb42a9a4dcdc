/- untar: node, ended. -/
import Derived.Test.YtbkjjapeojclpaaGreatDoorUntar
namespace Go.Proofs.YtbkjjapeojclpaaGreatDoor
set_option linter.unusedVariables false
set_option linter.unusedSimpArgs false
open Go.RowKit Go.Proofs.YtbkjjapeojclpaaGreatDoorW.PrintWords
set_option maxHeartbeats 400000
set_option maxRecDepth 100000

/-- An entry none of whose texts is longer. -/
structure EntB (m : Nat) (x : Ent) : Prop where
  name : x.name.length ≤ m
  link : x.link.length ≤ m
  data : x.data.length ≤ m
theorem headRd_le (b : Bs) : (headRd b).name.length ≤ 512 ∧ (headRd b).link.length ≤ 512 := by
  unfold headRd
  split
  · refine ⟨?_, ?_⟩
    · exact Nat.le_trans (cut1_le _ _) (by rw [List.length_take]; omega)
    · exact Nat.le_trans (cut1_le _ _) (by rw [List.length_drop, List.length_take]; omega)
  · simp
theorem entryF_b (s : St) (h : s.l.length ≤ 4000000) : EntB 4000000 (entryF s).1 ∧ (entryF s).2.l.length ≤ s.l.length := by
  have h1 := headRd_le (takeF s 512).1
  have h2 := takeF_len s 512
  have h3 := takeF_len ⟨(takeF s 512).2.l, (takeF s 512).2.bad || !(headRd (takeF s 512).1).ok⟩ (headRd (takeF s 512).1).n
  have h4 := takeF_len (takeF ⟨(takeF s 512).2.l, (takeF s 512).2.bad || !(headRd (takeF s 512).1).ok⟩ (headRd (takeF s 512).1).n).2 (padOf (headRd (takeF s 512).1).n)
  simp only at h3
  exact ⟨⟨Nat.le_trans h1.1 (by omega), Nat.le_trans h1.2 (by omega), Nat.le_trans h3.1 (by omega)⟩, Nat.le_trans h4.2 (Nat.le_trans h3.2 h2.2)⟩
theorem rcF_le (x : Bs) : (rcF x).value.length ≤ x.length ∧ (rcF x).rest.length ≤ x.length := by
  unfold rcF
  split
  · refine ⟨?_, by rw [List.length_drop]; omega⟩
    unfold Lib.trimSuffix
    have h1 := cut2_le 61 (rcSeg x (atoiN (cut1 32 x)).toNat)
    have h2 : (rcSeg x (atoiN (cut1 32 x)).toNat).length ≤ x.length := by unfold rcSeg; rw [List.length_take, List.length_drop]; omega
    split
    · simp only [List.length_take]; omega
    · simp only; omega
  · simp
theorem toldF_b (m : Nat) (s : St) (x : Ent) (e : Bs) (hx : EntB m x) (he : e.length ≤ m) : EntB m (toldF s x e).1 ∧ (toldF s x e).2.l = s.l := by
  induction hn : e.length using Nat.strongRecOn generalizing x e with
  | _ n ih =>
    by_cases h0 : e = []
    · subst h0; rw [toldF_nil]; exact ⟨hx, rfl⟩
    · cases hb : (rcF e).ok with
      | false => rw [toldF_bad s x e h0 hb]; exact ⟨hx, rfl⟩
      | true =>
        rw [toldF_ok s x e h0 hb]
        have h1 := rcF_le e
        refine ih _ (by rw [← hn]; exact rcF_lt e hb) _ _ ?_ (by omega) rfl
        unfold putRec
        split
        · exact ⟨by simp only; omega, hx.link, hx.data⟩
        · exact ⟨hx.name, by simp only; omega, hx.data⟩
def nodeR (s : St) : Ent × St := if (entryF s).1.kind = 5 then toldF (entryF (entryF s).2).2 (entryF (entryF s).2).1 (entryF s).1.data else entryF s
def nodeNd (x : Ent) : Nd := ⟨if x.name = [46] then [] else x.name, x.kind, x.data ++ x.link⟩
def nodeF (s : St) : Nd × St := (nodeNd (nodeR s).1, (nodeR s).2)
theorem nodeR_b (s : St) (h : s.l.length ≤ 4000000) : EntB 4000000 (nodeR s).1 ∧ (nodeR s).2.l.length ≤ s.l.length := by
  have h1 := entryF_b s h
  have h2 := entryF_b (entryF s).2 (by omega)
  unfold nodeR
  split
  · have h3 := toldF_b 4000000 (entryF (entryF s).2).2 (entryF (entryF s).2).1 (entryF s).1.data h2.1 h1.1.data
    exact ⟨h3.1, by rw [h3.2]; omega⟩
  · exact h1
def NodePost (w0 w : World) (R : Nat) (x : Nd) (s : St) (e : Ending) (w' : World) : Prop := e = .returned x.val ∧ Rd w0 w' R s ∧ But R w w'
/-- What stands while a node is read. -/
structure Nl (w0 w wr : World) (R B : Nat) (s : St) (y : Ent) : Prop where
  rd : Rd w0 wr R s
  but : But R w wr
  bx : wr.heap[B]? = some (.cells y.cells 67 (0, 0))
  bn : wr.heap[w.heap.size]? = some (.cells #[.string ⟨#[]⟩, .int .i64 0, .string ⟨#[]⟩] 38 (0, 0))
  lt : w.heap.size < B
theorem Nl.dot {w0 w wr : World} {R B : Nat} {s : St} {y : Ent} (h : Nl w0 w wr R B s y) (hRl : R < w.heap.size) : Nl w0 w (wr.setCell ⟨B, 0, none⟩ (.string ⟨#[]⟩)) R B s { y with name := [] } := by
  have hlt := h.lt
  have hle : w0.heap.size ≤ B := by have := h.rd.lo; omega
  refine ⟨h.rd.keep (Below.heap_setCell _ _ _ _ (by simp; omega)) (h.rd.below.setCell hle _), ⟨by simp only [World.setCell, Array.size_modify]; exact h.but.size, fun k hk hR => ?_⟩, ?_, ?_, hlt⟩
  · rw [Below.heap_setCell _ _ _ _ (by simp; omega), h.but.blk k hk hR]
  · rw [blk_set h.bx]; rfl
  · rw [Below.heap_setCell _ _ _ _ (by simp; omega)]; exact h.bn
theorem nl_set {w0 w w1 w4 : World} {R B : Nat} {s s' : St} {y x : Ent} (h : Nl w0 w w1 R B s x) (hB : But R w1 w4) (hR : Rd w0 w4 R s') (hx : w4.heap[B]? = some (.cells x.cells 67 (0, 0)))
    (hn : w4.heap[w.heap.size]? = some (.cells #[.string ⟨#[]⟩, .int .i64 0, .string ⟨#[]⟩] 38 (0, 0))) (hRl : R < w.heap.size) :
    Nl w0 w ((((w4.setCell ⟨B, 0, none⟩ (.string ⟨y.name.toArray⟩)).setCell ⟨B, 1, none⟩ (.string ⟨y.link.toArray⟩)).setCell ⟨B, 2, none⟩ (.string ⟨y.data.toArray⟩)).setCell ⟨B, 3, none⟩ (.int .i64 y.kind)) R B s' y := by
  have hlt := h.lt
  have hf := fin4 (w0 := w0) (w := w) (w5 := w4) (R := R) (B := B) ⟨.string ⟨y.name.toArray⟩, .string ⟨y.link.toArray⟩, .string ⟨y.data.toArray⟩, .int .i64 y.kind, rfl⟩ hR (h.but.trans hB) (Nat.le_of_lt hlt) hRl
  refine ⟨hf.1, hf.2, ?_, ?_, hlt⟩
  · rw [blk_set (blk_set (blk_set (blk_set hx 0 _) 1 _) 2 _) 3 _]; rfl
  · rw [Below.heap_setCell _ _ _ _ (by simp; omega), Below.heap_setCell _ _ _ _ (by simp; omega), Below.heap_setCell _ _ _ _ (by simp; omega), Below.heap_setCell _ _ _ _ (by simp; omega)]; exact hn
theorem fin3 {w0 w w5 W' : World} {R B : Nat} {s : St} (hW' : ∃ v0 v1 v2, W' = ((w5.setCell ⟨B, 0, none⟩ v0).setCell ⟨B, 1, none⟩ v1).setCell ⟨B, 2, none⟩ v2)
    (hR : Rd w0 w5 R s) (hB : But R w w5) (hBB : w.heap.size ≤ B) (hRl : R < w.heap.size) : Rd w0 W' R s ∧ But R w W' := by
  obtain ⟨v0, v1, v2, rfl⟩ := hW'
  have hle : w0.heap.size ≤ B := by have := hR.lo; omega
  have hk : ∀ k, k < w.heap.size → (((w5.setCell ⟨B, 0, none⟩ v0).setCell ⟨B, 1, none⟩ v1).setCell ⟨B, 2, none⟩ v2).heap[k]? = w5.heap[k]? := fun k hk => by
    rw [Below.heap_setCell _ _ _ _ (by simp; omega), Below.heap_setCell _ _ _ _ (by simp; omega), Below.heap_setCell _ _ _ _ (by simp; omega)]
  refine ⟨hR.keep (hk R hRl) (((hR.below.setCell hle _).setCell hle _).setCell hle _), ⟨?_, fun k hk' hR' => ?_⟩⟩
  · simp only [World.setCell, Array.size_modify]; exact hB.size
  · rw [hk k hk', hB.blk k hk' hR']
theorem node_r_any (w0 w : World) (R : Nat) (s : St) (hG : Glob w0) (h : Rd w0 w R s) (hl : s.l.length ≤ 4000000) :
    Calls Tryz.prog 22 #[.pointer (some ⟨R, 0, none⟩)] w (NodePost w0 w R (nodeF s).1 (nodeF s).2) := by
  obtain ⟨Y, S, hY⟩ : ∃ Y S, (Y, S) = nodeR s := ⟨_, _, rfl⟩
  have hF : nodeF s = (nodeNd Y, S) := by unfold nodeF; rw [← hY]
  rw [hF]
  have hYb := nodeR_b s hl
  rw [← hY] at hYb
  obtain ⟨x, s1, hx⟩ : ∃ x s1, (x, s1) = entryF s := ⟨_, _, rfl⟩
  have hxb := entryF_b s hl
  rw [← hx] at hxb
  have hYY : (Y, S) = if x.kind = 5 then toldF (entryF s1).2 (entryF s1).1 x.data else (x, s1) := by rw [hY]; unfold nodeR; rw [← hx]
  obtain ⟨W, hW⟩ : ∃ W, W = w.alloc (.cells #[.string ⟨#[]⟩, .int .i64 0, .string ⟨#[]⟩] 38) := ⟨_, rfl⟩
  have hBW : Below w.heap.size w W := by rw [hW]; exact (Below.refl _ _).alloc (Nat.le_refl _) _
  have hNb : W.heap[w.heap.size]? = some (.cells #[.string ⟨#[]⟩, .int .i64 0, .string ⟨#[]⟩] 38 (0, 0)) := by rw [hW]; exact heap_alloc_new w _
  have hRl := h.lt
  have hsW : w.heap.size < W.heap.size := by rw [hW]; simp
  have hEn := entry_r_any w0 W R s hG (h.belowR hBW) hl
  rw [← hx] at hEn
  have HEN := Lib.hid hEn
  have HYY := Lib.hid hYY
  have HYB := Lib.hid hYb
  have HXB := Lib.hid hxb
  have HBW := Lib.hid hBW
  have HNB := Lib.hid hNb
  clear hEn hYY hYb hxb hBW hNb hx hY hF h
  go_enter Tryz.func22, Tryz.ntmps22
  go_wp2_with fail
  rw [← hW]
  refine HEN.out.mono ?_
  rintro e w1 ⟨rfl, hR1, hB1⟩
  have HN1 : Hid (Nl w0 w (w1.alloc (.cells x.cells 67)) R w1.heap.size s1 x) := Lib.hid
    ⟨hR1.belowR ((Below.refl _ _).alloc (Nat.le_refl _) _), ((But.of HBW.out).trans hB1).trans (But.of ((Below.refl _ _).alloc (Nat.le_refl _) _)), heap_alloc_new w1 _,
      by rw [((Below.refl _ _).alloc (Nat.le_refl _) _ : Below w1.heap.size w1 _).block _ (Nat.lt_of_lt_of_le hsW hB1.size), hB1.blk _ hsW (by omega)]; exact HNB.out, Nat.lt_of_lt_of_le hsW hB1.size⟩
  obtain ⟨W1, hW1⟩ : ∃ W1, W1 = w1.alloc (.cells #[.string ⟨x.name.toArray⟩, .string ⟨x.link.toArray⟩, .string ⟨x.data.toArray⟩, .int .i64 x.kind] 67) := ⟨_, rfl⟩
  have HN1' : Hid (Nl w0 w W1 R w1.heap.size s1 x) := by rw [hW1]; exact HN1
  obtain ⟨B, hB⟩ : ∃ B, B = w1.heap.size := ⟨_, rfl⟩
  rw [← hB] at HN1'
  have HW1 := Lib.hid hW1
  have HBE := Lib.hid hB
  clear hW hW1 hR1 hB1 HEN HN1 hB
  have g0 : W1.cell? ⟨B, 0, none⟩ = some (.string ⟨x.name.toArray⟩) := by rw [blk_cell HN1'.out.bx]; rfl
  have g1 : W1.cell? ⟨B, 1, none⟩ = some (.string ⟨x.link.toArray⟩) := by rw [blk_cell HN1'.out.bx]; rfl
  have g2 : W1.cell? ⟨B, 2, none⟩ = some (.string ⟨x.data.toArray⟩) := by rw [blk_cell HN1'.out.bx]; rfl
  have g3 : W1.cell? ⟨B, 3, none⟩ = some (.int .i64 x.kind) := by rw [blk_cell HN1'.out.bx]; rfl
  have k0 : ∀ i, W1.frozen? ⟨B, i, none⟩ = false := blk_frozen HN1'.out.bx
  unfold Ent.val
  by_cases hk : x.kind = 5
  · have HW1' : Hid (W1 = w1.alloc (.cells #[.string ⟨x.name.toArray⟩, .string ⟨x.link.toArray⟩, .string ⟨x.data.toArray⟩, .int .i64 5] 67)) := Lib.hid (by rw [← hk]; exact HW1.out)
    have hy := HYY.out
    rw [if_pos hk] at hy
    have hl1 : s1.l.length ≤ 4000000 := by have := HXB.out.2; omega
    have HEN2 := Lib.hid (entry_r_any w0 W1 R s1 hG HN1'.out.rd hl1)
    obtain ⟨b, s2, hb⟩ : ∃ b s2, (b, s2) = entryF s1 := ⟨_, _, rfl⟩
    rw [← hb] at HEN2 hy
    have HY2 := Lib.hid hy
    rw [hk] at g3 ⊢
    clear hy hb hk HW1
    go_wp2_with (rw [← HW1'.out, ← HBE.out])
    refine HEN2.out.mono ?_
    rintro e w3 ⟨rfl, hR3, hB3⟩
    have HTD := Lib.hid (told_any w0 w3 R s2 b x.data hG hR3 HXB.out.1.data)
    rw [← HY2.out] at HTD
    have HB3 := Lib.hid hB3
    clear hR3 hB3
    go_wp2_with fail
    refine HTD.out.mono ?_
    rintro e w4 ⟨rfl, hR4, hB4⟩
    have hBx : w4.heap[B]? = some (.cells x.cells 67 (0, 0)) := by
      have hl := (Array.getElem?_eq_some_iff.1 HN1'.out.bx).1
      rw [(HB3.out.trans hB4).blk B hl (by have := HN1'.out.lt; omega)]; exact HN1'.out.bx
    have hNx : w4.heap[w.heap.size]? = some (.cells #[.string ⟨#[]⟩, .int .i64 0, .string ⟨#[]⟩] 38 (0, 0)) := by
      have hl := (Array.getElem?_eq_some_iff.1 HN1'.out.bn).1
      rw [(HB3.out.trans hB4).blk _ hl (by omega)]; exact HN1'.out.bn
    have q0 : w4.cell? ⟨B, 0, none⟩ = some (.string ⟨x.name.toArray⟩) := by rw [blk_cell hBx]; rfl
    have q1 : w4.cell? ⟨B, 1, none⟩ = some (.string ⟨x.link.toArray⟩) := by rw [blk_cell hBx]; rfl
    have q2 : w4.cell? ⟨B, 2, none⟩ = some (.string ⟨x.data.toArray⟩) := by rw [blk_cell hBx]; rfl
    have q3 : w4.cell? ⟨B, 3, none⟩ = some (.int .i64 x.kind) := by rw [blk_cell hBx]; rfl
    have kq : ∀ i, w4.frozen? ⟨B, i, none⟩ = false := blk_frozen hBx
    have HN5 : Hid (Nl w0 w ((((w4.setCell ⟨B, 0, none⟩ (.string ⟨Y.name.toArray⟩)).setCell ⟨B, 1, none⟩ (.string ⟨Y.link.toArray⟩)).setCell ⟨B, 2, none⟩ (.string ⟨Y.data.toArray⟩)).setCell ⟨B, 3, none⟩ (.int .i64 Y.kind)) R B S Y) :=
      Lib.hid (nl_set HN1'.out (HB3.out.trans hB4) hR4 hBx hNx hRl)
    obtain ⟨W5, hW5⟩ : ∃ W5, W5 = (((w4.setCell ⟨B, 0, none⟩ (.string ⟨Y.name.toArray⟩)).setCell ⟨B, 1, none⟩ (.string ⟨Y.link.toArray⟩)).setCell ⟨B, 2, none⟩ (.string ⟨Y.data.toArray⟩)).setCell ⟨B, 3, none⟩ (.int .i64 Y.kind) := ⟨_, rfl⟩
    rw [← hW5] at HN5
    have HW5 := Lib.hid hW5
    clear hW5 hBx hNx hR4 hB4 HTD HEN2 g0 g1 g2 g3 k0
    unfold Ent.val
    have g0 : W5.cell? ⟨B, 0, none⟩ = some (.string ⟨Y.name.toArray⟩) := by rw [blk_cell HN5.out.bx]; rfl
    have g1 : W5.cell? ⟨B, 1, none⟩ = some (.string ⟨Y.link.toArray⟩) := by rw [blk_cell HN5.out.bx]; rfl
    have g2 : W5.cell? ⟨B, 2, none⟩ = some (.string ⟨Y.data.toArray⟩) := by rw [blk_cell HN5.out.bx]; rfl
    have g3 : W5.cell? ⟨B, 3, none⟩ = some (.int .i64 Y.kind) := by rw [blk_cell HN5.out.bx]; rfl
    have k0 : ∀ i, W5.frozen? ⟨B, i, none⟩ = false := blk_frozen HN5.out.bx
    have hsum : Y.data.length + Y.link.length ≤ 9223372036854775807 := by have h1 := HYB.out.1.data; have h2 := HYB.out.1.link; omega
    by_cases hnm : Y.name = [46]
    · have bnm : (Y.name == [46]) = true := beq_iff_eq.2 hnm
      have hnd : nodeNd Y = ⟨[], Y.kind, Y.data ++ Y.link⟩ := by unfold nodeNd; rw [if_pos hnm]
      have HND := Lib.hid hnd
      have HP := Lib.hid (HN5.out.dot hRl)
      obtain ⟨W6, hW6⟩ : ∃ W6, W6 = W5.setCell ⟨B, 0, none⟩ (.string ⟨#[]⟩) := ⟨_, rfl⟩
      rw [← hW6] at HP
      have p0 : W6.cell? ⟨B, 0, none⟩ = some (.string ⟨#[]⟩) := by rw [blk_cell HP.out.bx]; rfl
      have p1 : W6.cell? ⟨B, 1, none⟩ = some (.string ⟨Y.link.toArray⟩) := by rw [blk_cell HP.out.bx]; rfl
      have p2 : W6.cell? ⟨B, 2, none⟩ = some (.string ⟨Y.data.toArray⟩) := by rw [blk_cell HP.out.bx]; rfl
      have p3 : W6.cell? ⟨B, 3, none⟩ = some (.int .i64 Y.kind) := by rw [blk_cell HP.out.bx]; rfl
      have n0 : W6.cell? ⟨w.heap.size, 0, none⟩ = some (.string ⟨#[]⟩) := by rw [blk_cell HP.out.bn]; rfl
      have n1 : W6.cell? ⟨w.heap.size, 1, none⟩ = some (.int .i64 0) := by rw [blk_cell HP.out.bn]; rfl
      have n2 : W6.cell? ⟨w.heap.size, 2, none⟩ = some (.string ⟨#[]⟩) := by rw [blk_cell HP.out.bn]; rfl
      have kn : ∀ i, W6.frozen? ⟨w.heap.size, i, none⟩ = false := blk_frozen HP.out.bn
      have hBN := HP.out.lt
      have HW6 := Lib.hid hW6
      clear hnm hnd hW6
      go_wp2_with (first | rw [← HW6.out] | rw [← HW5.out])
      rw [mk_append] at *
      refine bodyPost_ret (v := (Nd.mk [] Y.kind (Y.data ++ Y.link)).val) (by simp [results, Tryz.results22, go_sem, Nd.val, n0, n1, n2]) rfl ?_
      exact ⟨by rw [HND.out], fin3 ⟨_, _, _, rfl⟩ HP.out.rd HP.out.but (Nat.le_refl _) hRl⟩
    · have bnm : (Y.name == [46]) = false := beq_eq_false_iff_ne.2 hnm
      have hnd : nodeNd Y = ⟨Y.name, Y.kind, Y.data ++ Y.link⟩ := by unfold nodeNd; rw [if_neg hnm]
      have HND := Lib.hid hnd
      have n0 : W5.cell? ⟨w.heap.size, 0, none⟩ = some (.string ⟨#[]⟩) := by rw [blk_cell HN5.out.bn]; rfl
      have n1 : W5.cell? ⟨w.heap.size, 1, none⟩ = some (.int .i64 0) := by rw [blk_cell HN5.out.bn]; rfl
      have n2 : W5.cell? ⟨w.heap.size, 2, none⟩ = some (.string ⟨#[]⟩) := by rw [blk_cell HN5.out.bn]; rfl
      have kn : ∀ i, W5.frozen? ⟨w.heap.size, i, none⟩ = false := blk_frozen HN5.out.bn
      have hBN := HN5.out.lt
      clear hnm hnd
      go_wp2_with (first | fail | rw [← HW5.out])
      rw [mk_append] at *
      refine bodyPost_ret (v := (Nd.mk Y.name Y.kind (Y.data ++ Y.link)).val) (by simp [results, Tryz.results22, go_sem, Nd.val, n0, n1, n2]) rfl ?_
      exact ⟨by rw [HND.out], fin3 ⟨_, _, _, rfl⟩ HN5.out.rd HN5.out.but (Nat.le_refl _) hRl⟩
  · have bk : (x.kind == 5) = false := beq_eq_false_iff_ne.2 hk
    have hy := HYY.out
    rw [if_neg hk] at hy
    obtain ⟨rfl, rfl⟩ := Prod.mk.inj hy
    clear hy
    have hsum : Y.data.length + Y.link.length ≤ 9223372036854775807 := by have h1 := HYB.out.1.data; have h2 := HYB.out.1.link; omega
    by_cases hnm : Y.name = [46]
    · have bnm : (Y.name == [46]) = true := beq_iff_eq.2 hnm
      have hnd : nodeNd Y = ⟨[], Y.kind, Y.data ++ Y.link⟩ := by unfold nodeNd; rw [if_pos hnm]
      have HND := Lib.hid hnd
      have HP := Lib.hid (HN1'.out.dot hRl)
      obtain ⟨W6, hW6⟩ : ∃ W6, W6 = W1.setCell ⟨B, 0, none⟩ (.string ⟨#[]⟩) := ⟨_, rfl⟩
      rw [← hW6] at HP
      have p0 : W6.cell? ⟨B, 0, none⟩ = some (.string ⟨#[]⟩) := by rw [blk_cell HP.out.bx]; rfl
      have p1 : W6.cell? ⟨B, 1, none⟩ = some (.string ⟨Y.link.toArray⟩) := by rw [blk_cell HP.out.bx]; rfl
      have p2 : W6.cell? ⟨B, 2, none⟩ = some (.string ⟨Y.data.toArray⟩) := by rw [blk_cell HP.out.bx]; rfl
      have p3 : W6.cell? ⟨B, 3, none⟩ = some (.int .i64 Y.kind) := by rw [blk_cell HP.out.bx]; rfl
      have n0 : W6.cell? ⟨w.heap.size, 0, none⟩ = some (.string ⟨#[]⟩) := by rw [blk_cell HP.out.bn]; rfl
      have n1 : W6.cell? ⟨w.heap.size, 1, none⟩ = some (.int .i64 0) := by rw [blk_cell HP.out.bn]; rfl
      have n2 : W6.cell? ⟨w.heap.size, 2, none⟩ = some (.string ⟨#[]⟩) := by rw [blk_cell HP.out.bn]; rfl
      have kn : ∀ i, W6.frozen? ⟨w.heap.size, i, none⟩ = false := blk_frozen HP.out.bn
      have hBN := HP.out.lt
      have HW6 := Lib.hid hW6
      clear hnm hnd hW6
      go_wp2_with (first | rw [← HW6.out] | rw [← HW1.out, ← HBE.out])
      rw [mk_append] at *
      refine bodyPost_ret (v := (Nd.mk [] Y.kind (Y.data ++ Y.link)).val) (by simp [results, Tryz.results22, go_sem, Nd.val, n0, n1, n2]) rfl ?_
      exact ⟨by rw [HND.out], fin3 ⟨_, _, _, rfl⟩ HP.out.rd HP.out.but (Nat.le_refl _) hRl⟩
    · have bnm : (Y.name == [46]) = false := beq_eq_false_iff_ne.2 hnm
      have hnd : nodeNd Y = ⟨Y.name, Y.kind, Y.data ++ Y.link⟩ := by unfold nodeNd; rw [if_neg hnm]
      have HND := Lib.hid hnd
      have n0 : W1.cell? ⟨w.heap.size, 0, none⟩ = some (.string ⟨#[]⟩) := by rw [blk_cell HN1'.out.bn]; rfl
      have n1 : W1.cell? ⟨w.heap.size, 1, none⟩ = some (.int .i64 0) := by rw [blk_cell HN1'.out.bn]; rfl
      have n2 : W1.cell? ⟨w.heap.size, 2, none⟩ = some (.string ⟨#[]⟩) := by rw [blk_cell HN1'.out.bn]; rfl
      have kn : ∀ i, W1.frozen? ⟨w.heap.size, i, none⟩ = false := blk_frozen HN1'.out.bn
      have hBN := HN1'.out.lt
      clear hnm hnd
      go_wp2_with (first | fail | rw [← HW1.out, ← HBE.out])
      rw [mk_append] at *
      refine bodyPost_ret (v := (Nd.mk Y.name Y.kind (Y.data ++ Y.link)).val) (by simp [results, Tryz.results22, go_sem, Nd.val, n0, n1, n2]) rfl ?_
      exact ⟨by rw [HND.out], fin3 ⟨_, _, _, rfl⟩ HN1'.out.rd HN1'.out.but (Nat.le_refl _) hRl⟩
end Go.Proofs.YtbkjjapeojclpaaGreatDoor
