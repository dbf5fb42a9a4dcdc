/- tar's writer, tar.Lay. -/
import Derived.Test.YtbkjjapeojclpaaGreatDoorRec
import Derived.Test.YtbkjjapeojclpaaGreatDoorOwn
import Derived.Test.YtbkjjapeojclpaaGreatDoorTree
namespace Go.Proofs.YtbkjjapeojclpaaGreatDoor
set_option linter.unusedVariables false
set_option linter.unusedSimpArgs false
open Go.RowKit Go.Proofs.YtbkjjapeojclpaaGreatDoorW.PrintWords
set_option maxHeartbeats 400000
set_option maxRecDepth 100000

/-- A writer at block R: its bytes, how many entries. -/
structure Wr (w0 w : World) (R : Nat) (v : Value) (b : Bs) (n : Nat) : Prop where
  blk : w.heap[R]? = some (.cells #[v, .int .i64 n] 60 (0, 0))
  own : OwnB w w0.heap.size v b
  ne : v.ownBlock ≠ some R
  below : Below w0.heap.size w0 w
  lo : w0.heap.size ≤ R
noncomputable def entryOf (name : Bs) (k : Int) (link data : Bs) : Bs := headR name k data.length link ++ data ++ rep 0 ((512 - data.length % 512) % 512)
def EntryPost (w0 w : World) (R : Nat) (v : Value) (b : Bs) (n : Nat) (e : Ending) (w' : World) : Prop :=
  e = .returned (.tuple #[]) ∧ ∃ v', Wr w0 w' R v' b n ∧ (∀ k, k < w.heap.size → k ≠ R → v.ownBlock ≠ some k → w'.heap[k]? = w.heap[k]?) ∧ (∀ j, v'.ownBlock = some j → v.ownBlock = some j ∨ w.heap.size ≤ j)
theorem Wr.c0 {w0 w : World} {R : Nat} {v : Value} {b : Bs} {n : Nat} (h : Wr w0 w R v b n) : w.cell? ⟨R, 0, none⟩ = some v := by simp [World.cell?, h.blk]
theorem Wr.c1 {w0 w : World} {R : Nat} {v : Value} {b : Bs} {n : Nat} (h : Wr w0 w R v b n) : w.cell? ⟨R, 1, none⟩ = some (.int .i64 n) := by simp [World.cell?, h.blk]
theorem Wr.belowW {w0 w w' : World} {R : Nat} {v : Value} {b : Bs} {n : Nat} (h : Wr w0 w R v b n) (hb : Below w.heap.size w w') : Wr w0 w' R v b n :=
  ⟨by rw [hb.block R (Array.getElem?_eq_some_iff.1 h.blk).1]; exact h.blk, h.own.blk fun k hk => hb.block k (h.own.lt k hk).2, h.ne, h.below.trans (hb.mono h.below.size), h.lo⟩

theorem Wr.lt {w0 w : World} {R : Nat} {v : Value} {b : Bs} {n : Nat} (h : Wr w0 w R v b n) : R < w.heap.size := (Array.getElem?_eq_some_iff.1 h.blk).1
/-- The writer once its bytes have grown, ahead of the store and behind it. -/
theorem Wr.grew {w0 w w' : World} {R : Nat} {v v' : Value} {b b' : Bs} {n : Nat} (h : Wr w0 w R v b n) (ho : OwnB w' w0.heap.size v' b') (hg : Gr w0.heap.size w w' v v') :
    w'.heap[R]? = some (.cells #[v, .int .i64 n] 60 (0, 0)) ∧ Wr w0 (w'.setCell ⟨R, 0, none⟩ v') R v' b' n ∧
    (∀ k, k < w.heap.size → k ≠ R → v.ownBlock ≠ some k → (w'.setCell ⟨R, 0, none⟩ v').heap[k]? = w.heap[k]?) := by
  have hblk : w'.heap[R]? = some (.cells #[v, .int .i64 n] 60 (0, 0)) := by rw [hg.fr R h.lt h.ne]; exact h.blk
  have hne : v'.ownBlock ≠ some R := fun e => (hg.own R e).elim h.ne (fun h' => by have := h.lt; omega)
  refine ⟨hblk, ⟨by rw [blk_set hblk]; rfl, ho.blk fun k hk => by rw [Below.heap_setCell _ _ _ _ (fun e => hne (by rw [hk, e]))], hne, (h.below.trans hg.below).setCell h.lo _, h.lo⟩, fun k hk hR hv => ?_⟩
  rw [Below.heap_setCell _ _ _ _ hR, hg.fr k hk hv]
theorem entry_any (w0 w : World) (R : Nat) (v : Value) (b : Bs) (n : Nat) (name link data : ByteArray) (k : Int) (hG : Glob w0) (h : Wr w0 w R v b n)
    (hh : headB name.data.toList k data.size link.data.toList = true) (hd : data.size ≤ 1000000) (hbl : b.length ≤ 100000000) (hn : n ≤ 1000000) :
    Calls Tryz.prog 59 #[.pointer (some ⟨R, 0, none⟩), .string name, .int .i64 k, .string link, .string data] w (EntryPost w0 w R v (b ++ entryOf name.data.toList k link.data.toList data.data.toList) (n + 1)) := by
  have hGw := Lib.hid (hG.below' h.below)
  have hLay := Lay_any name link k data.size w hGw.out (by omega)
  rw [hh] at hLay
  have HLAY := Lib.hid hLay
  have HW := Lib.hid h
  obtain ⟨hr, hhr⟩ : ∃ r, r = headR name.data.toList k data.size link.data.toList := ⟨_, rfl⟩
  rw [← hhr] at HLAY
  have HHR := Lib.hid hhr
  clear hLay hh h hhr
  go_enter Tryz.func59, Tryz.ntmps59
  go_wp2_with fail
  refine HLAY.out.mono ?_
  rintro e w1 ⟨B, rfl, hlo, hby, hl5, hb1⟩
  have HW1 := Lib.hid (HW.out.belowW hb1)
  have hbase : w0.heap.size ≤ w1.heap.size := HW1.out.below.size
  obtain ⟨v2, w2, hr2, ho2, hg2, hl2⟩ := HW1.out.own.app 22 ⟨B, 0, none⟩ 512 512 hr (hl5 ▸ hby.C (by omega)) (by omega) hbase
  have gr2 := Gr.of HW1.out.own hbase hg2 hl2
  have hbase2 : w0.heap.size ≤ w2.heap.size := Nat.le_trans hbase hg2.size
  obtain ⟨v3, w3, hr3, ho3, hg3, hl3⟩ := ho2.appS 22 data (by rw [List.length_append]; omega) hbase2
  have gr3 := gr2.trans (Gr.of ho2 hbase2 hg3 hl3)
  obtain ⟨A3, n3, c3, rfl⟩ := ho3.form
  obtain ⟨hblk3, hWr3, hfr3⟩ := HW1.out.grew ho3 gr3
  have hfz3 : w3.frozen? ⟨R, 0, none⟩ = false := blk_frozen hblk3 0
  have hc3 : w3.cell? ⟨R, 0, none⟩ = some v := by rw [blk_cell hblk3]; rfl
  obtain ⟨W3, hW3⟩ : ∃ W, W = w3.setCell ⟨R, 0, none⟩ (.slice A3 n3 c3) := ⟨_, rfl⟩
  rw [← hW3] at hWr3 hfr3
  have hbase3 : w0.heap.size ≤ W3.heap.size := hWr3.below.size
  obtain ⟨pd, hpd⟩ : ∃ pd, pd = (512 - data.size % 512) % 512 := ⟨_, rfl⟩
  obtain ⟨v4, w4, hr4, ho4, hg4, hl4⟩ := hWr3.own.appZ 22 pd (by simp only [List.length_append]; rw [← size_len]; omega) hbase3
  have gr4 := Gr.of hWr3.own hbase3 hg4 hl4
  obtain ⟨A4, n4, c4, rfl⟩ := ho4.form
  obtain ⟨hblk4, hWr4, hfr4⟩ := hWr3.grew ho4 gr4
  have hfz4 : w4.frozen? ⟨R, 0, none⟩ = false := blk_frozen hblk4 0
  have hc40 : w4.cell? ⟨R, 0, none⟩ = some (.slice A3 n3 c3) := by rw [blk_cell hblk4]; rfl
  obtain ⟨W4, hW4⟩ : ∃ W, W = w4.setCell ⟨R, 0, none⟩ (.slice A4 n4 c4) := ⟨_, rfl⟩
  rw [← hW4] at hWr4 hfr4
  have c0 := HW1.out.c0
  have c30 := hWr3.c0
  have c41 := hWr4.c1
  have hfz41 : W4.frozen? ⟨R, 1, none⟩ = false := blk_frozen hWr4.blk 1
  have HL3 : Hid (w1.heap.size ≤ W3.heap.size) := Lib.hid (by rw [hW3]; simp only [World.setCell, Array.size_modify]; exact gr3.below.size)
  have HO3 := Lib.hid gr3.own
  have HO4 := Lib.hid gr4.own
  have HR2 := Lib.hid hr2
  have HR3 := Lib.hid hr3
  have HR4 := Lib.hid hr4
  have HWr4 := Lib.hid hWr4
  have HFR3 := Lib.hid hfr3
  have HFR4 := Lib.hid hfr4
  have HB1 := Lib.hid hb1
  have hpdI : (512 - (data.size : Int) % 512) % 512 = (pd : Int) := by omega
  have HPD := Lib.hid hpd
  have HW3 := Lib.hid hW3.symm
  have HW4 := Lib.hid hW4.symm
  clear hr2 ho2 hg2 hl2 hr3 ho3 hg3 hl3 hb1 hby hl5 gr2 gr3 hblk3 hWr3 hfr3 hW3 hr4 ho4 hg4 hl4 gr4 hblk4 hWr4 hfr4 hW4 hpd
  go_wp2_with (first | rw [HW3.out] | rw [HW4.out] | (at_builtin; first | refine Lib.wpList_append_run (o := ⟨some 27, _, _, _, _, _⟩) _ rfl _ _ _ _ rfl _ _ rfl rfl _ _ HR2.out ?_ | refine Lib.wpList_append_run (o := ⟨some 29, _, _, _, _, _⟩) _ rfl _ _ _ _ rfl _ _ rfl rfl _ _ HR3.out ?_ | (rw [hpdI]; refine Lib.wpList_append_run (o := ⟨some 42, _, _, _, _, _⟩) _ rfl _ _ _ _ rfl _ _ rfl rfl _ _ HR4.out ?_)))
  go_end0
  have e1 : ((n : Int) + 1) = ((n + 1 : Nat) : Int) := by omega
  rw [e1]
  have hW4 := HWr4.out
  have hres : b ++ entryOf name.data.toList k link.data.toList data.data.toList = b ++ hr ++ data.data.toList ++ rep 0 pd := by
    unfold entryOf
    rw [HHR.out, HPD.out, ← size_len]
    simp only [List.append_assoc]
  rw [hres]
  refine ⟨rfl, .slice A4 n4 c4, ⟨by rw [blk_set hW4.blk]; rfl, hW4.own.blk fun k hk => by rw [Below.heap_setCell _ _ _ _ (fun e => hW4.ne (by rw [hk, e]))], hW4.ne, hW4.below.setCell hW4.lo _, hW4.lo⟩, fun k hk hR hv => ?_, fun j hj => (HO4.out j hj).elim (fun h => (HO3.out j h).imp id (fun h => Nat.le_trans HB1.out.size h)) (fun h => .inr (Nat.le_trans HB1.out.size (Nat.le_trans HL3.out h)))⟩
  have hk1 : k < w1.heap.size := Nat.lt_of_lt_of_le hk HB1.out.size
  rw [Below.heap_setCell _ _ _ _ hR, HFR4.out k (Nat.lt_of_lt_of_le hk1 HL3.out) hR (fun e => (HO3.out k e).elim hv (fun h => by omega)), HFR3.out k hk1 hR hv, HB1.out.block k hk]
end Go.Proofs.YtbkjjapeojclpaaGreatDoor
