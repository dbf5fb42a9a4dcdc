/- tar's writer.node, laid, Lay. -/
import Derived.Test.YtbkjjapeojclpaaGreatDoorTar
import Derived.Deep.RegionHeld3
namespace Go.Proofs.YtbkjjapeojclpaaGreatDoor
set_option linter.unusedVariables false
set_option linter.unusedSimpArgs false
open Go.RowKit Go.Proofs.YtbkjjapeojclpaaGreatDoorW.PrintWords
set_option maxHeartbeats 400000
set_option maxRecDepth 100000

noncomputable def paxOf (n : Nd) : Bs := if extraOf n = [] then [] else entryOf [112, 97, 120] 5 [] (extraOf n)
noncomputable def ownOf (n : Nd) : Bs := if n.kind = 4 then entryOf ((nameOf n).take 100) 4 (n.data.take 100) [] else entryOf ((nameOf n).take 100) n.kind [] n.data
noncomputable def nodeOf (n : Nd) : Bs := paxOf n ++ ownOf n
noncomputable def nodeN (n : Nd) : Nat := if extraOf n = [] then 1 else 2
/-- What node asks of a node. -/
structure NdOk (n : Nd) : Prop where
  path : n.path.length ≤ 200
  data : n.data.length ≤ 400
  pax : extraOf n ≠ [] → headB [112, 97, 120] 5 (extraOf n).length [] = true
  link : n.kind = 4 → headB ((nameOf n).take 100) 4 0 (n.data.take 100) = true
  own : n.kind ≠ 4 → headB ((nameOf n).take 100) n.kind n.data.length [] = true

theorem extraOf_le (n : Nd) (hp : n.path.length ≤ 200) (hd : n.data.length ≤ 400) : (extraOf n).length ≤ 100000 := by
  unfold extraOf
  have h1 := nameOf_le n 200 hp (by omega)
  have h2 := recOf_le bsPath (nameOf n) (by simp [bsPath]; omega)
  have h3 := recOf_le bsLink n.data (by simp [bsLink]; omega)
  simp only [show bsPath.length = 4 from rfl, show bsLink.length = 8 from rfl] at h2 h3
  rw [List.length_append]
  split <;> split <;> (try simp only [List.length_nil]) <;> omega
theorem putAt_512 {l : Bs} {k : Nat} {s : Bs} (hl : l.length = 512) (h : k + s.length ≤ 512) : (putAt l k s).length = 512 := by rw [putAt_len (by omega), hl]
theorem headR_len {name link : Bs} {k : Int} {n : Nat} (h : headB name k n link = true) : (headR name k n link).length = 512 := by
  unfold headB at h
  simp only [Bool.and_eq_true, decide_eq_true_eq, Int.toNat_natCast] at h
  obtain ⟨⟨hm, _⟩, ho⟩ := h
  have h1 := mayB_len hm
  have h2 := mode_len k
  have h3 := sign_len k
  have h4 := oct_len ho
  have e0 : (rep 0 512).length = 512 := by simp [rep]
  unfold headR
  simp only [Int.toNat_natCast]
  have hl : (laid0 name (octR n 11) k link).length = 512 := by
    unfold laid0
    refine putAt_512 (putAt_512 (putAt_512 (putAt_512 (putAt_512 (putAt_512 (putAt_512 (putAt_512 (putAt_512 (putAt_512 e0 ?_) ?_) ?_) ?_) ?_) ?_) ?_) ?_) ?_) ?_
    all_goals (first | omega | (simp only [List.length_cons, List.length_nil]; omega))
  refine putAt_512 hl ?_
  have := oct_le (sumOf (laid0 name (octR n 11) k link)) 6
  simp only [List.length_append, List.length_cons, List.length_nil]
  omega
theorem entryOf_le (name link data : Bs) (k : Int) (hh : headB name k data.length link = true) (hd : data.length ≤ 100000) : (entryOf name k link data).length ≤ 200000 := by
  unfold entryOf
  rw [List.length_append, List.length_append, headR_len hh, rep, List.length_replicate]
  omega
theorem node_any (w0 w : World) (R : Nat) (v : Value) (b : Bs) (m : Nat) (n : Nd) (hG : Glob w0) (h : Wr w0 w R v b m) (hn : NdOk n) (hbl : b.length ≤ 10000000) (hm : m ≤ 100000) :
    Calls Tryz.prog 39 #[.pointer (some ⟨R, 0, none⟩), n.val] w (EntryPost w0 w R v (b ++ nodeOf n) (m + nodeN n)) := by
  obtain ⟨p, k, d⟩ := n
  have hBx : ∀ j, (w.alloc (.cells #[.string ⟨p.toArray⟩, .int .i64 k, .string ⟨d.toArray⟩] 38)).cell? ⟨w.heap.size, j, none⟩ = (#[.string ⟨p.toArray⟩, .int .i64 k, .string ⟨d.toArray⟩] : Array Value)[j]? := fun j => World.cell?_alloc_new _ _ _ _
  obtain ⟨W, hW⟩ : ∃ W, W = w.alloc (.cells #[.string ⟨p.toArray⟩, .int .i64 k, .string ⟨d.toArray⟩] 38) := ⟨_, rfl⟩
  rw [← hW] at hBx
  have hbW : Below w.heap.size w W := by rw [hW]; exact (Below.refl _ _).alloc (Nat.le_refl _) _
  have hWr := h.belowW hbW
  have hGW := hG.below' hWr.below
  have hsW : W.heap.size = w.heap.size + 1 := by rw [hW]; simp
  obtain ⟨x, hx⟩ : ∃ x, x = extraOf ⟨p, k, d⟩ := ⟨_, rfl⟩
  have hex : Calls Tryz.prog 58 #[.agg #[.string ⟨p.toArray⟩, .int .i64 k, .string ⟨d.toArray⟩]] W fun e w' => e = .returned (.string ⟨x.toArray⟩) ∧ Below W.heap.size W w' := by
    rw [hx]; exact extra_any ⟨p, k, d⟩ W hGW (by have := hn.path; simp only at this ⊢; omega) (by have := hn.data; simp only at this ⊢; omega)
  have HEX := Lib.hid hex
  have c0 := hBx 0
  have c1 := hBx 1
  have c2 := hBx 2
  simp at c0 c1 c2
  clear hex hBx
  unfold Nd.val
  go_enter Tryz.func39, Tryz.ntmps39
  go_wp2_with (first | rw [← hW] | fail)
  refine HEX.out.mono ?_
  rintro e w1 ⟨rfl, hb1⟩
  have d0 : w1.cell? ⟨w.heap.size, 0, none⟩ = some (.string ⟨p.toArray⟩) := by rw [hb1.cell (p := ⟨w.heap.size, 0, none⟩) (by rw [hsW]; simp)]; exact c0
  have d1 : w1.cell? ⟨w.heap.size, 1, none⟩ = some (.int .i64 k) := by rw [hb1.cell (p := ⟨w.heap.size, 1, none⟩) (by rw [hsW]; simp)]; exact c1
  have d2 : w1.cell? ⟨w.heap.size, 2, none⟩ = some (.string ⟨d.toArray⟩) := by rw [hb1.cell (p := ⟨w.heap.size, 2, none⟩) (by rw [hsW]; simp)]; exact c2
  have HW1 := Lib.hid (hWr.belowW hb1)
  have HF1 : Hid (∀ j, j < w.heap.size → w1.heap[j]? = w.heap[j]?) := Lib.hid fun j hj => by rw [hb1.block j (by rw [hsW]; omega), hbW.block j hj]
  have hs1 : w.heap.size < w1.heap.size := by have := hb1.size; rw [hsW] at this; omega
  have HVL : Hid (∀ j, v.ownBlock = some j → j < w.heap.size) := Lib.hid fun j hj => (h.own.lt j hj).2
  have hRl := h.lt
  have HX := Lib.hid hx
  have HN := Lib.hid hn
  clear hx hn hW hbW hWr hGW hsW HEX c0 c1 c2 hb1 h
  have hvl : v.ownBlock ≠ some w.heap.size := fun e => by have := HVL.out _ e; omega
  by_cases hx0 : x = []
  · subst hx0
    have hnp : paxOf ⟨p, k, d⟩ = [] ∧ nodeN ⟨p, k, d⟩ = 1 := by
      unfold paxOf nodeN; rw [← HX.out]; exact ⟨rfl, rfl⟩
    have HNP := Lib.hid hnp
    have hbl' : b.length ≤ 100000000 := by omega
    have hm' : m ≤ 1000000 := by omega
    clear hnp
    by_cases hk : k = 4
    · subst hk
      have hh := HN.out.link rfl
      go_wp2_with fail
      go_region_held3 (fun w' => w'.cell? ⟨w.heap.size, 0, none⟩ = some (.string ⟨p.toArray⟩) ∧ w'.cell? ⟨w.heap.size, 1, none⟩ = some (.int .i64 4) ∧ w'.cell? ⟨w.heap.size, 2, none⟩ = some (.string ⟨d.toArray⟩))
        (first | exact ⟨(hc2 _ _ hs1).trans d0, (hc2 _ _ hs1).trans d1, (hc2 _ _ hs1).trans d2⟩ | exact ⟨(World.cell?_of_block hq).trans ((hc2 _ _ hs1).trans d0), (World.cell?_of_block hq).trans ((hc2 _ _ hs1).trans d1), (World.cell?_of_block hq).trans ((hc2 _ _ hs1).trans d2)⟩ | go_keep)
        (first | (go_at_call 61; refine (name_any ⟨p, 4, d⟩ _).mono ?_; rintro e w4 ⟨rfl, hb2⟩; obtain ⟨hc2, hf2⟩ := bcell hb2; have hb2' := below_two ((Below.refl _ _).drew) hb2) | (go_at_call 60; refine (cut_any _ _).mono ?_; rintro e w' ⟨rfl, rfl⟩) | (go_at_call 59; refine (entry_any w0 _ R v _ _ ⟨((nameOf ⟨p, 4, d⟩).take 100).toArray⟩ ⟨(d.take 100).toArray⟩ ⟨#[]⟩ 4 hG (HW1.out.belowW hb2') hh (by decide) hbl' hm').mono ?_; rintro e w5 ⟨rfl, v5, hW5, hfr5, how5⟩; have hq : w5.heap[w.heap.size]? = w4.heap[w.heap.size]? := hfr5 _ (Nat.lt_of_lt_of_le hs1 hb2'.size) (by omega) hvl))
      have HW5 := Lib.hid hW5
      have HFR5 := Lib.hid hfr5
      have HB4 := Lib.hid hb2'
      have HOW5 := Lib.hid how5
      clear hW5 hfr5 how5 hb2' hc2 hf2 hb2 hq
      go_wp2_with fail
      go_end0
      refine ⟨rfl, v5, ?_, fun j hj hR hv => ?_, fun j hj => (HOW5.out j hj).imp id (fun h => by have := HB4.out.size; omega)⟩
      · have e : b ++ nodeOf ⟨p, 4, d⟩ = b ++ ownOf ⟨p, 4, d⟩ := by unfold nodeOf; rw [HNP.out.1, List.nil_append]
        rw [e, HNP.out.2]
        unfold ownOf
        rw [if_pos rfl]
        exact HW5.out
      · rw [HFR5.out j (Nat.lt_of_lt_of_le (Nat.lt_trans hj hs1) HB4.out.size) hR hv, HB4.out.block j (Nat.lt_trans hj hs1), HF1.out j hj]
    · skip
      have hh := HN.out.own hk
      have hdl : (⟨d.toArray⟩ : ByteArray).size ≤ 1000000 := by rw [size_len]; have := HN.out.data; show d.length ≤ _; simp only at this; omega
      have hh' : headB ((nameOf ⟨p, k, d⟩).take 100) k (⟨d.toArray⟩ : ByteArray).size [] = true := by rw [size_len]; exact hh
      have hb4 : (k == 4) = false := beq_eq_false_iff_ne.2 hk
      go_wp2_with fail
      go_region_held3 (fun w' => w'.cell? ⟨w.heap.size, 0, none⟩ = some (.string ⟨p.toArray⟩) ∧ w'.cell? ⟨w.heap.size, 1, none⟩ = some (.int .i64 k) ∧ w'.cell? ⟨w.heap.size, 2, none⟩ = some (.string ⟨d.toArray⟩))
        (first | exact ⟨(hc2 _ _ hs1).trans d0, (hc2 _ _ hs1).trans d1, (hc2 _ _ hs1).trans d2⟩ | exact ⟨(World.cell?_of_block hq).trans ((hc2 _ _ hs1).trans d0), (World.cell?_of_block hq).trans ((hc2 _ _ hs1).trans d1), (World.cell?_of_block hq).trans ((hc2 _ _ hs1).trans d2)⟩ | go_keep)
        (first | (go_at_call 61; refine (name_any ⟨p, k, d⟩ _).mono ?_; rintro e w4 ⟨rfl, hb2⟩; obtain ⟨hc2, hf2⟩ := bcell hb2; have hb2' := below_two ((Below.refl _ _).drew) hb2) | (go_at_call 60; refine (cut_any _ _).mono ?_; rintro e w' ⟨rfl, rfl⟩) | (go_at_call 59; refine (entry_any w0 _ R v _ _ ⟨((nameOf ⟨p, k, d⟩).take 100).toArray⟩ ⟨#[]⟩ ⟨d.toArray⟩ k hG (HW1.out.belowW hb2') hh' hdl hbl' hm').mono ?_; rintro e w5 ⟨rfl, v5, hW5, hfr5, how5⟩; have hq : w5.heap[w.heap.size]? = w4.heap[w.heap.size]? := hfr5 _ (Nat.lt_of_lt_of_le hs1 hb2'.size) (by omega) hvl))
      have HW5 := Lib.hid hW5
      have HFR5 := Lib.hid hfr5
      have HB4 := Lib.hid hb2'
      have HOW5 := Lib.hid how5
      clear hW5 hfr5 how5 hb2' hc2 hf2 hb2 hq
      go_wp2_with fail
      go_end0
      refine ⟨rfl, v5, ?_, fun j hj hR hv => ?_, fun j hj => (HOW5.out j hj).imp id (fun h => by have := HB4.out.size; omega)⟩
      · have e : b ++ nodeOf ⟨p, k, d⟩ = b ++ ownOf ⟨p, k, d⟩ := by unfold nodeOf; rw [HNP.out.1, List.nil_append]
        rw [e, HNP.out.2]
        unfold ownOf
        rw [if_neg hk]
        exact HW5.out
      · rw [HFR5.out j (Nat.lt_of_lt_of_le (Nat.lt_trans hj hs1) HB4.out.size) hR hv, HB4.out.block j (Nat.lt_trans hj hs1), HF1.out j hj]
  · have hnp : paxOf ⟨p, k, d⟩ = entryOf [112, 97, 120] 5 [] x ∧ nodeN ⟨p, k, d⟩ = 2 := by
      unfold paxOf nodeN; rw [← HX.out, if_neg hx0, if_neg hx0]; exact ⟨rfl, rfl⟩
    have HNP := Lib.hid hnp
    have bx : x.isEmpty = false := by simpa using hx0
    have hxl : x.length ≤ 100000 := by rw [HX.out]; exact extraOf_le _ HN.out.path HN.out.data
    have hhx := HN.out.pax (by rw [← HX.out]; exact hx0)
    rw [← HX.out] at hhx
    have hhp : headB [112, 97, 120] 5 (⟨x.toArray⟩ : ByteArray).size [] = true := by rw [size_len]; exact hhx
    have HENT := Lib.hid (entry_any w0 w1 R v b m ⟨#[112, 97, 120]⟩ ⟨#[]⟩ ⟨x.toArray⟩ 5 hG HW1.out hhp (by rw [size_len]; show x.length ≤ _; omega) (by omega) (by omega))
    have hent := entryOf_le [112, 97, 120] [] x 5 hhx hxl
    clear hnp hx0 hhp hhx
    go_wp2_with fail
    refine HENT.out.mono ?_
    rintro e w2 ⟨rfl, v2, hW2, hfr2, how2⟩
    have hq2 := hfr2 w.heap.size hs1 (by omega) hvl
    have q0 : w2.cell? ⟨w.heap.size, 0, none⟩ = some (.string ⟨p.toArray⟩) := (World.cell?_of_block hq2).trans d0
    have q1 : w2.cell? ⟨w.heap.size, 1, none⟩ = some (.int .i64 k) := (World.cell?_of_block hq2).trans d1
    have q2 : w2.cell? ⟨w.heap.size, 2, none⟩ = some (.string ⟨d.toArray⟩) := (World.cell?_of_block hq2).trans d2
    have hs2 : w.heap.size < w2.heap.size := cell_lt q0
    have hbl' : (b ++ entryOf [112, 97, 120] 5 [] x).length ≤ 100000000 := by rw [List.length_append]; omega
    have hm' : m + 1 ≤ 1000000 := by omega
    have HOW2 : Hid (∀ j, v2.ownBlock = some j → v.ownBlock = some j ∨ w.heap.size < j) := Lib.hid fun j hj => (how2 j hj).imp id (fun h => by omega)
    have hvl2 : v2.ownBlock ≠ some w.heap.size := fun e => (HOW2.out _ e).elim hvl (fun h => by omega)
    have HW2 := Lib.hid hW2
    have HFR2 := Lib.hid hfr2
    clear hW2 hfr2 how2 hq2 d0 d1 d2 HENT hent
    by_cases hk : k = 4
    · subst hk
      have hh := HN.out.link rfl
      go_wp2_with fail
      go_region_held3 (fun w' => w'.cell? ⟨w.heap.size, 0, none⟩ = some (.string ⟨p.toArray⟩) ∧ w'.cell? ⟨w.heap.size, 1, none⟩ = some (.int .i64 4) ∧ w'.cell? ⟨w.heap.size, 2, none⟩ = some (.string ⟨d.toArray⟩))
        (first | exact ⟨(hc2 _ _ hs2).trans q0, (hc2 _ _ hs2).trans q1, (hc2 _ _ hs2).trans q2⟩ | exact ⟨(World.cell?_of_block hq).trans ((hc2 _ _ hs2).trans q0), (World.cell?_of_block hq).trans ((hc2 _ _ hs2).trans q1), (World.cell?_of_block hq).trans ((hc2 _ _ hs2).trans q2)⟩ | go_keep)
        (first | (go_at_call 61; refine (name_any ⟨p, 4, d⟩ _).mono ?_; rintro e w4 ⟨rfl, hb2⟩; obtain ⟨hc2, hf2⟩ := bcell hb2; have hb2' := below_two ((Below.refl _ _).drew) hb2) | (go_at_call 60; refine (cut_any _ _).mono ?_; rintro e w' ⟨rfl, rfl⟩) | (go_at_call 59; refine (entry_any w0 _ R v2 _ _ ⟨((nameOf ⟨p, 4, d⟩).take 100).toArray⟩ ⟨(d.take 100).toArray⟩ ⟨#[]⟩ 4 hG (HW2.out.belowW hb2') hh (by decide) hbl' hm').mono ?_; rintro e w5 ⟨rfl, v5, hW5, hfr5, how5⟩; have hq : w5.heap[w.heap.size]? = w4.heap[w.heap.size]? := hfr5 _ (Nat.lt_of_lt_of_le hs2 hb2'.size) (by omega) hvl2))
      have HW5 := Lib.hid hW5
      have HFR5 := Lib.hid hfr5
      have HB4 := Lib.hid hb2'
      have HOW5 := Lib.hid how5
      clear hW5 hfr5 how5 hb2' hc2 hf2 hb2 hq
      go_wp2_with fail
      go_end0
      refine ⟨rfl, v5, ?_, fun j hj hR hv => ?_, fun j hj => (HOW5.out j hj).elim (fun h => (HOW2.out j h).imp id (fun h => by omega)) (fun h => .inr (by have := HB4.out.size; omega))⟩
      · have e : b ++ nodeOf ⟨p, 4, d⟩ = b ++ entryOf [112, 97, 120] 5 [] x ++ ownOf ⟨p, 4, d⟩ := by unfold nodeOf; rw [HNP.out.1, List.append_assoc]
        rw [e, HNP.out.2]
        unfold ownOf
        rw [if_pos rfl]
        exact HW5.out
      · have hv2 : v2.ownBlock ≠ some j := fun e => (HOW2.out j e).elim hv (fun h => by omega)
        rw [HFR5.out j (Nat.lt_of_lt_of_le (Nat.lt_trans hj hs2) HB4.out.size) hR hv2, HB4.out.block j (Nat.lt_trans hj hs2), HFR2.out j (Nat.lt_trans hj hs1) hR hv, HF1.out j hj]
    · skip
      have hh := HN.out.own hk
      have hdl : (⟨d.toArray⟩ : ByteArray).size ≤ 1000000 := by rw [size_len]; have := HN.out.data; show d.length ≤ _; simp only at this; omega
      have hh' : headB ((nameOf ⟨p, k, d⟩).take 100) k (⟨d.toArray⟩ : ByteArray).size [] = true := by rw [size_len]; exact hh
      have hb4 : (k == 4) = false := beq_eq_false_iff_ne.2 hk
      go_wp2_with fail
      go_region_held3 (fun w' => w'.cell? ⟨w.heap.size, 0, none⟩ = some (.string ⟨p.toArray⟩) ∧ w'.cell? ⟨w.heap.size, 1, none⟩ = some (.int .i64 k) ∧ w'.cell? ⟨w.heap.size, 2, none⟩ = some (.string ⟨d.toArray⟩))
        (first | exact ⟨(hc2 _ _ hs2).trans q0, (hc2 _ _ hs2).trans q1, (hc2 _ _ hs2).trans q2⟩ | exact ⟨(World.cell?_of_block hq).trans ((hc2 _ _ hs2).trans q0), (World.cell?_of_block hq).trans ((hc2 _ _ hs2).trans q1), (World.cell?_of_block hq).trans ((hc2 _ _ hs2).trans q2)⟩ | go_keep)
        (first | (go_at_call 61; refine (name_any ⟨p, k, d⟩ _).mono ?_; rintro e w4 ⟨rfl, hb2⟩; obtain ⟨hc2, hf2⟩ := bcell hb2; have hb2' := below_two ((Below.refl _ _).drew) hb2) | (go_at_call 60; refine (cut_any _ _).mono ?_; rintro e w' ⟨rfl, rfl⟩) | (go_at_call 59; refine (entry_any w0 _ R v2 _ _ ⟨((nameOf ⟨p, k, d⟩).take 100).toArray⟩ ⟨#[]⟩ ⟨d.toArray⟩ k hG (HW2.out.belowW hb2') hh' hdl hbl' hm').mono ?_; rintro e w5 ⟨rfl, v5, hW5, hfr5, how5⟩; have hq : w5.heap[w.heap.size]? = w4.heap[w.heap.size]? := hfr5 _ (Nat.lt_of_lt_of_le hs2 hb2'.size) (by omega) hvl2))
      have HW5 := Lib.hid hW5
      have HFR5 := Lib.hid hfr5
      have HB4 := Lib.hid hb2'
      have HOW5 := Lib.hid how5
      clear hW5 hfr5 how5 hb2' hc2 hf2 hb2 hq
      go_wp2_with fail
      go_end0
      refine ⟨rfl, v5, ?_, fun j hj hR hv => ?_, fun j hj => (HOW5.out j hj).elim (fun h => (HOW2.out j h).imp id (fun h => by omega)) (fun h => .inr (by have := HB4.out.size; omega))⟩
      · have e : b ++ nodeOf ⟨p, k, d⟩ = b ++ entryOf [112, 97, 120] 5 [] x ++ ownOf ⟨p, k, d⟩ := by unfold nodeOf; rw [HNP.out.1, List.append_assoc]
        rw [e, HNP.out.2]
        unfold ownOf
        rw [if_neg hk]
        exact HW5.out
      · have hv2 : v2.ownBlock ≠ some j := fun e => (HOW2.out j e).elim hv (fun h => by omega)
        rw [HFR5.out j (Nat.lt_of_lt_of_le (Nat.lt_trans hj hs2) HB4.out.size) hR hv2, HB4.out.block j (Nat.lt_trans hj hs2), HFR2.out j (Nat.lt_trans hj hs1) hR hv, HF1.out j hj]
end Go.Proofs.YtbkjjapeojclpaaGreatDoor
