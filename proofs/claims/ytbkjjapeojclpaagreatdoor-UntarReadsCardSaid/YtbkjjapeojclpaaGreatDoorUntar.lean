/- untar: record, told, node, ended. -/
import Derived.Test.YtbkjjapeojclpaaGreatDoorEntry
namespace Go.Proofs.YtbkjjapeojclpaaGreatDoor
set_option linter.unusedVariables false
set_option linter.unusedSimpArgs false
open Go.RowKit Go.Proofs.YtbkjjapeojclpaaGreatDoorW.PrintWords
set_option maxHeartbeats 400000
set_option maxRecDepth 100000

theorem results_tmp4 {fn : Func} {t u v x : Tmp} (h : fn.results = #[.tmp t, .tmp u, .tmp v, .tmp x]) (tmps : Array Value) (P : Program) (w : World) :
    (results fn tmps).run P w = .ok (.tuple #[tmps.getD t undef, tmps.getD u undef, tmps.getD v undef, tmps.getD x undef]) w := by
  simp [results, h]
/-- What record reads. -/
structure Rc where
  key : Bs
  value : Bs
  rest : Bs
  ok : Bool
def rcSeg (x : Bs) (n : Nat) : Bs := (x.drop ((cut1 32 x).length + 1)).take (n - ((cut1 32 x).length + 1))
def rcB (x : Bs) : Bool := atoiOk (cut1 32 x) && decide (((cut1 32 x).length : Int) < atoiN (cut1 32 x)) && decide (atoiN (cut1 32 x) ≤ x.length)
def rcF (x : Bs) : Rc :=
  if rcB x then ⟨cut1 61 (rcSeg x (atoiN (cut1 32 x)).toNat), Lib.trimSuffix (cut2 61 (rcSeg x (atoiN (cut1 32 x)).toNat)) [10], x.drop (atoiN (cut1 32 x)).toNat, (rcSeg x (atoiN (cut1 32 x)).toNat).contains 61⟩
  else ⟨[], [], [], false⟩
def Rc.val (r : Rc) : Value := .tuple #[.string ⟨r.key.toArray⟩, .string ⟨r.value.toArray⟩, .string ⟨r.rest.toArray⟩, .bool r.ok]
theorem cut1_le (c : UInt8) (l : Bs) : (cut1 c l).length ≤ l.length := by
  unfold cut1
  exact (List.takeWhile_sublist _).length_le
theorem cut2_le (c : UInt8) (l : Bs) : (cut2 c l).length ≤ l.length := by
  unfold cut2
  have := (List.dropWhile_sublist (l := l) (· != c)).length_le
  rw [List.length_drop]; omega
theorem record_any (x : ByteArray) (w : World) (hG : Glob w) (hx : x.size ≤ 4000000) :
    Calls Tryz.prog 51 #[.string x] w fun e w' => e = .returned (rcF x.data.toList).val ∧ Below w.heap.size w w' := by
  have hsz := size_len x
  obtain ⟨l, hl⟩ : ∃ l, l = x.data.toList := ⟨_, rfl⟩
  rw [← hl] at hsz ⊢
  obtain ⟨dg, hdg⟩ : ∃ dg, dg = cut1 32 l := ⟨_, rfl⟩
  have hdl : dg.length ≤ l.length := by rw [hdg]; exact cut1_le _ _
  have hc1 := Cut_any x 32 w hG (by omega)
  rw [← hl, ← hdg] at hc1
  have HC1 := Lib.hid hc1
  have HA : Hid (∀ W, Glob W → Calls Tryz.prog 74 #[.string ⟨dg.toArray⟩] W (AtoiPost W dg)) := Lib.hid fun W h => Atoi_any ⟨dg.toArray⟩ W h (by rw [size_len]; show dg.length ≤ _; omega)
  have hrc : rcF l = if (atoiOk dg && decide ((dg.length : Int) < atoiN dg) && decide (atoiN dg ≤ l.length)) = true then ⟨cut1 61 (rcSeg l (atoiN dg).toNat), Lib.trimSuffix (cut2 61 (rcSeg l (atoiN dg).toNat)) [10], l.drop (atoiN dg).toNat, (rcSeg l (atoiN dg).toNat).contains 61⟩ else ⟨[], [], [], false⟩ := by
    unfold rcF rcB; rw [hdg]
  obtain ⟨n, hn⟩ : ∃ n, n = atoiN dg := ⟨_, rfl⟩
  obtain ⟨ok, hok⟩ : ∃ ok, ok = atoiOk dg := ⟨_, rfl⟩
  rw [← hn, ← hok] at hrc
  have HA2 : Hid (∀ W, Glob W → Calls Tryz.prog 74 #[.string ⟨dg.toArray⟩] W (fun e w' => ∃ v, e = .returned (.tuple #[.int .i64 n, v]) ∧ ErrIs ok v ∧ Below W.heap.size W w')) := Lib.hid (by rw [hn, hok]; exact HA.out)
  have HSEG : Hid (rcSeg l n.toNat = (l.drop (dg.length + 1)).take (n.toNat - (dg.length + 1))) := Lib.hid (by unfold rcSeg; rw [hdg])
  have HRC := Lib.hid hrc
  have HL := Lib.hid hl
  have HDG := Lib.hid hdg
  clear hl hc1 HA hrc hn hok hdg
  cases ok with
  | false =>
    have HSZ := Lib.hid hsz
    clear hsz
    go_enter Tryz.func51, Tryz.ntmps51
    go_wp2_with fail
    refine HC1.out.mono ?_
    rintro e w1 ⟨rfl, hb1⟩
    go_wp2_with fail
    refine (HA2.out w1 (hG.below' hb1)).mono ?_
    rintro e w2 ⟨v, rfl, ⟨t, p, rfl⟩, hb2⟩
    go_wp2_with fail
    refine bodyPost_ret (results_tmp4 rfl _ _ _) rfl ?_
    exact ⟨by rw [HRC.out]; rfl, below_two hb1 hb2⟩
  | true =>
    by_cases h1 : (dg.length : Int) < n
    · have b1 : decide (n ≤ (dg.length : Int)) = false := decide_eq_false (by omega)
      by_cases h2 : n ≤ (l.length : Int)
      · have b2 : decide ((x.size : Int) < n) = false := decide_eq_false (by omega)
        obtain ⟨m, rfl⟩ : ∃ m : Nat, n = m := ⟨n.toNat, by omega⟩
        have hrc2 : rcF l = ⟨cut1 61 (rcSeg l m), Lib.trimSuffix (cut2 61 (rcSeg l m)) [10], l.drop m, (rcSeg l m).contains 61⟩ := by
          rw [HRC.out, decide_eq_true h1, decide_eq_true h2]; rfl
        obtain ⟨sg, hsg⟩ : ∃ sg, sg = rcSeg l m := ⟨_, rfl⟩
        rw [← hsg] at hrc2
        have hsge : x.extract (dg.length + 1) m = ⟨sg.toArray⟩ := by
          rw [← mkS_data (x.extract _ _), Lib.extract_data, hsg, ← HL.out]
          have := HSEG.out
          simp only [Int.toNat_natCast] at this
          rw [this]
        have hsl : sg.length ≤ l.length := by rw [hsg]; unfold rcSeg; rw [List.length_take, List.length_drop]; omega
        obtain ⟨v2, hv2⟩ : ∃ v2, v2 = cut2 61 sg := ⟨_, rfl⟩
        have hvl : v2.length ≤ sg.length := by rw [hv2]; exact cut2_le _ _
        have hex2 : x.extract m x.size = ⟨(l.drop m).toArray⟩ := by
          rw [← mkS_data (x.extract _ _), Lib.extract_data, ← HL.out]
          rw [List.take_of_length_le (by rw [List.length_drop]; omega)]
        obtain ⟨ct, hct⟩ : ∃ ct, ct = sg.contains 61 := ⟨_, rfl⟩
        obtain ⟨k1, hk1⟩ : ∃ k1, k1 = cut1 61 sg := ⟨_, rfl⟩
        obtain ⟨tv, htv⟩ : ∃ tv, tv = Lib.trimSuffix v2 [10] := ⟨_, rfl⟩
        have HC2 : Hid (∀ W, Glob W → Calls Tryz.prog 73 #[.string ⟨sg.toArray⟩, .string ⟨#[61]⟩] W fun e w' => e = .returned (.tuple #[.string ⟨k1.toArray⟩, .string ⟨v2.toArray⟩, .bool ct]) ∧ Below W.heap.size W w') :=
          Lib.hid fun W h => by rw [hk1, hv2, hct]; exact Cut_any ⟨sg.toArray⟩ 61 W h (by rw [size_len]; show sg.length < _; omega)
        have HT : Hid (∀ W, Calls Tryz.prog 75 #[.string ⟨v2.toArray⟩, .string ⟨#[10]⟩] W fun e w' => e = .returned (.string ⟨tv.toArray⟩) ∧ W = w') :=
          Lib.hid fun W => by rw [htv]; exact TrimSuffix_any ⟨v2.toArray⟩ ⟨#[10]⟩ W (by rw [size_len]; show v2.length ≤ _; omega)
        rw [← hk1, ← hv2, ← hct, ← htv] at hrc2
        have HRC2 := Lib.hid hrc2
        have HSZ := Lib.hid hsz
        have HEX1 := Lib.hid hsge
        have HEX2 := Lib.hid hex2
        have hm1 : ((dg.length : Int) + 1) ≤ (m : Int) := by omega
        have hm2 : (m : Int) ≤ (x.size : Int) := by omega
        clear hrc2 hsg hsge hv2 hex2 hct hk1 htv HRC HSEG hsz h1 h2
        go_enter Tryz.func51, Tryz.ntmps51
        go_wp2_with fail
        refine HC1.out.mono ?_
        rintro e w1 ⟨rfl, hb1⟩
        go_wp2_with fail
        refine (HA2.out w1 (hG.below' hb1)).mono ?_
        rintro e w2 ⟨v, rfl, hv, hb2⟩
        obtain rfl : v = .nilIface := hv
        have hB2 := Lib.hid (below_two hb1 hb2)
        clear hb1 hb2
        go_wp2_with fail
        rw [HEX1.out]
        refine (HC2.out w2 (hG.below' hB2.out)).mono ?_
        rintro e w3 ⟨rfl, hb3⟩
        have hB3 := Lib.hid (below_two hB2.out hb3)
        clear hb3
        go_wp2_with fail
        refine wp_region_ext (by kernel_rfl) (by kernel_rfl) ?_
        repeat (go_big_quiet_step ((go_at_call 75; exact Calls.wext_of ((HT.out _).mono fun _ _ h => ⟨h.1, Below.of_eq h.2.symm⟩))))
        refine wpQuiet_nil ?_
        intro _ hw'
        obtain ⟨e4, rfl⟩ := hw'
        go_wp2_with fail
        refine bodyPost_ret (results_tmp4 rfl _ _ _) rfl ?_
        refine ⟨?_, hB3.out.trans ((wext_below _ _).mono hB3.out.size)⟩
        rw [HRC2.out]
        unfold Rc.val
        rw [← HEX2.out]
        rfl
      · have b2 : decide ((x.size : Int) < n) = true := decide_eq_true (by omega)
        have HSZ := Lib.hid hsz
        have hrc2 : rcF l = ⟨[], [], [], false⟩ := by rw [HRC.out, decide_eq_false h2, Bool.and_false]; rfl
        have HRC2 := Lib.hid hrc2
        clear hsz hrc2
        go_enter Tryz.func51, Tryz.ntmps51
        go_wp2_with fail
        refine HC1.out.mono ?_
        rintro e w1 ⟨rfl, hb1⟩
        go_wp2_with fail
        refine (HA2.out w1 (hG.below' hb1)).mono ?_
        rintro e w2 ⟨v, rfl, hv, hb2⟩
        obtain rfl : v = .nilIface := hv
        go_wp2_with fail
        refine bodyPost_ret (results_tmp4 rfl _ _ _) rfl ?_
        exact ⟨by rw [HRC2.out]; rfl, below_two hb1 hb2⟩
    · have b1 : decide (n ≤ (dg.length : Int)) = true := decide_eq_true (by omega)
      have HSZ := Lib.hid hsz
      have hrc2 : rcF l = ⟨[], [], [], false⟩ := by rw [HRC.out, decide_eq_false h1]; rfl
      have HRC2 := Lib.hid hrc2
      clear hsz hrc2
      go_enter Tryz.func51, Tryz.ntmps51
      go_wp2_with fail
      refine HC1.out.mono ?_
      rintro e w1 ⟨rfl, hb1⟩
      go_wp2_with fail
      refine (HA2.out w1 (hG.below' hb1)).mono ?_
      rintro e w2 ⟨v, rfl, hv, hb2⟩
      obtain rfl : v = .nilIface := hv
      go_wp2_with fail
      refine bodyPost_ret (results_tmp4 rfl _ _ _) rfl ?_
      exact ⟨by rw [HRC2.out]; rfl, below_two hb1 hb2⟩
theorem rcF_lt (x : Bs) (h : (rcF x).ok = true) : (rcF x).rest.length < x.length := by
  unfold rcF at h ⊢
  cases hb : rcB x with
  | false => rw [hb] at h; cases h
  | true =>
    simp only [if_pos]
    unfold rcB at hb
    simp only [Bool.and_eq_true, decide_eq_true_eq] at hb
    rw [List.length_drop]
    omega
def putRec (x : Ent) (k v : Bs) : Ent := if k = [112, 97, 116, 104] then { x with name := v } else { x with link := v }
def toldF (s : St) (x : Ent) (e : Bs) : Ent × St :=
  if e.isEmpty then (x, s) else if h : (rcF e).ok = true then toldF s (putRec x (rcF e).key (rcF e).value) (rcF e).rest else (x, ⟨s.l, true⟩)
termination_by e.length
decreasing_by exact rcF_lt e h
theorem toldF_nil (s : St) (x : Ent) : toldF s x [] = (x, s) := by rw [toldF]; rfl
theorem toldF_bad (s : St) (x : Ent) (e : Bs) (h : e ≠ []) (h2 : (rcF e).ok = false) : toldF s x e = (x, ⟨s.l, true⟩) := by
  rw [toldF, if_neg (by simpa using h), dif_neg (by rw [h2]; decide)]
theorem toldF_ok (s : St) (x : Ent) (e : Bs) (h : e ≠ []) (h2 : (rcF e).ok = true) : toldF s x e = toldF s (putRec x (rcF e).key (rcF e).value) (rcF e).rest := by
  rw [toldF, if_neg (by simpa using h), dif_pos h2]
def Ent.cells (x : Ent) : Array Value := #[.string ⟨x.name.toArray⟩, .string ⟨x.link.toArray⟩, .string ⟨x.data.toArray⟩, .int .i64 x.kind]
theorem fin4 {w0 w w5 W' : World} {R B : Nat} {s : St} (hW' : ∃ v0 v1 v2 v3, W' = (((w5.setCell ⟨B, 0, none⟩ v0).setCell ⟨B, 1, none⟩ v1).setCell ⟨B, 2, none⟩ v2).setCell ⟨B, 3, none⟩ v3)
    (hR : Rd w0 w5 R s) (hB : But R w w5) (hBB : w.heap.size ≤ B) (hRl : R < w.heap.size) : Rd w0 W' R s ∧ But R w W' := by
  obtain ⟨v0, v1, v2, v3, rfl⟩ := hW'
  have hle : w0.heap.size ≤ B := by have := hR.lo; omega
  have hk : ∀ k, k < w.heap.size → ((((w5.setCell ⟨B, 0, none⟩ v0).setCell ⟨B, 1, none⟩ v1).setCell ⟨B, 2, none⟩ v2).setCell ⟨B, 3, none⟩ v3).heap[k]? = w5.heap[k]? := fun k hk => by
    rw [Below.heap_setCell _ _ _ _ (by simp; omega), Below.heap_setCell _ _ _ _ (by simp; omega), Below.heap_setCell _ _ _ _ (by simp; omega), Below.heap_setCell _ _ _ _ (by simp; omega)]
  refine ⟨hR.keep (hk R hRl) ((((hR.below.setCell hle _).setCell hle _).setCell hle _).setCell hle _), ⟨?_, fun k hk' hR' => ?_⟩⟩
  · simp only [World.setCell, Array.size_modify]; exact hB.size
  · rw [hk k hk', hB.blk k hk' hR']
/-- What stands while records are told. -/
structure Tl (w0 w wr : World) (R : Nat) (s : St) (y : Ent) : Prop where
  rd : Rd w0 wr R s
  but : But R w wr
  bx : wr.heap[w.heap.size]? = some (.cells y.cells 67 (0, 0))
  be : wr.heap[w.heap.size + 1]? = some (.cells #[.string ⟨#[]⟩, .string ⟨#[]⟩, .string ⟨#[]⟩, .int .i64 0] 67 (0, 0))
theorem Tl.belowT {w0 w wr w' : World} {R : Nat} {s : St} {y : Ent} (h : Tl w0 w wr R s y) (hb : Below wr.heap.size wr w') : Tl w0 w w' R s y :=
  ⟨h.rd.belowR hb, h.but.trans (But.of hb), by rw [hb.block _ (Array.getElem?_eq_some_iff.1 h.bx).1]; exact h.bx, by rw [hb.block _ (Array.getElem?_eq_some_iff.1 h.be).1]; exact h.be⟩
theorem Tl.put {w0 w wr : World} {R : Nat} {s : St} {y : Ent} (h : Tl w0 w wr R s y) (hRl : R < w.heap.size) (i : Nat) (v : Bs) (y' : Ent) (hy : y'.cells = y.cells.setIfInBounds i (.string ⟨v.toArray⟩)) : Tl w0 w (wr.setCell ⟨w.heap.size, i, none⟩ (.string ⟨v.toArray⟩)) R s y' := by
  have hle : w0.heap.size ≤ w.heap.size := by have := h.rd.lo; omega
  refine ⟨h.rd.keep (Below.heap_setCell _ _ _ _ (by simp; omega)) (h.rd.below.setCell hle _), ⟨by simp only [World.setCell, Array.size_modify]; exact h.but.size, fun k hk hR => ?_⟩, ?_, ?_⟩
  · rw [Below.heap_setCell _ _ _ _ (by simp; omega), h.but.blk k hk hR]
  · rw [blk_set h.bx, hy]
  · rw [Below.heap_setCell _ _ _ _ (by simp)]; exact h.be
theorem Tl.mark {w0 w wr : World} {R : Nat} {s : St} {y : Ent} (h : Tl w0 w wr R s y) (hRl : R < w.heap.size) : Tl w0 w (wr.setCell ⟨R, 1, none⟩ (.bool true)) R ⟨s.l, true⟩ y := by
  obtain ⟨A, c, h1, h2, h3⟩ := h.rd.blk
  refine ⟨⟨⟨A, c, by rw [blk_set h1]; rfl, h2, h3⟩, h.rd.below.setCell h.rd.lo _, h.rd.lo⟩, h.but.trans (setCell_but _ _ _ _), ?_, ?_⟩
  · rw [Below.heap_setCell _ _ _ _ (by simp; omega)]; exact h.bx
  · rw [Below.heap_setCell _ _ _ _ (by simp; omega)]; exact h.be
theorem told_any (w0 w : World) (R : Nat) (s : St) (x : Ent) (e0 : Bs) (hG : Glob w0) (h : Rd w0 w R s) (he : e0.length ≤ 4000000) :
    Calls Tryz.prog 31 #[.pointer (some ⟨R, 0, none⟩), x.val, .string ⟨e0.toArray⟩] w (EntPost w0 w R (toldF s x e0).1 (toldF s x e0).2) := by
  obtain ⟨X, S, hXS⟩ : ∃ X S, (X, S) = toldF s x e0 := ⟨_, _, rfl⟩
  rw [← hXS]
  have HXS := Lib.hid hXS
  clear hXS
  unfold Ent.val
  go_enter Tryz.func31, Tryz.ntmps31
  go_wp2_with fail
  have hRl := h.lt
  go_loopw [2] (fun u wr => ∃ (e : Bs) (y : Ent), u = .string ⟨e.toArray⟩ ∧ e.length ≤ 4000000 ∧ Hid (Tl w0 w wr R s y) ∧ Hid (toldF s y e = (X, S))) (fun u _ => match u with | .string b => b.size | _ => 0)
  case atStart =>
    refine ⟨e0, x, rfl, he, Lib.hid ⟨(h.belowR ((Below.refl _ _).alloc (Nat.le_refl _) _)).belowR ((Below.refl _ _).alloc (Nat.le_refl _) _), (But.of ((Below.refl _ _).alloc (Nat.le_refl _) _)).trans (But.of ((Below.refl _ _).alloc (Nat.le_refl _) _)), ?_, ?_⟩, Lib.hid HXS.out.symm⟩
    · rw [((Below.refl _ _).alloc (Nat.le_refl _) _ : Below (w.alloc _).heap.size (w.alloc _) _).block _ (by simp)]; exact heap_alloc_new w _
    · have := heap_alloc_new (w.alloc (.cells x.cells 67)) (.cells #[.string ⟨#[]⟩, .string ⟨#[]⟩, .string ⟨#[]⟩, .int .i64 0] 67 (0, 0))
      unfold Ent.cells at this
      simpa using this
  case round =>
    obtain ⟨e, y, rfl, hel, HT, HF⟩ := hrel
    by_cases he0 : e = []
    · subst he0
      obtain ⟨rfl, rfl⟩ : y = X ∧ s = S := by have := HF.out; rw [toldF_nil] at this; exact Prod.mk.inj this
      have g0 : wr.cell? ⟨w.heap.size, 0, none⟩ = some (.string ⟨y.name.toArray⟩) := by rw [blk_cell HT.out.bx]; rfl
      have g1 : wr.cell? ⟨w.heap.size, 1, none⟩ = some (.string ⟨y.link.toArray⟩) := by rw [blk_cell HT.out.bx]; rfl
      have g2 : wr.cell? ⟨w.heap.size, 2, none⟩ = some (.string ⟨y.data.toArray⟩) := by rw [blk_cell HT.out.bx]; rfl
      have g3 : wr.cell? ⟨w.heap.size, 3, none⟩ = some (.int .i64 y.kind) := by rw [blk_cell HT.out.bx]; rfl
      have q0 : wr.cell? ⟨w.heap.size + 1, 0, none⟩ = some (.string ⟨#[]⟩) := by rw [blk_cell HT.out.be]; rfl
      have q1 : wr.cell? ⟨w.heap.size + 1, 1, none⟩ = some (.string ⟨#[]⟩) := by rw [blk_cell HT.out.be]; rfl
      have q2 : wr.cell? ⟨w.heap.size + 1, 2, none⟩ = some (.string ⟨#[]⟩) := by rw [blk_cell HT.out.be]; rfl
      have q3 : wr.cell? ⟨w.heap.size + 1, 3, none⟩ = some (.int .i64 0) := by rw [blk_cell HT.out.be]; rfl
      have k0 : ∀ i, wr.frozen? ⟨w.heap.size + 1, i, none⟩ = false := blk_frozen HT.out.be
      go_wp2_with fail
      refine bodyPost_ret (v := y.val) (by simp [results, Tryz.results31, go_sem, Ent.val, q0, q1, q2, q3]) rfl ?_
      exact ⟨rfl, fin4 ⟨_, _, _, _, rfl⟩ HT.out.rd HT.out.but (by omega) hRl⟩
    · obtain ⟨k, v, rest, ok, hr⟩ : ∃ k v rest ok, Rc.mk k v rest ok = rcF e := ⟨_, _, _, _, rfl⟩
      have hrec := record_any ⟨e.toArray⟩ wr (hG.below' HT.out.rd.below) (by rw [size_len]; exact hel)
      rw [show (⟨e.toArray⟩ : ByteArray).data.toList = e from rfl, ← hr] at hrec
      unfold Rc.val at hrec
      have be : e.isEmpty = false := by simpa using he0
      have HREC := Lib.hid hrec
      have HR := Lib.hid hr
      have HE0 := Lib.hid he0
      clear hrec hr he0
      cases ok with
      | false =>
        have hf : X = y ∧ S = ⟨s.l, true⟩ := by have := HF.out; rw [toldF_bad s y e HE0.out (by rw [← HR.out])] at this; exact ⟨(Prod.mk.inj this).1.symm, (Prod.mk.inj this).2.symm⟩
        obtain ⟨rfl, rfl⟩ := hf
        go_wp2_with fail
        refine HREC.out.mono ?_
        rintro e' w1 ⟨rfl, hb1⟩
        have HT1 := Lib.hid (HT.out.belowT hb1)
        obtain ⟨A, c, hb, hC, hc⟩ := HT1.out.rd.blk
        have d1 : w1.cell? ⟨R, 1, none⟩ = some (.bool s.bad) := by simp [World.cell?, hb]
        have f1 : w1.frozen? ⟨R, 1, none⟩ = false := blk_frozen hb 1
        have HT2 := Lib.hid (HT1.out.mark hRl)
        obtain ⟨W2, hW2⟩ : ∃ W2, W2 = w1.setCell ⟨R, 1, none⟩ (.bool true) := ⟨_, rfl⟩
        rw [← hW2] at HT2
        have g0 : W2.cell? ⟨w.heap.size, 0, none⟩ = some (.string ⟨X.name.toArray⟩) := by rw [blk_cell HT2.out.bx]; rfl
        have g1 : W2.cell? ⟨w.heap.size, 1, none⟩ = some (.string ⟨X.link.toArray⟩) := by rw [blk_cell HT2.out.bx]; rfl
        have g2 : W2.cell? ⟨w.heap.size, 2, none⟩ = some (.string ⟨X.data.toArray⟩) := by rw [blk_cell HT2.out.bx]; rfl
        have g3 : W2.cell? ⟨w.heap.size, 3, none⟩ = some (.int .i64 X.kind) := by rw [blk_cell HT2.out.bx]; rfl
        have q0 : W2.cell? ⟨w.heap.size + 1, 0, none⟩ = some (.string ⟨#[]⟩) := by rw [blk_cell HT2.out.be]; rfl
        have q1 : W2.cell? ⟨w.heap.size + 1, 1, none⟩ = some (.string ⟨#[]⟩) := by rw [blk_cell HT2.out.be]; rfl
        have q2 : W2.cell? ⟨w.heap.size + 1, 2, none⟩ = some (.string ⟨#[]⟩) := by rw [blk_cell HT2.out.be]; rfl
        have q3 : W2.cell? ⟨w.heap.size + 1, 3, none⟩ = some (.int .i64 0) := by rw [blk_cell HT2.out.be]; rfl
        have k0 : ∀ i, W2.frozen? ⟨w.heap.size + 1, i, none⟩ = false := blk_frozen HT2.out.be
        have HW2 := Lib.hid hW2
        clear hW2 hb hC hc hb1 HREC
        go_wp2_with (rw [← HW2.out])
        refine bodyPost_ret (v := X.val) (by simp [results, Tryz.results31, go_sem, Ent.val, q0, q1, q2, q3]) rfl ?_
        exact ⟨rfl, fin4 ⟨_, _, _, _, rfl⟩ HT2.out.rd HT2.out.but (by omega) hRl⟩
      | true =>
        have hlt := rcF_lt e (by rw [← HR.out])
        rw [← HR.out] at hlt
        simp only at hlt
        have HF2 : Hid (toldF s (putRec y k v) rest = (X, S)) := Lib.hid (by rw [← HF.out, toldF_ok s y e HE0.out (by rw [← HR.out]), ← HR.out])
        have hsz1 : (⟨rest.toArray⟩ : ByteArray).size = rest.length := by rw [size_len]
        have hsz2 : (⟨e.toArray⟩ : ByteArray).size = e.length := by rw [size_len]
        have HLT : Hid ((⟨rest.toArray⟩ : ByteArray).size < (⟨e.toArray⟩ : ByteArray).size) := Lib.hid (by omega)
        have hrl : rest.length ≤ 4000000 := by omega
        clear hsz1 hsz2 hlt
        go_wp2_with fail
        refine HREC.out.mono ?_
        rintro e' w1 ⟨rfl, hb1⟩
        have HT1 := Lib.hid (HT.out.belowT hb1)
        have g0 : w1.cell? ⟨w.heap.size, 0, none⟩ = some (.string ⟨y.name.toArray⟩) := by rw [blk_cell HT1.out.bx]; rfl
        have g1 : w1.cell? ⟨w.heap.size, 1, none⟩ = some (.string ⟨y.link.toArray⟩) := by rw [blk_cell HT1.out.bx]; rfl
        have k0 : ∀ i, w1.frozen? ⟨w.heap.size, i, none⟩ = false := blk_frozen HT1.out.bx
        clear hb1 HREC
        by_cases hk : k = [112, 97, 116, 104]
        · subst hk
          have HT2 : Hid (Tl w0 w (w1.setCell ⟨w.heap.size, 0, none⟩ (.string ⟨v.toArray⟩)) R s (putRec y [112, 97, 116, 104] v)) := Lib.hid (HT1.out.put hRl 0 v _ rfl)
          go_wp2_with fail
          go_roundw
          case rel => exact ⟨rest, _, rfl, hrl, HT2, HF2⟩
          case measure => exact HLT.out
        · have bk : (k == [112, 97, 116, 104]) = false := beq_eq_false_iff_ne.2 hk
          have HT2 : Hid (Tl w0 w (w1.setCell ⟨w.heap.size, 1, none⟩ (.string ⟨v.toArray⟩)) R s (putRec y k v)) := Lib.hid (HT1.out.put hRl 1 v _ (by unfold putRec; rw [if_neg hk]; rfl))
          go_wp2_with fail
          go_roundw
          case rel => exact ⟨rest, _, rfl, hrl, HT2, HF2⟩
          case measure => exact HLT.out
end Go.Proofs.YtbkjjapeojclpaaGreatDoor
