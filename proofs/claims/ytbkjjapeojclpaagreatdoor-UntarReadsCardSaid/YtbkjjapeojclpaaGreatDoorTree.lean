/- Package tree: what its functions answer. -/
import Derived.Test.YtbkjjapeojclpaaGreatDoorPath
import Derived.Test.YtbkjjapeojclpaaGreatDoorMaps
namespace Go.Proofs.YtbkjjapeojclpaaGreatDoor
set_option linter.unusedVariables false
set_option linter.unusedSimpArgs false
open Go.RowKit Go.Proofs.YtbkjjapeojclpaaGreatDoorW.PrintWords
set_option maxHeartbeats 400000

theorem goodNd_path {n : Nd} (h : pathOk n.path = false) : goodNd n = false := by simp [goodNd, h]
theorem goodNd_data {n : Nd} (h : ¬ n.data.length ≤ 400) : goodNd n = false := by simp only [goodNd, decide_eq_false h, Bool.and_false, Bool.false_and]
theorem goodNd_kind {n : Nd} (h : pathOk n.path = true) (h2 : n.data.length ≤ 400) : goodNd n = ((n.kind == 1 && n.data.isEmpty) || n.kind == 2 || n.kind == 3 || (n.kind == 4 && !n.data.isEmpty && !n.data.contains 0)) := by
  simp only [goodNd, h, decide_eq_true h2, Bool.true_and]

theorem Good_any (p d : ByteArray) (k : Int) (w : World) (hG : Glob w) :
    Calls Tryz.prog 40 #[.agg #[.string p, .int .i64 k, .string d]] w fun e w' => e = .returned (.bool (goodNd ⟨p.data.toList, k, d.data.toList⟩)) ∧ Below w.heap.size w w' := by
  have hm := fun W (h : Glob W) => May_any p W h
  cases hp : pathOk p.data.toList with
  | false =>
    rw [hp] at hm
    rw [goodNd_path (n := ⟨p.data.toList, k, d.data.toList⟩) hp]
    have HM := Lib.hid hm
    clear hm hp
    have hG1 := fun o => hG.below' ((Below.refl w.heap.size w).alloc (Nat.le_refl _) o)
    go_enter Tryz.func40, Tryz.ntmps40
    go_wp2_with (go_at_call 62; refine (HM.out _ (hG1 _)).mono ?_; rintro e w1 ⟨rfl, hb⟩; obtain ⟨hc, hf⟩ := bcell hb)
    go_ret
    exact ⟨rfl, ((Below.refl _ _).alloc (Nat.le_refl _) _).trans (hb.mono (by simp))⟩
  | true =>
    rw [hp] at hm
    have HM := Lib.hid hm
    clear hm
    have hG1 := fun o => hG.below' ((Below.refl w.heap.size w).alloc (Nat.le_refl _) o)
    by_cases hd : d.size ≤ 400
    · have hg := goodNd_kind (n := ⟨p.data.toList, k, d.data.toList⟩) hp (by rw [← size_len]; exact hd)
      rw [hg]
      obtain ⟨r, hr⟩ : ∃ r, r = ((k == 1 && d.data.toList.isEmpty) || k == 2 || k == 3 || (k == 4 && !d.data.toList.isEmpty && !d.data.toList.contains 0)) := ⟨_, rfl⟩
      simp only []
      rw [← hr]
      have HR := Lib.hid hr
      clear hg hp hr
      go_enter Tryz.func40, Tryz.ntmps40
      go_wp2_with (first | (go_at_call 62; refine (HM.out _ (hG1 _)).mono ?_; rintro e w1 ⟨rfl, hb⟩; obtain ⟨hc, hf⟩ := bcell hb) | (go_at_call 63; refine (IndexByte_any _ _ _).mono ?_; rintro e w' ⟨rfl, rfl⟩))
      all_goals (go_ret; refine ⟨congrArg (fun b => Ending.returned (Value.bool b)) (?_ : _ = r), ((Below.refl _ _).alloc (Nat.le_refl _) _).trans (hb.mono (by simp))⟩)
      all_goals (rw [HR.out]; clear HR HM hc hf hb hG1 hG)
      all_goals ((try simp only [Lib.toList_data] at *); generalize d.data.toList = l at *)
      all_goals simp_all [index_lt]
    · rw [goodNd_data (n := ⟨p.data.toList, k, d.data.toList⟩) (by rw [← size_len]; exact hd)]
      clear hp
      go_enter Tryz.func40, Tryz.ntmps40
      go_wp2_with (go_at_call 62; refine (HM.out _ (hG1 _)).mono ?_; rintro e w1 ⟨rfl, hb⟩; obtain ⟨hc, hf⟩ := bcell hb)
      go_ret
      exact ⟨rfl, ((Below.refl _ _).alloc (Nat.le_refl _) _).trans (hb.mono (by simp))⟩

theorem zero_bool (w : World) : (zeroValue 4).run Tryz.prog w = .ok (.bool false) w := by kernel_rfl
theorem parentR_len (p : Bs) : (parentR p).length ≤ p.length := by
  unfold parentR parentOf
  split
  · rw [List.length_take]; omega
  · simp
theorem follows_none (p d : ByteArray) (k : Int) (A : Option Addr) (c b : Nat) (w : World) :
    Calls Tryz.prog 41 #[.agg #[.string p, .int .i64 k, .string d], .slice A 0 c, .map (some b)] w fun e w' => e = .returned (.bool p.data.toList.isEmpty) ∧ Below w.heap.size w w' := by
  go_enter Tryz.func41, Tryz.ntmps41
  go_wp2_with fail
  go_ret
  exact ⟨congrArg (fun b => Ending.returned (Value.bool b)) (by rw [← Lib.toList_data]), (Below.refl _ _).alloc (Nat.le_refl _) _⟩

theorem follows_some (p d q : ByteArray) (k : Int) (ad : Addr) (j c b nn : Nat) (f : Bs → Option Bool) (w : World) (hG : Glob w) (hj : j ≤ 400) (hps : p.size ≤ 140737488355328)
    (hcell : w.cell? (ad.add (j * 3)) = some (.string q)) (hM : MapIs w 9 Value.bool b nn f) :
    Calls Tryz.prog 41 #[.agg #[.string p, .int .i64 k, .string d], .slice (some ad) (j + 1) c, .map (some b)] w fun e w' =>
      e = .returned (.bool (parentB p.data.toList && Op.bytesLess q.data.toList p.data.toList && (f (parentR p.data.toList)).getD false)) ∧ Below w.heap.size w w' := by
  have hG1 := fun o => hG.below' ((Below.refl w.heap.size w).alloc (Nat.le_refl _) o)
  have hp := fun W (h : Glob W) => Parent_any p W h
  cases hpb : parentB p.data.toList with
  | false =>
    rw [hpb] at hp
    have HP := Lib.hid hp
    clear hp hpb hM hcell
    simp only [Bool.false_and]
    go_enter Tryz.func41, Tryz.ntmps41
    go_wp2_with (go_at_call 64; refine (HP.out _ (hG1 _)).mono ?_; rintro e w1 ⟨rfl, hb⟩)
    go_quiet (fail)
    go_wp2
    go_ret
    exact ⟨rfl, (((Below.refl _ _).alloc (Nat.le_refl _) _).trans (hb.mono (by simp))).trans (below_drewN' _ _ _)⟩
  | true =>
    rw [hpb] at hp
    have HP := Lib.hid hp
    obtain ⟨r, hr⟩ : ∃ r, r = (f (parentR p.data.toList)).getD false := ⟨_, rfl⟩
    rw [← hr]
    have HM := Lib.hid hM
    have HR := Lib.hid hr
    clear hp hpb hM hr
    obtain ⟨ls, hls⟩ : ∃ ls, ls = Op.bytesLess q.data.toList p.data.toList := ⟨_, rfl⟩
    rw [← hls]
    have HLS := Lib.hid hls
    clear hls
    go_enter Tryz.func41, Tryz.ntmps41
    go_wp2_with (go_at_call 64; refine (HP.out _ (hG1 _)).mono ?_; rintro e w1 ⟨rfl, hb⟩)
    obtain ⟨hc, hf⟩ := bcell hb
    have hcell1 : w1.cell? (ad.add (j * 3)) = some (.string q) := by
      exact pw_cell_below (((Below.refl _ _).alloc (Nat.le_refl _) _).trans (hb.mono (by simp))) hcell
    have hq : Op.bytesLess q.toList p.toList = ls := by rw [Lib.toList_data, Lib.toList_data]; exact HLS.out.symm
    cases ls with
    | false =>
      go_quiet (fail)
      go_wp2
      go_ret
      exact ⟨rfl, (((Below.refl _ _).alloc (Nat.le_refl _) _).trans (hb.mono (by simp))).trans (below_drewN' _ _ _)⟩
    | true =>
      have hlook : ∀ nq, (Instr.lookup 79 (.map (some b)) (.string ⟨(parentR p.data.toList).toArray⟩) false).run Tryz.prog (w1.drewN nq) = .ok (.bool r) (w1.drewN nq) := by
        intro nq
        have hM1 := (HM.out.below (((Below.refl _ _).alloc (Nat.le_refl _) _).trans (hb.mono (by simp)))).blk (w' := w1.drewN nq) rfl
        have h := hM1.look (fun _ _ h => Value.bool.inj h) Tryz.underlying9 Tryz.underlying79 (zero_bool _) ⟨(parentR p.data.toList).toArray⟩ (by have := parentR_len p.data.toList; rw [← size_len] at this; show (parentR p.data.toList).length ≤ _; unfold maxLen; omega)
        rw [h, HR.out]
      go_quiet (fail)
      go_wp2
      go_ret
      exact ⟨rfl, (((Below.refl _ _).alloc (Nat.le_refl _) _).trans (hb.mono (by simp))).trans (below_drewN' _ _ _)⟩

/-- The kind of the last node of a list that has this path: is it a directory? -/
def dirF (l : List Nd) (q : Bs) : Option Bool := (l.reverse.find? (fun n => n.path = q)).map (fun n => n.kind == 1)
theorem dirF_snoc (l : List Nd) (n : Nd) : dirF (l ++ [n]) = fun q => if q = n.path then some (n.kind == 1) else dirF l q := by
  funext q
  unfold dirF
  rw [List.reverse_append, List.reverse_singleton, List.singleton_append, List.find?_cons]
  by_cases h : q = n.path
  · subst h; simp
  · have : ¬ n.path = q := fun e => h e.symm
    simp [h, this]
/-- May node i stand where it stands? -/
def okAt (t : List Nd) (i : Nat) : Bool :=
  decide (i < 400) && goodNd (t.getD i default) &&
    (if i = 0 then (t.getD i default).path.isEmpty else
      parentB (t.getD i default).path && Op.bytesLess (t.getD (i - 1) default).path (t.getD i default).path && (dirF (t.take i) (parentR (t.getD i default).path)).getD false)
def badOf (t : List Nd) : Int := if t.isEmpty then 0 else match (List.range t.length).find? (fun i => !okAt t i) with | some i => i | none => -1
def treeOk (t : List Nd) : Bool := decide (badOf t < 0)

theorem badOf_at {t : List Nd} {k : Nat} (hk : k < t.length) (h1 : ∀ i, i < k → okAt t i = true) (h2 : okAt t k = false) : badOf t = k := by
  unfold badOf
  have h0 : t.isEmpty = false := by cases t <;> simp_all
  rw [h0]
  have : (List.range t.length).find? (fun i => !okAt t i) = some k := by
    rw [List.find?_eq_some_iff_append]
    refine ⟨by simp [h2], List.range k, (List.range' (k + 1) (t.length - k - 1)), ?_, fun a ha => ?_⟩
    · rw [List.range_eq_range', List.range_eq_range']
      have e := List.range'_append (s := 0) (m := k) (n := t.length - k) (step := 1)
      rw [show k + (t.length - k) = t.length from by omega] at e
      rw [← e, show t.length - k = (t.length - k - 1) + 1 from by omega, List.range'_succ]
      simp
    · simp [h1 a (by simpa using ha)]
  rw [this]
  rfl
theorem badOf_none {t : List Nd} (h0 : t ≠ []) (h1 : ∀ i, i < t.length → okAt t i = true) : badOf t = -1 := by
  unfold badOf
  have : (List.range t.length).find? (fun i => !okAt t i) = none := by
    rw [List.find?_eq_none]
    intro i hi
    simp [h1 i (by simpa using hi)]
  rw [this]
  simp [h0]

theorem Bad_any (t : List Nd) (A : Option Addr) (c : Nat) (w : World) (hG : Glob w) (hC : kNd.C w A t.length t) (hcap : t.length ≤ c) :
    Calls Tryz.prog 28 #[.slice A t.length c] w fun e w' => e = .returned (.int .i64 (badOf t)) ∧ Below w.heap.size w w' := by
  by_cases h0 : t = []
  · subst h0
    go_enter Tryz.func28, Tryz.ntmps28
    go_wp2_with fail
    go_ret
    exact ⟨rfl, Below.refl _ _⟩
  · have hn : 0 < t.length := List.length_pos_iff.2 h0
    have hn0 : ((t.length : Int) == 0) = false := beq_eq_false_iff_ne.2 (by omega)
    have hmx := C_max hC
    have HC := Lib.hid hC
    have H0 := Lib.hid h0
    have hmm := @run_makeMap Tryz.prog
    clear hC h0
    go_enter Tryz.func28, Tryz.ntmps28
    go_wp2_with fail
    go_loopw [12] (fun i wr => ∃ k : Nat, k ≤ t.length ∧ i = .int .i64 k ∧ Hid (∀ i, i < k → okAt t i = true) ∧ Hid (MapIs wr 9 Value.bool w.heap.size k (dirF (t.take k))) ∧ Hid (Below w.heap.size w wr)) (fun i _ => t.length - (intOf i).toNat)
    case atStart => exact ⟨0, by omega, rfl, Lib.hid (fun i hi => by omega), Lib.hid (MapIs.made w _ _), Lib.hid ((Below.refl _ _).alloc (Nat.le_refl _) _)⟩
    case round =>
      obtain ⟨k, hk, rfl, HOK, HM, HB⟩ := hrel
      by_cases hlt : k < t.length
      · obtain ⟨ad, e, hc1, hc2, hc3⟩ := at_nd (Kd.C_below HC.out HB.out) k hlt
        cases e
        obtain ⟨x, hx⟩ : ∃ x, x = t.getD k default := ⟨_, rfl⟩
        rw [← hx] at hc1 hc2 hc3
        have HX := Lib.hid hx
        clear hx
        go_wp2_with fail
        have hGr := Lib.hid (hG.below' HB.out)
        have hkc : (k : Int) ≤ (c : Int) := by omega
        have hk0' : (0 : Int) ≤ (k : Int) := Int.natCast_nonneg _
        by_cases h400 : (400 : Int) ≤ (k : Int)
        · have d400 : decide ((400 : Int) ≤ (k : Int)) = true := decide_eq_true h400
          go_quiet (fail)
          go_wp2
          go_ret
          refine ⟨?_, ?_⟩
          · rw [badOf_at hlt HOK.out (by simp only [okAt, show decide (k < 400) = false from decide_eq_false (by omega), Bool.false_and])]
            rfl
          · exact (HB.out.trans ((Below.refl _ _).alloc HB.out.size _)).trans (below_drewN' _ _ _)
        · have d400 : decide ((400 : Int) ≤ (k : Int)) = false := decide_eq_false h400
          have hgd := fun W (h : Glob W) => Good_any ⟨x.path.toArray⟩ ⟨x.data.toArray⟩ x.kind W h
          obtain ⟨W, hW⟩ : ∃ W, W = wr.alloc (.cells #[.string ⟨x.path.toArray⟩, .int .i64 x.kind, .string ⟨x.data.toArray⟩] 38) := ⟨_, rfl⟩
          rw [← hW]
          have c0 := wext_cell (w := W) (a := ⟨wr.heap.size, 0, none⟩) (v := .string ⟨x.path.toArray⟩) (by rw [hW]; simp [go_sem])
          have c1 := wext_cell (w := W) (a := ⟨wr.heap.size, 1, none⟩) (v := .int .i64 x.kind) (by rw [hW]; simp [go_sem])
          have c2 := wext_cell (w := W) (a := ⟨wr.heap.size, 2, none⟩) (v := .string ⟨x.data.toArray⟩) (by rw [hW]; simp [go_sem])
          have hBW := Lib.hid (show Below w.heap.size w W by rw [hW]; exact HB.out.trans ((Below.refl _ _).alloc HB.out.size _))
          have hrW := Lib.hid (show Below wr.heap.size wr W by rw [hW]; exact (Below.refl _ _).alloc (Nat.le_refl _) _)
          have hMW := Lib.hid (HM.out.below hrW.out)
          have hGW := Lib.hid (hG.below' hBW.out)
          clear hW
          cases hgb : goodNd x with
          | false =>
            have hgd' : ∀ W, Glob W → Calls Tryz.prog 40 #[.agg #[.string ⟨x.path.toArray⟩, .int .i64 x.kind, .string ⟨x.data.toArray⟩]] W fun e w' => e = .returned (.bool false) ∧ Below W.heap.size W w' := by
              intro W h
              rw [← hgb]
              exact hgd W h
            have HGD := Lib.hid hgd'
            have HGB := Lib.hid hgb
            clear hgd hgd' hgb
            refine wp_region_ext (by kernel_rfl) (by kernel_rfl) ?_
            repeat (go_big_quiet_step ((go_at_call 40; exact Calls.wext_of (HGD.out _ (hGW.out.wext _)))))
            refine wpQuiet_nil ?_
            intro _ hw'
            obtain ⟨ee, rfl⟩ := hw'
            go_wp2
            go_ret
            refine ⟨?_, ?_⟩
            · rw [badOf_at hlt HOK.out (by simp only [okAt, ← HX.out, HGB.out, Bool.and_false, Bool.false_and])]
              rfl
            · exact hBW.out.trans ((wext_below _ _).mono hBW.out.size)
          | true =>
            have hgd' : ∀ W, Glob W → Calls Tryz.prog 40 #[.agg #[.string ⟨x.path.toArray⟩, .int .i64 x.kind, .string ⟨x.data.toArray⟩]] W fun e w' => e = .returned (.bool true) ∧ Below W.heap.size W w' := by
              intro W h
              rw [← hgb]
              exact hgd W h
            have HGD := Lib.hid hgd'
            have HGB := Lib.hid hgb
            have hpl := pathOk_len (show pathOk x.path = true by have h := HGB.out; unfold goodNd at h; simp only [Bool.and_eq_true] at h; exact h.1.1)
            obtain ⟨fb, hfb⟩ : ∃ fb, fb = okAt t k := ⟨_, rfl⟩
            have hfol : ∀ e, Calls Tryz.prog 41 #[.agg #[.string ⟨x.path.toArray⟩, .int .i64 x.kind, .string ⟨x.data.toArray⟩], .slice (some ad) k c, .map (some w.heap.size)] (wext W e) fun e' w' => e' = .returned (.bool fb) ∧ Below (wext W e).heap.size (wext W e) w' := by
              intro e
              have hk400 : decide (k < 400) = true := decide_eq_true (by omega)
              rw [hfb, okAt, hk400, ← HX.out, hgb, Bool.true_and, Bool.true_and]
              by_cases hk0 : k = 0
              · subst hk0
                exact follows_none ⟨x.path.toArray⟩ ⟨x.data.toArray⟩ x.kind (some ad) c _ _
              · obtain ⟨j, rfl⟩ : ∃ j, k = j + 1 := ⟨k - 1, by omega⟩
                rw [if_neg hk0]
                obtain ⟨ad', e', hq, _⟩ := at_nd (Kd.C_below HC.out HB.out) j (by omega)
                cases e'
                exact follows_some ⟨x.path.toArray⟩ ⟨x.data.toArray⟩ ⟨(t.getD j default).path.toArray⟩ x.kind ad j c _ _ _ _ (hGW.out.wext _) (by omega) (by rw [size_len]; show x.path.length ≤ _; omega) (wext_cell (pw_cell_below hrW.out hq) e) (hMW.out.below (wext_below _ _))
            have HFOL := Lib.hid hfol
            have HFB := Lib.hid hfb
            clear hgd hgd' hgb hfol hfb
            cases fb with
            | false =>
              refine wp_region_ext (by kernel_rfl) (by kernel_rfl) ?_
              repeat (go_big_quiet_step (first | (go_at_call 40; exact Calls.wext_of (HGD.out _ (hGW.out.wext _))) | (go_at_call 41; exact Calls.wext_of (HFOL.out _))))
              refine wpQuiet_nil ?_
              intro _ hw'
              obtain ⟨ee, rfl⟩ := hw'
              go_wp2
              go_ret
              refine ⟨?_, ?_⟩
              · rw [badOf_at hlt HOK.out HFB.out.symm]
                rfl
              · exact hBW.out.trans ((wext_below _ _).mono hBW.out.size)
            | true =>
              refine wp_region_ext (by kernel_rfl) (by kernel_rfl) ?_
              repeat (go_big_quiet_step (first | (go_at_call 40; exact Calls.wext_of (HGD.out _ (hGW.out.wext _))) | (go_at_call 41; exact Calls.wext_of (HFOL.out _))))
              refine wpQuiet_nil ?_
              intro _ hw'
              obtain ⟨ee, rfl⟩ := hw'
              obtain ⟨w3, hrun, hM3, hg3⟩ := (hMW.out.below (wext_below W ee)).put (fun _ _ h => Value.bool.inj h) Tryz.underlying9 Tryz.underlying79 (by unfold maxLen; omega) ⟨x.path.toArray⟩ (show x.path.length ≤ maxLen by unfold maxLen; omega) (x.kind == 1)
              have hM3' := Lib.hid hM3
              have hB3 := Lib.hid ((hBW.out.trans ((wext_below W ee).mono hBW.out.size)).grown hg3 (by have h1 := hBW.out.size; have h2 := (wext_below W ee).size; omega) (fun k' e => Nat.le_of_eq (Option.some.inj e)))
              clear hM3 hg3
              go_wp2
              go_roundw
              case rel =>
                refine ⟨k + 1, by omega, by go_num, Lib.hid (fun i hi => ?_), Lib.hid ?_, hB3⟩
                · rcases Nat.lt_succ_iff_lt_or_eq.1 hi with h | rfl
                  · exact HOK.out i h
                  · exact HFB.out.symm
                · have e1 : t.take (k + 1) = t.take k ++ [x] := by
                    rw [List.take_succ_eq_append_getElem hlt, HX.out, List.getD_eq_getElem?_getD, List.getElem?_eq_getElem hlt]; rfl
                  rw [e1, dirF_snoc]
                  exact hM3'.out
              case measure => simp [intOf]; omega
      · obtain rfl : k = t.length := by omega
        go_wp2_with fail
        go_ret
        exact ⟨by rw [badOf_none H0.out HOK.out]; rfl, HB.out⟩

theorem May_t_any (t : List Nd) (A : Option Addr) (c : Nat) (w : World) (hG : Glob w) (hC : kNd.C w A t.length t) (hcap : t.length ≤ c) :
    Calls Tryz.prog 18 #[.slice A t.length c] w fun e w' => e = .returned (.bool (treeOk t)) ∧ Below w.heap.size w w' := by
  go_enter Tryz.func18, Tryz.ntmps18
  go_wp2_with (go_at_call 28; refine (Bad_any t A c _ hG hC hcap).mono ?_; rintro e w' ⟨rfl, hb⟩)
  go_ret
  exact ⟨rfl, hb⟩
end Go.Proofs.YtbkjjapeojclpaaGreatDoor
