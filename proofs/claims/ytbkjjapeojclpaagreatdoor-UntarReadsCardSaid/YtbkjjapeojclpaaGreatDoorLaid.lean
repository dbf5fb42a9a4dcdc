/- tar.laid, tar.Lay. -/
import Derived.Test.YtbkjjapeojclpaaGreatDoorNode
namespace Go.Proofs.YtbkjjapeojclpaaGreatDoor
set_option linter.unusedVariables false
set_option linter.unusedSimpArgs false
open Go.RowKit Go.Proofs.YtbkjjapeojclpaaGreatDoorW.PrintWords
set_option maxHeartbeats 400000
set_option maxRecDepth 100000

theorem entryOf_len (name link data : Bs) (k : Int) (hh : headB name k data.length link = true) : (entryOf name k link data).length ≤ 1023 + data.length := by
  unfold entryOf
  rw [List.length_append, List.length_append, headR_len hh, rep, List.length_replicate]
  omega
theorem extraOf_le2 (n : Nd) (hp : n.path.length ≤ 200) (hd : n.data.length ≤ 400) : (extraOf n).length ≤ 1000 := by
  unfold extraOf
  have h1 := nameOf_le n 200 hp (by omega)
  have h2 := recOf_le bsPath (nameOf n) (by simp [bsPath]; omega)
  have h3 := recOf_le bsLink n.data (by simp [bsLink]; omega)
  simp only [show bsPath.length = 4 from rfl, show bsLink.length = 8 from rfl] at h2 h3
  rw [List.length_append]
  split <;> split <;> (try simp only [List.length_nil]) <;> omega
theorem nodeOf_le (n : Nd) (h : NdOk n) : (nodeOf n).length ≤ 5000 ∧ nodeN n ≤ 2 := by
  refine ⟨?_, by unfold nodeN; split <;> omega⟩
  unfold nodeOf paxOf ownOf
  have h1 := extraOf_le2 n h.path h.data
  have h2 := h.data
  rw [List.length_append]
  have ha : (if extraOf n = [] then ([] : Bs) else entryOf [112, 97, 120] 5 [] (extraOf n)).length ≤ 2023 := by
    split
    · exact Nat.zero_le _
    · rename_i hx
      have := entryOf_len [112, 97, 120] [] (extraOf n) 5 (h.pax hx)
      omega
  have hb : (if n.kind = 4 then entryOf ((nameOf n).take 100) 4 (n.data.take 100) [] else entryOf ((nameOf n).take 100) n.kind [] n.data).length ≤ 1423 := by
    split
    · rename_i hk
      have := entryOf_len ((nameOf n).take 100) (n.data.take 100) [] 4 (h.link hk)
      simp only [List.length_nil] at this; omega
    · rename_i hk
      have := entryOf_len ((nameOf n).take 100) [] n.data n.kind (h.own hk)
      omega
  omega
noncomputable def laidOf (t : List Nd) : Bs := (t.map nodeOf).flatten
noncomputable def laidN (t : List Nd) : Nat := (t.map nodeN).sum
theorem laidOf_snoc (t : List Nd) (n : Nd) : laidOf (t ++ [n]) = laidOf t ++ nodeOf n := by simp [laidOf]
theorem laidN_snoc (t : List Nd) (n : Nd) : laidN (t ++ [n]) = laidN t + nodeN n := by simp [laidN]
theorem laid_le (t : List Nd) (h : ∀ n ∈ t, NdOk n) : (laidOf t).length ≤ 5000 * t.length ∧ laidN t ≤ 2 * t.length := by
  induction t with
  | nil => simp [laidOf, laidN]
  | cons n t ih =>
    have h1 := nodeOf_le n (h n (List.mem_cons_self ..))
    have h2 := ih fun m hm => h m (List.mem_cons_of_mem _ hm)
    simp only [laidOf, laidN, List.map_cons, List.flatten_cons, List.length_append, List.sum_cons, List.length_cons] at *
    omega
def LaidPost (w : World) (b : Bs) (n : Nat) (e : Ending) (w' : World) : Prop := ∃ R v, e = .returned (.pointer (some ⟨R, 0, none⟩)) ∧ Wr w w' R v b n
theorem laid_any (t : List Nd) (A : Option Addr) (c : Nat) (w : World) (hG : Glob w) (hC : kNd.C w A t.length t) (hcap : t.length ≤ c) (hok : ∀ n ∈ t, NdOk n) (hl : t.length ≤ 400) :
    Calls Tryz.prog 27 #[.slice A t.length c] w (LaidPost w (laidOf t) (laidN t)) := by
  have HC := Lib.hid hC
  have HOK := Lib.hid hok
  clear hC hok
  go_enter Tryz.func27, Tryz.ntmps27
  go_wp2_with fail
  go_loopw [13] (fun i wr => ∃ (k : Nat) (v : Value), k ≤ t.length ∧ i = .int .i64 k ∧ Hid (Wr w wr w.heap.size v (laidOf (t.take k)) (laidN (t.take k)))) (fun i _ => t.length - (intOf i).toNat)
  case atStart => exact ⟨0, .slice none 0 0, by omega, rfl, Lib.hid ⟨heap_alloc_new w _, OwnB.nil _ _, by simp [Value.ownBlock], (Below.refl _ _).alloc (Nat.le_refl _) _, Nat.le_refl _⟩⟩
  case round =>
    obtain ⟨k, v, hk, rfl, HW⟩ := hrel
    by_cases hlt : k < t.length
    · obtain ⟨ad, e, hc1, hc2, hc3⟩ := at_nd (Kd.C_below HC.out HW.out.below) k hlt
      cases e
      have hx := HOK.out (t.getD k default) (by rw [List.getD_eq_getElem?_getD, List.getElem?_eq_getElem hlt]; exact List.getElem_mem hlt)
      have hsn : laidOf (t.take (k + 1)) = laidOf (t.take k) ++ nodeOf (t.getD k default) ∧ laidN (t.take (k + 1)) = laidN (t.take k) + nodeN (t.getD k default) := by
        rw [List.take_succ_eq_append_getElem hlt, laidOf_snoc, laidN_snoc, List.getD_eq_getElem?_getD, List.getElem?_eq_getElem hlt]; exact ⟨rfl, rfl⟩
      obtain ⟨x, hxe⟩ : ∃ x, x = t.getD k default := ⟨_, rfl⟩
      rw [← hxe] at hc1 hc2 hc3 hx hsn
      have hlk := laid_le (t.take k) (fun n hn => HOK.out n (List.mem_of_mem_take hn))
      rw [List.length_take] at hlk
      have HLK := Lib.hid hlk
      have HSN := Lib.hid hsn
      have HX := Lib.hid hx
      clear hsn hx hlk hxe
      have hkc : (k : Int) < (c : Int) := by omega
      have hbnd : (laidOf (t.take k)).length ≤ 10000000 ∧ laidN (t.take k) ≤ 100000 := by have := HLK.out; omega
      have HB := Lib.hid hbnd
      clear hbnd
      go_wp2_with fail
      refine (node_any w _ w.heap.size v _ _ x hG (HW.out.belowW ((Below.refl _ _).alloc (Nat.le_refl _) _)) HX.out HB.out.1 HB.out.2).mono ?_
      rintro e w1 ⟨rfl, v1, hW1, _, _⟩
      have HW1 := Lib.hid hW1
      clear hW1
      go_wp2_with fail
      go_roundw
      case rel => exact ⟨k + 1, v1, by omega, by go_num, Lib.hid (by rw [HSN.out.1, HSN.out.2]; exact HW1.out)⟩
      case measure => simp [intOf]; omega
    · obtain rfl : k = t.length := by omega
      rw [List.take_length] at HW
      go_wp2_with fail
      go_ret
      exact ⟨_, v, rfl, HW.out⟩

noncomputable def layOf (t : List Nd) : Bs := laidOf t ++ rep 0 1024
/-- The call's answer: bytes that it owns, or none. -/
def OwnedPost (w : World) (b : Bs) (n : Int) (e : Ending) (w' : World) : Prop := ∃ A m c, e = .returned (.tuple #[.slice A m c, .int .i64 n]) ∧ OwnB w' w.heap.size (.slice A m c) b ∧ Below w.heap.size w w'
theorem Lay_t_any (t : List Nd) (A : Option Addr) (c : Nat) (w : World) (hG : Glob w) (hC : kNd.C w A t.length t) (hcap : t.length ≤ c) (hok : treeOk t = true → (∀ n ∈ t, NdOk n) ∧ t.length ≤ 400) :
    Calls Tryz.prog 16 #[.slice A t.length c] w (OwnedPost w (if treeOk t then layOf t else []) (if treeOk t then 0 else 7)) := by
  have hMay := May_t_any t A c w hG hC hcap
  cases hb : treeOk t with
  | false =>
    rw [hb] at hMay
    have HM := Lib.hid hMay
    clear hMay hb hok hC
    go_enter Tryz.func16, Tryz.ntmps16
    go_wp2_with (go_at_call 18; refine HM.out.mono ?_; rintro e w1 ⟨rfl, hb1⟩)
    go_ret2
    exact ⟨none, 0, 0, rfl, OwnB.nil _ _, hb1⟩
  | true =>
    rw [hb] at hMay
    obtain ⟨h1, h2⟩ := hok hb
    have HM := Lib.hid hMay
    have hll := laid_le t h1
    have HC := Lib.hid hC
    have HOK := Lib.hid h1
    clear hMay hok hC h1 hb
    go_enter Tryz.func16, Tryz.ntmps16
    go_wp2_with (go_at_call 18; refine HM.out.mono ?_; rintro e w1 ⟨rfl, hb1⟩)
    refine (laid_any t A c w1 (hG.below' hb1) (Kd.C_below HC.out hb1) hcap HOK.out h2).mono ?_
    rintro e w2 ⟨R, v, rfl, hW⟩
    have c0 := hW.c0
    obtain ⟨v3, w3, hr3, ho3, hg3, hl3⟩ := hW.own.appZ 22 1024 (by omega) hW.below.size
    obtain ⟨A3, n3, c3, rfl⟩ := ho3.form
    have gr3 := Gr.of hW.own hW.below.size hg3 hl3
    have HR3 := Lib.hid hr3
    have HO3 := Lib.hid ho3
    have HB3 := Lib.hid (show Below w.heap.size w w3 from below_two hb1 (hW.below.trans gr3.below))
    have HS1 := Lib.hid hb1.size
    clear hr3 ho3 hg3 hl3 gr3 hll hb1 hW HM HC HOK
    go_wp2_with (at_builtin; refine Lib.wpList_append_run _ rfl _ _ _ _ rfl _ _ rfl rfl _ _ HR3.out ?_)
    go_ret2
    refine ⟨A3, n3, c3, rfl, ?_, HB3.out⟩
    obtain ⟨q1, q2⟩ := HO3.out
    refine ⟨q1, q2.imp id ?_⟩
    rintro ⟨g, cap, cur, a1, a2, a3⟩
    exact ⟨g, cap, cur, a1, Nat.le_trans HS1.out a2, a3⟩
end Go.Proofs.YtbkjjapeojclpaaGreatDoor
