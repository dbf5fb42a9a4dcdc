/- untar.Names. -/
import Derived.Test.YtbkjjapeojclpaaGreatDoorURead
import Derived.Test.YtbkjjapeojclpaaGreatDoorOwnT
namespace Go.Proofs.YtbkjjapeojclpaaGreatDoor
set_option linter.unusedVariables false
set_option linter.unusedSimpArgs false
open Go.RowKit Go.Proofs.YtbkjjapeojclpaaGreatDoorW.PrintWords
set_option maxHeartbeats 400000
set_option maxRecDepth 100000

noncomputable def namesOf (b : Bs) : List Bs := if readB b then (readT b).map Nd.path else []
def NamesPost (w : World) (t : List Bs) (n : Int) (e : Ending) (w' : World) : Prop := ∃ A m c, e = .returned (.tuple #[.slice A m c, .int .i64 n]) ∧ OwnT w' w.heap.size (.slice A m c) t ∧ Below w.heap.size w w'
theorem Names_any (A : Option Addr) (c : Nat) (b : Bs) (w : World) (hG : Glob w) (hC : kByte.C w A b.length b) (hc : b.length ≤ c) (hp : Plain A) (hcm : c ≤ 9223372036854775807) (hl : b.length ≤ 4000000)
    (hok : ∀ t, treeOk t = true → (∀ n ∈ t, NdOk n) ∧ t.length ≤ 400) :
    Calls Tryz.prog 10 #[.slice A b.length c] w (NamesPost w (namesOf b) (if readB b then 0 else 5)) := by
  have hRd := Read_any A c b w hG hC hc hp hcm hl hok
  obtain ⟨z, hz⟩ : ∃ z : Int, z = if readB b then 0 else 5 := ⟨_, rfl⟩
  obtain ⟨T, hT⟩ : ∃ T, T = if readB b then readT b else [] := ⟨_, rfl⟩
  have hN : namesOf b = T.map Nd.path := by rw [hT]; unfold namesOf; split <;> rfl
  unfold ReadPost at hRd
  have hTl : T.length ≤ 400 := by
    rw [hT]
    split
    · rename_i h; unfold readB at h; simp only [Bool.and_eq_true] at h; exact (hok _ h.1.2).2
    · exact Nat.zero_le _
  rw [← hz, ← hT] at hRd
  rw [← hz, hN]
  have HRD := Lib.hid hRd
  clear hRd hC hz hT hN
  go_enter Tryz.func10, Tryz.ntmps10
  go_wp2_with fail
  refine HRD.out.mono ?_
  rintro e w1 ⟨A1, n1, c1, rfl, hO1, hb1⟩
  have hcn := hO1.C
  have HC1 := Lib.hid hcn.2.2
  have hcap := hcn.2.1
  have hn1 := hcn.1
  subst hn1
  have HO1 := Lib.hid hO1
  have HB1 := Lib.hid hb1
  clear hcn hO1 hb1 HRD
  go_wp2_with fail
  go_loopw [6, 16] (fun u i wr => ∃ (k : Nat) (A2 : Option Addr) (c2 : Nat), i = .int .i64 k ∧ u = .slice A2 k c2 ∧ k ≤ T.length ∧ Hid (OwnT wr w1.heap.size (.slice A2 k c2) ((T.take k).map Nd.path)) ∧ Hid (Below w1.heap.size w1 wr)) (fun _ i _ => T.length - (intOf i).toNat)
  case atStart => exact ⟨0, none, 0, rfl, rfl, by omega, Lib.hid (OwnT.nil _ _), Lib.hid (Below.refl _ _)⟩
  case round =>
    obtain ⟨k, A2, c2, rfl, rfl, hk, HO, HB⟩ := hrel
    by_cases hlt : k < T.length
    · obtain ⟨ad, e, hd1, hd2, hd3⟩ := at_nd (Kd.C_below HC1.out HB.out) k hlt
      cases e
      obtain ⟨x, hx⟩ : ∃ x, x = T.getD k default := ⟨_, rfl⟩
      rw [← hx] at hd1 hd2 hd3
      have htk : (T.take (k + 1)).map Nd.path = (T.take k).map Nd.path ++ [x.path] := by
        rw [List.take_succ_eq_append_getElem hlt, List.map_append, hx, List.getD_eq_getElem?_getD, List.getElem?_eq_getElem hlt]; rfl
      have HTK := Lib.hid htk
      have hkc : (k : Int) < (c1 : Int) := by omega
      obtain ⟨W2, hW2⟩ : ∃ W2, W2 = (wr.alloc (.cells #[.string ⟨x.path.toArray⟩, .int .i64 x.kind, .string ⟨x.data.toArray⟩] 38)).alloc (.cells #[.string ⟨x.path.toArray⟩] 9) := ⟨_, rfl⟩
      have hbW : Below wr.heap.size wr W2 := by rw [hW2]; exact ((Below.refl _ _).alloc (Nat.le_refl _) _).alloc (by simp) _
      have hO2 := HO.out.blk fun j hj => hbW.block j (HO.out.lt j hj).2
      have hB2 := HB.out.trans (hbW.mono HB.out.size)
      obtain ⟨v4, w4, hr4, ho4, hg4, hl4⟩ := hO2.app1 31 ⟨wr.heap.size + 1, 0, none⟩ x.path (by
        rw [hW2, show wr.heap.size + 1 = (wr.alloc (.cells #[.string ⟨x.path.toArray⟩, .int .i64 x.kind, .string ⟨x.data.toArray⟩] 38)).heap.size from by simp, World.cell?_alloc_new]; rfl) (by rw [List.length_map, List.length_take]; omega) hB2.size
      have gr4 := GrT hO2 hB2.size hg4 hl4
      obtain ⟨A4, c4, rfl, hc4⟩ := ho4.form
      rw [← HTK.out] at ho4 hr4
      have hlen : (List.map Nd.path (List.take (k + 1) T)).length = k + 1 := by rw [List.length_map, List.length_take]; omega
      rw [hlen] at ho4 hr4
      have HO4 := Lib.hid ho4
      have HB4 := Lib.hid (hB2.trans gr4.below)
      have HRUN := Lib.hid hr4
      have HW2 := Lib.hid hW2
      clear hx htk hW2 hbW hO2 hB2 hr4 ho4 hg4 hl4 gr4 hc4 hlen
      go_wp2_with (first | rw [← HW2.out] | (at_builtin; refine Lib.wpList_append_run _ rfl _ _ _ _ rfl _ _ rfl rfl _ _ HRUN.out ?_))
      go_roundw
      case rel => exact ⟨k + 1, A4, c4, by go_num, rfl, by omega, HO4, HB4⟩
      case measure => simp [intOf]; omega
    · obtain rfl : k = T.length := by omega
      rw [List.take_length] at HO
      go_wp2_with fail
      go_ret2
      refine ⟨A2, T.length, c2, rfl, ?_, HB1.out.trans (HB.out.mono HB1.out.size)⟩
      obtain ⟨q1, q2⟩ := HO.out
      refine ⟨q1, q2.imp id ?_⟩
      rintro ⟨g, cap, cur, a1, a2, a3⟩
      exact ⟨g, cap, cur, a1, Nat.le_trans HB1.out.size a2, a3⟩
end Go.Proofs.YtbkjjapeojclpaaGreatDoor
