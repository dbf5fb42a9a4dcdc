/- The law's awake: what every program answers that is one. -/
import Derived.Test.YtbkjjapeojclpaaGreatDoorReadBack
import Derived.Test.YtbkjjapeojclpaaGreatDoorLaw0
import Derived.Test.YtbkjjapeojclpaaGreatDoorLaw1
import Derived.Test.YtbkjjapeojclpaaGreatDoorLaw2
namespace Go.Proofs.YtbkjjapeojclpaaGreatDoor
set_option linter.unusedVariables false
set_option linter.unusedSimpArgs false
open Go.RowKit Go.Proofs.YtbkjjapeojclpaaGreatDoorW.PrintWords
set_option maxHeartbeats 400000
set_option maxRecDepth 100000

def rootNd : Nd := ⟨[], 1, []⟩
theorem root_ok : treeOk [rootNd] = true := by decide +kernel
theorem root_len : (layOf [rootNd]).length = 1536 := by
  have h := (treeOk_nodes _ root_ok).1 rootNd (List.mem_cons_self ..)
  have hx : extraOf rootNd = [] := by unfold extraOf; rfl
  unfold layOf laidOf
  simp only [List.map_cons, List.map_nil, List.flatten_cons, List.flatten_nil, List.append_nil]
  unfold nodeOf paxOf ownOf
  rw [if_pos hx, if_neg (by decide), List.nil_append, List.length_append]
  unfold entryOf
  rw [List.length_append, List.length_append, headR_len (h.own (by decide))]
  rfl
theorem zeros_bad : readB (rep 0 1024) = false := by
  unfold readB readT
  rw [readL_stop _ _ (by simp [endF_zero])]
  rfl
/-! ### contracts at rows of the call's own -/
theorem OwnB.use {w : World} {base : Nat} {A : Option Addr} {n c : Nat} {l : Bs} (h : OwnB w base (.slice A n c) l) : n = l.length ∧ Plain A ∧ l.length ≤ c ∧ c ≤ 9223372036854775807 ∧ kByte.C w A l.length l := by
  have hC := h.C
  refine ⟨hC.1, ?_, hC.2.1, ?_, hC.2.2⟩
  · trivial
  · rcases h.2 with ⟨hv, _⟩ | ⟨g, cap, cur, hv, _, _, _, hm, _⟩
    · cases hv; omega
    · cases hv; simp only [maxLen] at hm; omega
theorem OwnN.use {w : World} {base : Nat} {A : Option Addr} {n c : Nat} {l : List Nd} (h : OwnN w base (.slice A n c) l) : n = l.length ∧ l.length ≤ c ∧ kNd.C w A l.length l := ⟨h.C.1, h.C.2.1, h.C.2.2⟩
/-- untar.Read over bytes that lie somewhere. -/
theorem Read_at (A : Option Addr) (n c : Nat) (b : Bs) (w : World) (hG : Glob w) (hn : n = b.length) (hC : kByte.C w A b.length b) (hc : b.length ≤ c) (hp : Plain A) (hcm : c ≤ 9223372036854775807) (hl : b.length ≤ 4000000) :
    Calls Tryz.prog 8 #[.slice A n c] w (ReadPost w (readT b) (readB b)) := by
  subst hn
  exact Read_any A c b w hG hC hc hp hcm hl (fun t h => treeOk_nodes t h)
theorem Names_at (A : Option Addr) (n c : Nat) (b : Bs) (w : World) (hG : Glob w) (hn : n = b.length) (hC : kByte.C w A b.length b) (hc : b.length ≤ c) (hp : Plain A) (hcm : c ≤ 9223372036854775807) (hl : b.length ≤ 4000000) :
    Calls Tryz.prog 10 #[.slice A n c] w (NamesPost w (namesOf b) (if readB b then 0 else 5)) := by
  subst hn
  exact Names_any A c b w hG hC hc hp hcm hl (fun t h => treeOk_nodes t h)
theorem Lay_at (A : Option Addr) (n c : Nat) (t : List Nd) (w : World) (hG : Glob w) (hn : n = t.length) (hC : kNd.C w A t.length t) (hc : t.length ≤ c) :
    Calls Tryz.prog 16 #[.slice A n c] w (OwnedPost w (if treeOk t then layOf t else []) (if treeOk t then 0 else 7)) := by
  subst hn
  exact Lay_t_any t A c w hG hC hc (fun h => treeOk_nodes t h)
/-- One node in a block of its own. -/
theorem nd_new (w : World) (x : Nd) (T : TypeId) : kNd.C (w.alloc (.cells x.vals.toArray T)) (some ⟨w.heap.size, 0, none⟩) 1 [x] := by
  refine ⟨rfl, by omega, fun _ => ⟨_, rfl, fun j p hp => ⟨p.vals, rfl, kNd_mk _ p, fun i u hu => ?_⟩⟩⟩
  have hj : j = 0 := by
    have := (List.getElem?_eq_some_iff.1 hp).1
    simp at this; exact this
  subst hj
  obtain rfl : x = p := by simpa using hp
  rw [add_blk, World.cell?_alloc_new]
  rw [show 0 * kNd.sz + i = i from by rw [Nat.zero_mul, Nat.zero_add], List.getElem?_toArray]
  exact hu
theorem bs_new (w : World) (x : Bs) (T : TypeId) : kBs.C (w.alloc (.cells #[.string ⟨x.toArray⟩] T)) (some ⟨w.heap.size, 0, none⟩) 1 [x] := by
  refine C_of (xs := [x]) (by simp) fun k y hy => ?_
  have hj : k = 0 := by
    have := (List.getElem?_eq_some_iff.1 hy).1
    simp at this; exact this
  subst hj
  obtain rfl : x = y := by simpa using hy
  rw [add_blk, World.cell?_alloc_new]
  rfl
theorem OwnT.use {w : World} {base : Nat} {A : Option Addr} {n c : Nat} {l : List Bs} (h : OwnT w base (.slice A n c) l) : n = l.length ∧ l.length ≤ c ∧ kBs.C w A l.length l := ⟨h.C.1, h.C.2.1, h.C.2.2⟩
set_option maxHeartbeats 1000000 in
theorem awake_any (w : World) (hG : Glob w) :
    Calls Tryz.prog 6 #[] w fun e w' => e = .returned (.bool true) ∧ Below w.heap.size w w' := by
  have hread := read_lay root_ok
  have hlen := root_len
  have hnames : namesOf (layOf [rootNd]) = [[]] := by unfold namesOf; rw [hread.1, hread.2]; rfl
  have hL := fun W A n c hG hn hC hc => Lay_at A n c [rootNd] W hG hn hC hc
  have hR := fun W A n c hG hn hC hc hp hcm => Read_at A n c (layOf [rootNd]) W hG hn hC hc hp hcm (by omega)
  have hZ := fun W A n c hG hn hC hc hp hcm => Read_at A n c (rep 0 1024) W hG hn hC hc hp hcm (by rw [rep, List.length_replicate]; omega)
  have hN := fun W A n c hG hn hC hc hp hcm => Names_at A n c (layOf [rootNd]) W hG hn hC hc hp hcm (by omega)
  rw [root_ok, if_pos rfl, if_pos rfl] at hL
  rw [hread.1, hread.2] at hR
  rw [zeros_bad] at hZ
  rw [hnames, hread.2, if_pos rfl] at hN
  obtain ⟨B, hB⟩ : ∃ B, B = layOf [rootNd] := ⟨_, rfl⟩
  rw [← hB] at hL hR hN hlen
  have HL := Lib.hid hL
  have HR := Lib.hid hR
  have HZ := Lib.hid hZ
  have HN := Lib.hid hN
  have HLEN := Lib.hid hlen
  clear hL hR hZ hN hlen hread hnames hB
  have c1 := nd_new w rootNd 38
  have hb0 : Below w.heap.size w (w.alloc (.cells rootNd.vals.toArray 38)) := (Below.refl _ _).alloc (Nat.le_refl _) _
  have HC1 := Lib.hid c1
  have HB0 := Lib.hid hb0
  clear c1 hb0
  go_enter Tryz.func6, Tryz.ntmps6
  go_wp2_with fail
  refine (HL.out _ _ 1 1 (hG.below' HB0.out) rfl HC1.out (Nat.le_refl _)).mono ?_
  rintro e w1 ⟨A1, m1, k1, rfl, hO1, hb1⟩
  obtain ⟨rfl, p1, le1, mx1, C1⟩ := hO1.use
  have HB1 := Lib.hid (below_two HB0.out hb1)
  rw [HLEN.out] at C1 le1
  have HC1' := Lib.hid C1
  have HP1 := Lib.hid p1
  rw [HLEN.out]
  clear hO1 hb1 C1 p1
  go_wp2_with fail
  refine (HR.out w1 A1 1536 k1 (hG.below' HB1.out) HLEN.out.symm (by rw [HLEN.out]; exact HC1'.out) (by rw [HLEN.out]; exact le1) HP1.out mx1).mono ?_
  rintro e w2 ⟨A2, m2, k2, rfl, hO2, hb2⟩
  rw [if_pos rfl] at hO2 ⊢
  obtain ⟨rfl, le2, C2⟩ := hO2.use
  have HB2 := Lib.hid hb2
  have HC2 := Lib.hid C2
  clear hO2 C2 hb2
  go_wp2_with fail
  have hmk : (Instr.makeSlice 22 (.int .i64 1024) (.int .i64 1024)).run Tryz.prog w2 = _ := make_bytes 1024 1024 (by omega) (by omega) w2
  rw [hmk]
  clear hmk
  have b3 := bytesAt_new w2 (rep 0 1024)
  have hb3 : Below w2.heap.size w2 (w2.alloc (.cells ((rep 0 1024).map bval).toArray 5)) := (Below.refl _ _).alloc (Nat.le_refl _) _
  obtain ⟨P3, hP3⟩ : ∃ P, P = w2.heap.size := ⟨_, rfl⟩
  obtain ⟨w3, hw3⟩ : ∃ w3, w3 = w2.alloc (.cells ((rep 0 1024).map bval).toArray 5) := ⟨_, rfl⟩
  rw [← hw3, ← hP3] at b3
  rw [← hw3] at hb3 ⊢
  rw [← hP3] at ⊢
  have hB3' := below_two HB2.out hb3
  have HC23 := Lib.hid (Kd.C_below HC2.out hb3)
  have HB3 := Lib.hid hB3'
  have HZC := Lib.hid (b3.C (by rw [rep, List.length_replicate]; omega))
  have HG3 := Lib.hid ((hG.below' HB1.out).below' hB3')
  clear hP3 hw3 b3 hb3 hB3'
  go_wp2_with fail
  refine (HZ.out w3 (some ⟨P3, 0, none⟩) 1024 1024 HG3.out (by rw [rep, List.length_replicate]) HZC.out (by rw [rep, List.length_replicate]; omega) trivial (by omega)).mono ?_
  rintro e w4 ⟨A4, m4, k4, rfl, hO4, hb4⟩
  rw [if_neg (by decide)] at hO4 ⊢
  obtain ⟨rfl, le4, C4⟩ := hO4.use
  have HB4 := Lib.hid (below_two HB3.out hb4)
  have HC24 := Lib.hid (Kd.C_below HC23.out hb4)
  have HG4 := Lib.hid (HG3.out.below' hb4)
  clear hO4 C4 hb4
  go_wp2_with fail
  refine (HN.out w4 A1 1536 k1 HG4.out HLEN.out.symm (by rw [HLEN.out]; exact Kd.C_below HC1'.out HB4.out) (by rw [HLEN.out]; exact le1) HP1.out mx1).mono ?_
  rintro e w5 ⟨A5, m5, k5, rfl, hO5, hb5⟩
  obtain ⟨rfl, le5, C5⟩ := hO5.use
  have HC5 := Lib.hid C5
  have HC25 := Lib.hid (Kd.C_below HC24.out hb5)
  have HB5 := Lib.hid (below_two HB4.out hb5)
  clear hO5 C5 hb5
  go_wp2_with fail
  have hbn : Below w5.heap.size w5 (w5.alloc (.cells rootNd.vals.toArray 38)) := (Below.refl _ _).alloc (Nat.le_refl _) _
  refine (SameNodes_any A2 (some ⟨w5.heap.size, 0, none⟩) 1 1 k2 1 [rootNd] [rootNd] _ (Kd.C_below HC25.out hbn) (nd_new w5 rootNd _) le2 (Nat.le_refl _)).mono ?_
  rintro e w6 ⟨rfl, hb6⟩
  rw [decide_eq_true rfl]
  have HB6 := Lib.hid (below_two HB5.out (below_two hbn hb6))
  have HC6 := Lib.hid (Kd.C_below HC5.out (below_two hbn hb6))
  clear hbn hb6
  go_wp2_with fail
  have hbn : Below w6.heap.size w6 (w6.alloc (.cells #[.string ⟨([] : Bs).toArray⟩] 9)) := (Below.refl _ _).alloc (Nat.le_refl _) _
  refine (SameTexts_any A5 (some ⟨w6.heap.size, 0, none⟩) 1 1 k5 1 [[]] [[]] _ (Kd.C_below HC6.out hbn) (bs_new w6 [] _) le5 (Nat.le_refl _)).mono ?_
  rintro e w7 ⟨rfl, hb7⟩
  rw [decide_eq_true rfl]
  have HB7 := Lib.hid (below_two HB1.out (below_two HB6.out (below_two hbn hb7)))
  clear hbn hb7
  go_wp2_with fail
  go_ret
  exact ⟨rfl, HB7.out⟩
end Go.Proofs.YtbkjjapeojclpaaGreatDoor
