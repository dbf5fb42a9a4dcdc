/- The law UntarReads, walked. -/
import Derived.Test.YtbkjjapeojclpaaGreatDoorAwake
import Derived.Test.YtbkjjapeojclpaaGreatDoorLaw34
import Derived.Test.YtbkjjapeojclpaaGreatDoorDoc14
namespace Go.Proofs.YtbkjjapeojclpaaGreatDoor
set_option linter.unusedVariables false
set_option linter.unusedSimpArgs false
open Go.RowKit Go.Proofs.YtbkjjapeojclpaaGreatDoorW.PrintWords
set_option maxHeartbeats 400000
set_option maxRecDepth 100000

theorem OwnN.toV {w : World} {base : Nat} {v : Value} {t : List Nd} (h : OwnN w base v t) : OwnV w base v t.length := ⟨_, h⟩
def ReadsPost (w : World) (e : Ending) (w' : World) : Prop := e = .returned (.bool true) ∧ Below w.heap.size w w'
set_option maxHeartbeats 1000000 in
theorem UntarReads_any (b : Bs) (A : Option Addr) (c : Nat) (w : World) (hG : Glob w) (hB : kByte.C w A b.length b) (hc : b.length ≤ c) (hp : Plain A) (hcm : c ≤ 9223372036854775807) :
    Calls Tryz.prog 3 #[.slice A b.length c] w (ReadsPost w) := by
  by_cases hbl : b.length ≤ 40000
  · have b1 : decide (40000 < (b.length : Int)) = false := decide_eq_false (by omega)
    have b2 : decide (40000 < b.length) = false := decide_eq_false (by omega)
    have hlend := LendBytes_any b A c w hB hc (by omega)
    have hread := fun B W hG hC => Read_at (some ⟨B, 0, none⟩) b.length (b.length + 3) b W hG rfl hC (by omega) trivial (by omega) (by omega)
    have href := fun W hC => rRead14_any A c b W hC hc (by omega)
    have hnames := fun B W hG hC => Names_at (some ⟨B, 0, none⟩) b.length (b.length + 3) b W hG rfl hC (by omega) trivial (by omega) (by omega)
    obtain ⟨T, hT⟩ : ∃ T, T = if readB b = true then readT b else [] := ⟨_, rfl⟩
    obtain ⟨z, hz⟩ : ∃ z : Int, z = if readB b = true then 0 else 5 := ⟨_, rfl⟩
    have hnm : namesOf b = T.map Nd.path := by rw [hT]; unfold namesOf; split <;> rfl
    have hT400 : T.length ≤ 400 := by
      rw [hT]; split
      · rename_i h; exact (treeOk_nodes _ (readB_lay h).1).2
      · exact Nat.zero_le _
    unfold ReadPost at hread href
    unfold NamesPost at hnames
    rw [← hT, ← hz] at hread href
    rw [hnm, ← hz] at hnames
    have HLEND := Lib.hid hlend
    have HREAD := Lib.hid hread
    have HREF := Lib.hid href
    have HNAMES := Lib.hid hnames
    have HC := Lib.hid hB
    clear hlend hread href hnames hT hz hnm hB
    have hb0 : ∀ B W, BytesAt W B (b ++ [119, 119, 119]) → kByte.C W (some ⟨B, 0, none⟩) b.length b := fun B W h => by
      have := C_cut_to (h.C (by simp; omega)) (hi := b.length) (by simp)
      rwa [List.take_left] at this
    have HB0 := Lib.hid hb0
    clear hb0
    go_enter Tryz.func3, Tryz.ntmps3
    go_wp2_with fail
    refine HLEND.out.mono ?_
    rintro e w1 ⟨B, rfl, hBlo, hBat, hb1⟩
    have HB1 := Lib.hid hb1
    have HBAT := Lib.hid hBat
    have HG1 := Lib.hid (hG.below' hb1)
    clear hb1 hBat
    go_wp2_with fail
    refine (HREAD.out B w1 HG1.out (HB0.out B w1 HBAT.out)).mono ?_
    rintro e w2 ⟨A2, n2, c2, rfl, hO2, hb2⟩
    have HW2 := Lib.hid hb2
    have HO2 := Lib.hid hO2
    clear hb2 hO2
    go_wp2_with fail
    refine (HREF.out w2 (Kd.C_below HC.out (below_two HB1.out HW2.out))).mono ?_
    rintro e w3 ⟨A3, n3, c3, rfl, hO3, hb3⟩
    have HW3 := Lib.hid (below_two HW2.out hb3)
    have HO23 := Lib.hid (HO2.out.blk fun j hj => hb3.block j (HO2.out.lt j hj).2)
    have HO3 := Lib.hid hO3
    clear hb3 hO3 HO2
    go_wp2_with fail
    refine (HNAMES.out B w3 (HG1.out.below' HW3.out) (HB0.out B w3 (HBAT.out.below HW3.out))).mono ?_
    rintro e w4 ⟨A4, n4, c4, rfl, hO4, hb4⟩
    have hW4 := below_two HW3.out hb4
    have hO24 := HO23.out.blk fun j hj => hb4.block j (HO23.out.lt j hj).2
    have hO34 := HO3.out.blk fun j hj => hb4.block j (HO3.out.lt j hj).2
    obtain ⟨N, hN⟩ : ∃ N, N = T.length := ⟨_, rfl⟩
    obtain ⟨e2, le2, C2⟩ := hO24.C
    obtain ⟨e3, le3, C3⟩ := hO34.C
    obtain ⟨e4, le4, C4⟩ := hO4.C
    have hmap : (T.map Nd.path).length = N := by rw [List.length_map, hN]
    rw [hmap] at e4 le4 C4
    rw [← hN] at e2 e3 le2 le3 C2 C3
    subst e2 e3 e4
    have hsame := SameNodes_any A2 A3 n4 n4 c2 c3 T T w4 C2 C3 le2 le3
    rw [decide_eq_true rfl] at hsame
    have hkept := fun W (hW : Below w1.heap.size w1 W) => KeptBytes_any b A c B W (HBAT.out.below hW) (Kd.C_below HC.out (below_two HB1.out hW)) hc (by omega)
    have hov := OwnN.toV hO24
    rw [← hN] at hov
    have HSAME := Lib.hid hsame
    have HKEPT := Lib.hid hkept
    have HOV := Lib.hid hov
    have HC3 := Lib.hid C3
    have HC4 := Lib.hid C4
    have HW4 := Lib.hid hW4
    have HN := Lib.hid hN
    have hn400 : n4 ≤ 400 := by omega
    clear hW4 hO24 hO34 C2 C3 C4 hmap hsame hkept hov hN hO4 hb4 hT400 HLEND HREAD HREF HNAMES HC HB0 HO23 HO3 HW2 HW3 HBAT
    go_wp2_with (first | (go_at_call 11; refine HSAME.out.mono ?_; rintro e w5 ⟨rfl, hb5⟩; have HW5 := Lib.hid (below_two HW4.out hb5); have HW45 := Lib.hid hb5; clear hb5) | (go_at_call 12; refine (Num_any _ _).mono ?_; rintro e w' ⟨rfl, rfl⟩) | (go_at_call 13; refine (HKEPT.out _ HW5.out).mono ?_; rintro e w6 ⟨rfl, hb6⟩; have HW6 := Lib.hid (below_two HW5.out hb6); have HW46 := Lib.hid (below_two HW45.out hb6); clear hb6))
    go_loopw [10] (fun i wr => ∃ k : Nat, i = .int .i64 k ∧ k ≤ n4 ∧ Hid (Below w1.heap.size w1 wr) ∧ Hid (Below w4.heap.size w4 wr)) (fun i _ => n4 - (intOf i).toNat)
    case atStart => exact ⟨0, rfl, by omega, HW6, HW46⟩
    case round =>
      obtain ⟨k, rfl, hk, HW7, HW47⟩ := hrel
      clear HSAME HW5 HW45 HW6 HW46
      by_cases hlt : k < n4
      · obtain ⟨a4, e, e4⟩ := at_bs (Kd.C_below HC4.out HW47.out) k hlt
        cases e
        obtain ⟨a3, e, e3, _, _⟩ := at_nd (Kd.C_below HC3.out HW47.out) k hlt
        cases e
        have hpe : (T.map Nd.path).getD k [] = (T.getD k default).path := by
          have hkT : k < T.length := by have := HN.out; omega
          rw [List.getD_eq_getElem?_getD, List.getD_eq_getElem?_getD, List.getElem?_map, List.getElem?_eq_getElem hkT]
          rfl
        rw [hpe] at e4
        obtain ⟨S, hS⟩ : ∃ S : ByteArray, S = ⟨(T.getD k default).path.toArray⟩ := ⟨_, rfl⟩
        rw [← hS] at e3 e4
        have hk3 : (k : Int) < (c3 : Int) := by omega
        have hk4 : (k : Int) < (c4 : Int) := by omega
        have hkn : (k : Int) < (n4 : Int) := by omega
        have hk0 : (0 : Int) ≤ (k : Int) := by omega
        have hse : (S.toList == S.toList) = true := by simp
        clear hpe hS
        go_wp2_with fail
        go_quiet (fail)
        go_wp2_with fail
        go_roundw
        case rel => exact ⟨k + 1, by go_num, by omega, Lib.hid (HW7.out.trans (below_drewN' _ _ _)), Lib.hid (HW47.out.trans (below_drewN' _ _ _))⟩
        case measure => simp [intOf]; omega
      · obtain rfl : k = n4 := by omega
        have hover := OverNodes_any w1.heap.size k A2 c2 wr (HOV.out.blk fun j hj => HW47.out.block j (HOV.out.lt j hj).2) le2 HW7.out.size (by omega)
        have HOVER := Lib.hid hover
        clear hover HC3 HC4 HOV HW4
        go_wp2_with (first | (go_at_call 14; refine HOVER.out.mono ?_; rintro e w8 ⟨rfl, hb8⟩; have HW8 := Lib.hid (HW7.out.trans hb8); clear hb8) | (go_at_call 13; refine (HKEPT.out _ HW8.out).mono ?_; rintro e w9 ⟨rfl, hb9⟩; have HW9 := Lib.hid (below_two HW8.out hb9); clear hb9) | (go_at_call 6; refine (awake_any _ (HG1.out.below' HW9.out)).mono ?_; rintro e w10 ⟨rfl, hb10⟩))
        go_ret
        exact ⟨rfl, below_two HB1.out (below_two HW9.out hb10)⟩
  · have b1 : decide (40000 < (b.length : Int)) = true := decide_eq_true (by omega)
    have b2 : decide (40000 < b.length) = true := decide_eq_true (by omega)
    clear hB
    go_enter Tryz.func3, Tryz.ntmps3
    go_wp2_with (go_at_call 6; refine (awake_any _ hG).mono ?_; rintro e w1 ⟨rfl, hb1⟩)
    go_ret
    exact ⟨rfl, hb1⟩
end Go.Proofs.YtbkjjapeojclpaaGreatDoor
