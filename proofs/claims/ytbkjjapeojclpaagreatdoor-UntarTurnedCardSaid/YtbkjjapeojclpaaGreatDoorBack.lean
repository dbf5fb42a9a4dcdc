/- The law UntarBack, walked. -/
import Derived.Test.YtbkjjapeojclpaaGreatDoorAwake
namespace Go.Proofs.YtbkjjapeojclpaaGreatDoor
set_option linter.unusedVariables false
set_option linter.unusedSimpArgs false
open Go.RowKit Go.Proofs.YtbkjjapeojclpaaGreatDoorW.PrintWords
set_option maxHeartbeats 400000
set_option maxRecDepth 100000

theorem layOf_le {t : List Nd} (h : treeOk t = true) : (layOf t).length ≤ 2001024 := by
  obtain ⟨h1, h2⟩ := treeOk_nodes t h
  have := (laid_le t h1).1
  unfold layOf
  rw [List.length_append, rep, List.length_replicate]
  omega
/-- What is left behind the first half: Read b, and what follows. -/
def BackPost (w : World) (e : Ending) (w' : World) : Prop := e = .returned (.bool true) ∧ Below w.heap.size w w'
theorem UntarBack_any (t : List Nd) (A : Option Addr) (c : Nat) (b : Bs) (A2 : Option Addr) (c2 : Nat) (w : World) (hG : Glob w) (hC : kNd.C w A t.length t) (hc : t.length ≤ c)
    (hB : kByte.C w A2 b.length b) (hcb : b.length ≤ c2) (hp : Plain A2) (hcm : c2 ≤ 9223372036854775807) :
    Calls Tryz.prog 4 #[.slice A t.length c, .slice A2 b.length c2] w (BackPost w) := by
  have hGr := GreatNodes_any t A c 30 w hC hc (by omega)
  cases hgr : greatF t 30 with
  | true =>
    rw [hgr] at hGr
    have HGR := Lib.hid hGr
    clear hGr hgr hC hB
    go_enter Tryz.func4, Tryz.ntmps4
    go_wp2_with (first | (go_at_call 15; refine HGR.out.mono ?_; rintro e w' ⟨rfl, rfl⟩) | (go_at_call 6; refine (awake_any _ hG).mono ?_; rintro e w1 ⟨rfl, hb1⟩))
    go_ret
    exact ⟨rfl, hb1⟩
  | false =>
    rw [hgr] at hGr
    have HGR := Lib.hid hGr
    clear hGr hgr
    by_cases hbl : b.length ≤ 40000
    · have b1 : decide (40000 < (b.length : Int)) = false := decide_eq_false (by omega)
      have b2 : decide (40000 < b.length) = false := decide_eq_false (by omega)
      have hL := fun W hG hC => Lay_at A t.length c t W hG rfl hC hc
      have HC := Lib.hid hC
      have HBY := Lib.hid hB
      have HP := Lib.hid hp
      clear hC hB hp
      cases hok : treeOk t
      case' false =>
        rw [hok, if_neg (by decide), if_neg (by decide)] at hL
        have HL := Lib.hid hL
        clear hL hok
        go_enter Tryz.func4, Tryz.ntmps4
        go_wp2_with (go_at_call 15; refine HGR.out.mono ?_; rintro e w' ⟨rfl, rfl⟩)
        refine (HL.out _ hG HC.out).mono ?_
        rintro e w3 ⟨Ax, nx, cx, rfl, hOx, hb3⟩
        have HB3 := Lib.hid hb3
        clear hOx hb3
        go_wp2_with fail
      case' true =>
        have hrd := read_lay hok
        have hll := layOf_le hok
        rw [hok, if_pos rfl, if_pos rfl] at hL
        have HL := Lib.hid hL
        have hRX := fun W A n c hG hn hC hc hp hcm => Read_at A n c (layOf t) W hG hn hC hc hp hcm (by omega)
        rw [hrd.1, hrd.2] at hRX
        obtain ⟨X, hX⟩ : ∃ X, X = layOf t := ⟨_, rfl⟩
        rw [← hX] at HL hRX
        have HRX := Lib.hid hRX
        clear hL hok hrd hll hRX hX
        go_enter Tryz.func4, Tryz.ntmps4
        go_wp2_with (go_at_call 15; refine HGR.out.mono ?_; rintro e w' ⟨rfl, rfl⟩)
        refine (HL.out _ hG HC.out).mono ?_
        rintro e w1 ⟨Ax, nx, cx, rfl, hOx, hb1⟩
        obtain ⟨hnx, px, lex, mxx, Cx⟩ := hOx.use
        have HB1 := Lib.hid hb1
        have HCX := Lib.hid Cx
        have HPX := Lib.hid px
        have HNX := Lib.hid hnx
        clear hOx hb1 Cx px hnx
        go_wp2_with fail
        refine (HRX.out w1 Ax nx cx (hG.below' HB1.out) HNX.out HCX.out lex HPX.out mxx).mono ?_
        rintro e w2 ⟨Au, nu, cu, rfl, hOu, hb2⟩
        rw [if_pos rfl] at hOu ⊢
        obtain ⟨hnu, leu, Cu⟩ := hOu.use
        have HB2 := Lib.hid (below_two HB1.out hb2)
        have hsame := SameNodes_any Au A nu t.length cu c t t w2 (by rw [hnu]; exact Cu) (Kd.C_below HC.out HB2.out) (by rw [hnu]; exact leu) hc
        rw [decide_eq_true rfl] at hsame
        have HSAME := Lib.hid hsame
        clear hOu hb2 hnu leu Cu hsame HNX
        go_wp2_with fail
        refine HSAME.out.mono ?_
        rintro e w3 ⟨rfl, hb3⟩
        have HB3 := Lib.hid (below_two HB2.out hb3)
        clear hb3
        go_wp2_with fail
      all_goals
        have HG3 := Lib.hid (hG.below' HB3.out)
        have HRB := Lib.hid (Read_at A2 b.length c2 b w3 HG3.out rfl (Kd.C_below HBY.out HB3.out) hcb HP.out hcm (by omega))
        cases hrb : readB b
        case' false =>
          rw [hrb] at HRB
          clear hrb
          refine HRB.out.mono ?_
          rintro e w4 ⟨Au, nu, cu, rfl, hOu, hb4⟩
          rw [if_neg (by decide)] at hOu ⊢
          obtain ⟨hnu, leu, Cu⟩ := hOu.use
          obtain rfl : nu = 0 := hnu
          have HB4 := Lib.hid (below_two HB3.out hb4)
          have HG4 := Lib.hid (hG.below' HB4.out)
          clear hOu hb4 Cu
          go_wp2_with (go_at_call 6; refine (awake_any _ HG4.out).mono ?_; rintro e w5 ⟨rfl, hb5⟩)
          go_ret
          exact ⟨rfl, below_two HB4.out hb5⟩
        case' true =>
          obtain ⟨hu1, hu2⟩ := readB_lay hrb
          rw [hrb] at HRB
          refine HRB.out.mono ?_
          rintro e w4 ⟨Au, nu, cu, rfl, hOu, hb4⟩
          rw [if_pos rfl] at hOu ⊢
          obtain ⟨hnu, leu, Cu⟩ := hOu.use
          have HB4 := Lib.hid (below_two HB3.out hb4)
          have HG4 := Lib.hid (hG.below' HB4.out)
          have hLU := Lay_at Au nu cu (readT b) w4 HG4.out hnu Cu leu
          rw [hu1, hu2, if_pos rfl, if_pos rfl] at hLU
          have hMU := fun W hG hC => May_t_any (readT b) Au cu W hG hC leu
          rw [hu1] at hMU
          have HLU := Lib.hid hLU
          have HMU := Lib.hid hMU
          have HCU := Lib.hid Cu
          have HNU := Lib.hid hnu
          clear hLU hMU Cu hnu hu1 hu2 hrb hOu hb4 leu
          go_wp2_with fail
          refine HLU.out.mono ?_
          rintro e w5 ⟨Ay, ny, cy, rfl, hOy, hb5⟩
          obtain ⟨hny, py, ley, mxy, Cy⟩ := hOy.use
          have HB5 := Lib.hid (below_two HB4.out hb5)
          have HCU5 := Lib.hid (Kd.C_below HCU.out hb5)
          have hsb := SameBytes_any Ay A2 ny b.length cy c2 b b w5 (by rw [hny]; exact Cy) (Kd.C_below HBY.out HB5.out) (by rw [hny]; exact ley) hcb
          rw [decide_eq_true rfl] at hsb
          have HSB := Lib.hid hsb
          clear hsb hOy hb5 hny py ley mxy Cy
          go_wp2_with fail
          refine HSB.out.mono ?_
          rintro e w6 ⟨rfl, hb6⟩
          have HB6 := Lib.hid (below_two HB5.out hb6)
          have HG6 := Lib.hid (hG.below' HB6.out)
          have HCU6 := Lib.hid (Kd.C_below HCU5.out hb6)
          clear hb6
          go_wp2_with fail
          have HMU6 := HMU.out w6 HG6.out HCU6.out
          rw [← HNU.out] at HMU6
          refine HMU6.mono ?_
          rintro e w7 ⟨rfl, hb7⟩
          have HB7 := Lib.hid (below_two HB6.out hb7)
          have HG7 := Lib.hid (hG.below' HB7.out)
          clear hb7 HMU6
          go_wp2_with (go_at_call 6; refine (awake_any _ HG7.out).mono ?_; rintro e w8 ⟨rfl, hb8⟩)
          go_ret
          exact ⟨rfl, below_two HB7.out hb8⟩
    · have b1 : decide (40000 < (b.length : Int)) = true := decide_eq_true (by omega)
      have b2 : decide (40000 < b.length) = true := decide_eq_true (by omega)
      clear hC hB
      go_enter Tryz.func4, Tryz.ntmps4
      go_wp2_with (first | (go_at_call 15; refine HGR.out.mono ?_; rintro e w' ⟨rfl, rfl⟩) | (go_at_call 6; refine (awake_any _ hG).mono ?_; rintro e w1 ⟨rfl, hb1⟩))
      go_ret
      exact ⟨rfl, hb1⟩
end Go.Proofs.YtbkjjapeojclpaaGreatDoor
