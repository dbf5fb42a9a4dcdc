/- The document's own headers: zero, letter, mode, Octal, OfOctal, field. -/
import Derived.Test.YtbkjjapeojclpaaGreatDoorDoc1
import Derived.Test.YtbkjjapeojclpaaGreatDoorHeadBack
namespace Go.Proofs.YtbkjjapeojclpaaGreatDoor
set_option linter.unusedVariables false
set_option linter.unusedSimpArgs false
open Go.RowKit Go.Proofs.YtbkjjapeojclpaaGreatDoorW.PrintWords
set_option maxHeartbeats 400000
set_option maxRecDepth 100000

theorem rzero_any (s : ByteArray) (w : World) (hs : s.size ≤ 90000) :
    Calls Tryz.prog 52 #[.string s] w fun e w' => e = .returned (.bool (s.data.toList.contains 0)) ∧ w = w' := by
  have hsl := size_len s
  obtain ⟨l, hl⟩ : ∃ l, l = s.data.toList := ⟨_, rfl⟩
  rw [← hl] at hsl ⊢
  obtain ⟨r, hr⟩ : ∃ r, r = l.contains 0 := ⟨_, rfl⟩
  rw [← hr]
  have HSL := Lib.hid hsl
  have HL := Lib.hid hl
  have HR := Lib.hid hr
  clear hsl hl hr
  go_enter Tryz.func52, Tryz.ntmps52
  go_wp2_with fail
  go_loop [3] (fun i => ∃ k : Nat, k ≤ s.size ∧ i = .int .i64 k ∧ Hid ((l.take k).contains 0 = false)) (fun i => s.size - (intOf i).toNat)
  case atStart => exact ⟨0, by omega, rfl, Lib.hid rfl⟩
  case round =>
    obtain ⟨k, hk, rfl, H0⟩ := hrel
    by_cases hlt : k < s.size
    · have hx : s[k]'hlt = l.getD k 0 := by rw [HL.out]; exact bat s k hlt
      have hkl : k < l.length := by rw [← HSL.out]; exact hlt
      by_cases hc0 : s[k]'hlt = 0
      · have b4 : (((s[k]'hlt).toNat : Int) == 0) = true := by rw [hc0]; rfl
        have HF := Lib.hid (HR.out.trans (contains_at l k 0 hkl (hx.symm.trans hc0)))
        clear hx hkl hc0
        go_wp2_with fail
        go_ret
        exact ⟨by rw [HF.out]; rfl, rfl⟩
      · have b4 : (((s[k]'hlt).toNat : Int) == 0) = false := by
          rw [beq_eq_false_iff_ne]; intro e; exact hc0 (UInt8.toNat_inj.1 (by show (s[k]'hlt).toNat = 0; omega))
        have H0' := Lib.hid (contains_succ l k 0 hkl H0.out (by rw [← hx]; exact hc0))
        clear hx hkl hc0
        go_wp2_with fail
        go_round
        case rel => exact ⟨k + 1, by omega, by go_num, H0'⟩
        case measure => simp [intOf]; omega
    · obtain rfl : k = s.size := by omega
      have hf : r = false := by rw [HR.out, ← H0.out, List.take_of_length_le (Nat.le_of_eq HSL.out.symm)]
      have HF := Lib.hid hf
      clear hf
      go_wp2_with fail
      go_ret
      exact ⟨by rw [HF.out]; rfl, rfl⟩
theorem rmode_any (k : Int) (w : World) (h1 : 1 ≤ k) (h5 : k ≤ 5) :
    Calls Tryz.prog 54 #[.int .i64 k] w fun e w' => e = .returned (.string ⟨(modeOf k).toArray⟩) ∧ Below w.heap.size w w' := by
  have : k = 1 ∨ k = 2 ∨ k = 3 ∨ k = 4 ∨ k = 5 := by omega
  rcases this with rfl | rfl | rfl | rfl | rfl
  all_goals
    go_enter Tryz.func54, Tryz.ntmps54
    go_wp2_with fail
    go_ret
    exact ⟨rfl, (Below.refl _ _).alloc (Nat.le_refl _) _⟩
/-- A kind's letter. -/
def letterOf (k : Int) : UInt8 := (signOf k).headD 0
theorem letter_sign {k : Int} : signOf k = [letterOf k] := by
  obtain ⟨c, hc⟩ := sign_one k
  unfold letterOf
  rw [hc]; rfl
theorem rletter_any (k : Int) (w : World) (h1 : 1 ≤ k) (h5 : k ≤ 5) :
    Calls Tryz.prog 55 #[.int .i64 k] w fun e w' => e = .returned (.int .u8 ((letterOf k).toNat : Int)) ∧ w = w' := by
  have : k = 1 ∨ k = 2 ∨ k = 3 ∨ k = 4 ∨ k = 5 := by omega
  rcases this with rfl | rfl | rfl | rfl | rfl
  all_goals
    go_enter Tryz.func55, Tryz.ntmps55
    go_wp2_with fail
    go_ret
    exact ⟨rfl, rfl⟩
/-! ### digits of base 8 from behind -/
def od (n : Nat) : Nat → Bs
  | 0 => []
  | i + 1 => dgt (n / 8 ^ i % 8) :: od n i
theorem od_len (n i : Nat) : (od n i).length = i := by induction i with | zero => rfl | succ i ih => simp [od, ih]
theorem od_snoc (n i : Nat) : od n (i + 1) = od (n / 8) i ++ [dgt (n % 8)] := by
  induction i with
  | zero => simp [od]
  | succ i ih =>
    rw [od, ih]
    conv => rhs; rw [od]
    rw [Nat.div_div_eq_div_mul, show 8 * 8 ^ i = 8 ^ (i + 1) from by rw [Nat.pow_succ, Nat.mul_comm]]
    rfl
theorem od_zero (i : Nat) : od 0 i = rep 48 i := by
  induction i with
  | zero => rfl
  | succ i ih => rw [od, ih, Nat.zero_div]; rfl
theorem octB_iff (n d : Nat) (hd : 1 ≤ d) : octB n d = decide (n / 8 ^ d = 0) := by
  unfold octB
  rw [Bool.eq_iff_iff, decide_eq_true_eq, decide_eq_true_eq]
  induction d generalizing n with
  | zero => omega
  | succ d ih =>
    by_cases h : n < 8
    · rw [mn8_lt h]
      simp only [List.length_singleton]
      exact ⟨fun _ => Nat.div_eq_of_lt (Nat.lt_of_lt_of_le h (by rw [Nat.pow_succ]; have := Nat.pow_pos (n := d) (show 0 < 8 by omega); omega)), fun _ => by omega⟩
    · rw [mn8_ge h, List.length_append, List.length_singleton]
      have e : n / 8 ^ (d + 1) = n / 8 / 8 ^ d := by rw [Nat.div_div_eq_div_mul, Nat.pow_succ, Nat.mul_comm]
      rw [e]
      by_cases hd0 : d = 0
      · subst hd0
        simp only [Nat.pow_zero, Nat.div_one]
        have hl : 1 ≤ (mn8 (n / 8)).length := by
          by_cases h8 : n / 8 < 8
          · rw [mn8_lt h8]; simp
          · rw [mn8_ge h8]; simp
        exact ⟨fun h' => by omega, fun h' => by omega⟩
      · have := ih (n / 8) (by omega)
        rw [← this]
        omega
theorem octR_od (n d : Nat) (hd : 1 ≤ d) (h : octB n d = true) : octR n d = od n d := by
  unfold octR
  rw [if_pos h]
  rw [octB_iff n d hd, decide_eq_true_eq] at h
  induction d generalizing n with
  | zero => omega
  | succ d ih =>
    rw [od_snoc]
    by_cases h8 : n < 8
    · rw [mn8_lt h8, Nat.div_eq_of_lt h8, od_zero, Nat.mod_eq_of_lt h8]
      simp
    · have e : n / 8 ^ (d + 1) = n / 8 / 8 ^ d := by rw [Nat.div_div_eq_div_mul, Nat.pow_succ, Nat.mul_comm]
      rw [e] at h
      have hd0 : 1 ≤ d := by
        rcases Nat.eq_zero_or_pos d with h0 | h0
        · subst h0; simp at h; omega
        · exact h0
      rw [mn8_ge h8, ← ih (n / 8) hd0 h, List.length_append, List.length_singleton, ← List.append_assoc, show d + 1 - ((mn8 (n / 8)).length + 1) = d - (mn8 (n / 8)).length from by omega]
theorem oct_digit (q : Nat) (h : q < 8) : (⟨#[48, 49, 50, 51, 52, 53, 54, 55]⟩ : ByteArray).extract q (q + 1) = ⟨[dgt q].toArray⟩ := by
  match q, h with
  | 0, _ => rfl
  | 1, _ => rfl
  | 2, _ => rfl
  | 3, _ => rfl
  | 4, _ => rfl
  | 5, _ => rfl
  | 6, _ => rfl
  | 7, _ => rfl
set_option maxHeartbeats 2000000 in
theorem rOctal_any (n d : Nat) (h1 : 1 ≤ d) (h2 : d ≤ 11) (hn : n < 8 ^ 20) (w : World) :
    Calls Tryz.prog 53 #[.int .i64 n, .int .i64 d] w fun e w' => e = .returned (.tuple #[.string ⟨(octR n d).toArray⟩, .bool (octB n d)]) ∧ Below w.heap.size w w' := by
  have d1 : decide ((n : Int) < 0) = false := decide_eq_false (by omega)
  have d2 : decide ((d : Int) < 1) = false := decide_eq_false (by omega)
  have d3 : decide ((11 : Int) < (d : Int)) = false := decide_eq_false (by omega)
  have hres : octB n d = decide (n / 8 ^ d = 0) := octB_iff n d h1
  have hres2 : octR n d = if n / 8 ^ d = 0 then od n d else [] := by
    by_cases h : n / 8 ^ d = 0
    · rw [if_pos h]; exact octR_od n d h1 (by rw [hres, decide_eq_true h])
    · rw [if_neg h]; unfold octR; rw [hres, decide_eq_false h]; rfl
  obtain ⟨ob, hob⟩ : ∃ ob, ob = octB n d := ⟨_, rfl⟩
  obtain ⟨R, hR⟩ : ∃ R, R = octR n d := ⟨_, rfl⟩
  rw [← hob, ← hR]
  rw [← hob] at hres
  rw [← hR] at hres2
  have HOB := Lib.hid hres
  have HRR := Lib.hid hres2
  clear hob hR
  have HN := Lib.hid hn
  clear hres hres2 hn
  go_enter Tryz.func53, Tryz.ntmps53
  go_wp2_with fail
  go_loop [0, 6, 7] (fun u s i => ∃ (k q : Nat) (l : Bs), k ≤ d ∧ i = .int .i64 k ∧ u = .int .i64 q ∧ s = .string ⟨l.toArray⟩ ∧ l.length = k ∧ q < 1152921504606846976 ∧ Hid (q = n / 8 ^ k) ∧ Hid (l = od n k)) (fun _ _ i => d - (intOf i).toNat)
  case atStart => exact ⟨0, n, [], by omega, rfl, rfl, rfl, rfl, HN.out, Lib.hid (by simp), Lib.hid rfl⟩
  case round =>
    obtain ⟨k, q, l, hk, rfl, rfl, rfl, hll, hq, HQ, HL⟩ := hrel
    by_cases hlt : k < d
    · have hls : (⟨l.toArray⟩ : ByteArray).size = k := by rw [size_len]; exact hll
      have hdg := oct_digit (q % 8) (by omega)
      have hap : (⟨[dgt (q % 8)].toArray⟩ : ByteArray) ++ ⟨l.toArray⟩ = ⟨(dgt (q % 8) :: l).toArray⟩ := mk_append [dgt (q % 8)] l
      have HQ2 : Hid (q / 8 = n / 8 ^ (k + 1)) := Lib.hid (by rw [HQ.out, Nat.div_div_eq_div_mul, Nat.pow_succ])
      have HL2 : Hid (dgt (q % 8) :: l = od n (k + 1)) := Lib.hid (by rw [od, HL.out, HQ.out])
      have hsum : (⟨[dgt (q % 8)].toArray⟩ : ByteArray).size + (⟨l.toArray⟩ : ByteArray).size ≤ 9223372036854775807 := by rw [hls]; show 1 + k ≤ _; omega
      have e8 : ((q : Int) % 8) = ((q % 8 : Nat) : Int) := by omega
      have HDG := Lib.hid hdg
      have HAP := Lib.hid hap
      have t1 : ((q : Int) % 8).toNat = q % 8 := by omega
      have t2 : ((q : Int) % 8 + 1).toNat = q % 8 + 1 := by omega
      have t3 : (0 : Int) ≤ (q : Int) % 8 := by omega
      have t4 : (q : Int) % 8 + 1 ≤ 8 := by omega
      clear hdg hap e8 HN d1 d2 d3
      go_wp2_with (first | rw [HDG.out] | rw [HAP.out])
      go_round
      case rel => exact ⟨k + 1, q / 8, _, by omega, by go_num, congrArg (Value.int .i64) (by omega), rfl, by simp [hll], by omega, HQ2, HL2⟩
      case measure => simp [intOf]; omega
    · obtain rfl : k = d := by omega
      have hob := HOB.out
      have hrr := HRR.out
      rw [← HQ.out] at hob hrr
      rw [← HL.out] at hrr
      clear HN HOB HRR
      by_cases hq0 : q = 0
      · subst hq0
        rw [if_pos rfl] at hrr
        rw [decide_eq_true rfl] at hob
        subst hrr hob
        go_wp2_with fail
        go_ret2
        exact ⟨rfl, Below.refl _ _⟩
      · have b1 : decide (0 < (q : Int)) = true := decide_eq_true (by omega)
        have b2 : decide (0 < q) = true := decide_eq_true (by omega)
        rw [if_neg hq0] at hrr
        rw [decide_eq_false hq0] at hob
        subst hrr hob
        go_wp2_with fail
        go_ret2
        exact ⟨rfl, Below.refl _ _⟩
theorem rOfOctal_any (s : ByteArray) (w : World) (hs11 : s.size = 11) :
    Calls Tryz.prog 33 #[.string s] w fun e w' => e = .returned (.tuple #[.int .i64 (ofOctN s.data.toList), .bool (ofOctB s.data.toList)]) ∧ w = w' := by
  have hsl := size_len s
  have d1 : decide ((s.size : Int) < 1) = false := decide_eq_false (by omega)
  have d11 : decide ((s.size : Int) ≤ 11) = true := decide_eq_true (by omega)
  have d12 : decide ((11 : Int) < (s.size : Int)) = false := decide_eq_false (by omega)
  obtain ⟨l, hl⟩ : ∃ l, l = s.data.toList := ⟨_, rfl⟩
  rw [← hl] at hsl ⊢
  have HSL := Lib.hid hsl
  have HL := Lib.hid hl
  have HS11 := Lib.hid hs11
  have hs1 : 1 ≤ (s.size : Int) := by omega
  have hs2 : (s.size : Int) ≤ 11 := by omega
  obtain ⟨N, hN⟩ : ∃ N, N = ofOctN l := ⟨_, rfl⟩
  obtain ⟨B, hB⟩ : ∃ B, B = ofOctB l := ⟨_, rfl⟩
  rw [← hN, ← hB]
  have HNN := Lib.hid hN
  have HBB := Lib.hid hB
  clear hsl hl hs11 hN hB
  go_enter Tryz.func33, Tryz.ntmps33
  go_wp2_with fail
  go_loop [4, 5] (fun v i => ∃ (k : Nat) (n : Nat), k ≤ s.size ∧ n < 8589934592 ∧ i = .int .i64 k ∧ v = .int .i64 n ∧ Hid (n = octVal (l.take k)) ∧ Hid (octDigits (l.take k) = true)) (fun _ i => s.size - (intOf i).toNat)
  case atStart => exact ⟨0, 0, by omega, by omega, rfl, rfl, Lib.hid rfl, Lib.hid rfl⟩
  case round =>
    obtain ⟨k, n, hk, hn, rfl, rfl, HN, HD⟩ := hrel
    by_cases hlt : k < s.size
    · have hx : s[k]'hlt = l.getD k 0 := by rw [HL.out]; exact bat s k hlt
      have hv := octVal_succ l k (by rw [← HSL.out]; exact hlt)
      have hdg := octDigits_succ l k (by rw [← HSL.out]; exact hlt)
      rw [HD.out, Bool.true_and, ← hx] at hdg
      rw [← HN.out, ← hx] at hv
      have HX := Lib.hid hx
      have HV := Lib.hid hv
      have HDG := Lib.hid hdg
      clear hx hv hdg
      by_cases hd1 : 48 ≤ ((s[k]'hlt).toNat : Int)
      · have b1 : decide (((s[k]'hlt).toNat : Int) < 48) = false := decide_eq_false (by omega)
        by_cases hd2 : ((s[k]'hlt).toNat : Int) ≤ 55
        · have b2 : decide (55 < ((s[k]'hlt).toNat : Int)) = false := decide_eq_false (by omega)
          have HD2 : Hid (octDigits (l.take (k + 1)) = true) := Lib.hid (by rw [HDG.out, decide_eq_true (by omega), decide_eq_true (by omega)]; rfl)
          have HV2 : Hid (n * 8 + ((s[k]'hlt).toNat - 48) = octVal (l.take (k + 1))) := Lib.hid (by rw [HV.out]; omega)
          have hb2 := octVal_lt _ HD2.out
          have hb3 : (8 : Nat) ^ (l.take (k + 1)).length ≤ 8 ^ 11 := Nat.pow_le_pow_right (by omega) (by have h := HSL.out; have h2 := HS11.out; rw [List.length_take]; omega)
          rw [← HV2.out] at hb2
          have hb4 : n * 8 + ((s[k]'hlt).toNat - 48) < 8589934592 := Nat.lt_of_lt_of_le hb2 hb3
          obtain ⟨x, hxx⟩ : ∃ x, x = (s[k]'hlt).toNat := ⟨_, rfl⟩
          clear hb2 hb3 HX HV HDG
          rw [← hxx] at HV2 hb4 b1 b2 hd1 hd2
          have HXX := Lib.hid hxx.symm
          clear hxx
          go_wp2_with (rw [HXX.out])
          go_round
          case rel => exact ⟨k + 1, n * 8 + (x - 48), by omega, hb4, by go_num, congrArg (Value.int .i64) (by omega), HV2, HD2⟩
          case measure => simp [intOf]; omega
        · have b2 : decide (55 < ((s[k]'hlt).toNat : Int)) = true := decide_eq_true (by omega)
          have HD2 : Hid (octDigits (l.take (k + 1)) = false) := Lib.hid (by rw [HDG.out, decide_eq_true (by omega), decide_eq_false (by omega)]; rfl)
          have hf : ofOctB l = false := by
            cases h : octDigits l with
            | false => simp [ofOctB, h]
            | true => have h2 := octDigits_take l (k + 1) h; rw [HD2.out] at h2; cases h2
          have HR := Lib.hid (show N = 0 ∧ B = false from ⟨by rw [HNN.out]; unfold ofOctN; rw [hf]; rfl, by rw [HBB.out, hf]⟩)
          clear hf HX HV HDG
          go_wp2_with fail
          go_ret2
          exact ⟨by rw [HR.out.1, HR.out.2]; rfl, rfl⟩
      · have b1 : decide (((s[k]'hlt).toNat : Int) < 48) = true := decide_eq_true (by omega)
        have HD2 : Hid (octDigits (l.take (k + 1)) = false) := Lib.hid (by rw [HDG.out, decide_eq_false (by omega)]; rfl)
        have hf : ofOctB l = false := by
          cases h : octDigits l with
          | false => simp [ofOctB, h]
          | true => have h2 := octDigits_take l (k + 1) h; rw [HD2.out] at h2; cases h2
        have HR := Lib.hid (show N = 0 ∧ B = false from ⟨by rw [HNN.out]; unfold ofOctN; rw [hf]; rfl, by rw [HBB.out, hf]⟩)
        clear hf HX HV HDG
        go_wp2_with fail
        go_ret2
        exact ⟨by rw [HR.out.1, HR.out.2]; rfl, rfl⟩
    · obtain rfl : k = s.size := by omega
      have htk : l.take s.size = l := List.take_of_length_le (Nat.le_of_eq HSL.out.symm)
      have hT : ofOctB l = true := by
        have h := HD.out
        rw [htk] at h
        have h' := HSL.out
        have h2 := HS11.out
        simp only [ofOctB, h, Bool.and_true, Bool.and_eq_true, decide_eq_true_eq]
        omega
      have hV := HN.out
      rw [htk] at hV
      have HR := Lib.hid (show N = n ∧ B = true from ⟨by rw [HNN.out]; unfold ofOctN; rw [hT, ← hV]; rfl, by rw [HBB.out, hT]⟩)
      clear htk hT hV
      go_wp2_with fail
      go_ret2
      exact ⟨by rw [HR.out.1, HR.out.2]; rfl, rfl⟩
theorem cut1_none (c : UInt8) (l : Bs) (h : l.contains c = false) : cut1 c l = l := by
  unfold cut1
  induction l with
  | nil => rfl
  | cons b l ih =>
    rw [List.contains_cons, Bool.or_eq_false_iff, beq_eq_false_iff_ne] at h
    rw [List.takeWhile_cons, if_pos (by simp only [bne_iff_ne, ne_eq]; exact fun e => h.1 e.symm), ih h.2]
theorem cut1_none_app (c : UInt8) (l m : Bs) (h : l.contains c = false) : cut1 c (l ++ c :: m) = l := by
  unfold cut1
  induction l with
  | nil => simp
  | cons b l ih =>
    rw [List.contains_cons, Bool.or_eq_false_iff, beq_eq_false_iff_ne] at h
    rw [List.cons_append, List.takeWhile_cons, if_pos (by simp only [bne_iff_ne, ne_eq]; exact fun e => h.1 e.symm), ih h.2]
theorem cut1_at (c : UInt8) (l : Bs) (k : Nat) (hk : k < l.length) (h : (l.take k).contains c = false) (hc : l.getD k 0 = c) : cut1 c l = l.take k := by
  have e : l = l.take k ++ c :: l.drop (k + 1) := by
    have e2 : l.drop k = c :: l.drop (k + 1) := by
      rw [List.drop_eq_getElem_cons hk]
      rw [List.getD_eq_getElem?_getD, List.getElem?_eq_getElem hk] at hc
      simp at hc
      rw [hc]
    rw [← e2, List.take_append_drop]
  conv => lhs; rw [e]
  exact cut1_none_app c _ _ h
theorem rfield_any (A : Option Addr) (n c : Nat) (b : Bs) (w : World) (hn : n = b.length) (hC : kByte.C w A b.length b) (hcap : b.length ≤ c) (hl : b.length ≤ 90000) :
    Calls Tryz.prog 32 #[.slice A n c] w fun e w' => e = .returned (.string ⟨(cut1 0 b).toArray⟩) ∧ w = w' := by
  subst hn
  have HC := Lib.hid hC
  obtain ⟨F, hF⟩ : ∃ F, F = cut1 0 b := ⟨_, rfl⟩
  rw [← hF]
  have HF := Lib.hid hF
  clear hC hF
  go_enter Tryz.func32, Tryz.ntmps32
  go_wp2_with fail
  go_loop [3] (fun i => ∃ k : Nat, k ≤ b.length ∧ i = .int .i64 k ∧ Hid ((b.take k).contains 0 = false)) (fun i => b.length - (intOf i).toNat)
  case atStart => exact ⟨0, by omega, rfl, Lib.hid rfl⟩
  case round =>
    obtain ⟨k, hk, rfl, H0⟩ := hrel
    have HCV := Lib.hid (bytes_string (c := c) (C_cut_to HC.out hk))
    by_cases hlt : k < b.length
    · obtain ⟨ad, e, hx⟩ := at_byte HC.out k hlt
      cases e
      have hkc : (k : Int) < (c : Int) := by omega
      have hkc' : (k : Int) ≤ (c : Int) := by omega
      obtain ⟨x, hxx⟩ : ∃ x, x = b.getD k 0 := ⟨_, rfl⟩
      rw [← hxx] at hx
      by_cases hc0 : x = 0
      · have b4 : ((x.toNat : Int) == 0) = true := by rw [hc0]; rfl
        have HR := Lib.hid (HF.out.trans (cut1_at 0 b k hlt H0.out (hxx.symm.trans hc0)))
        clear hxx hc0
        go_wp2_with (rw [HCV.out])
        go_ret
        exact ⟨by rw [HR.out]; rfl, rfl⟩
      · have b4 : ((x.toNat : Int) == 0) = false := by
          rw [beq_eq_false_iff_ne]; intro e; exact hc0 (UInt8.toNat_inj.1 (by show x.toNat = 0; omega))
        have H0' := Lib.hid (contains_succ b k 0 hlt H0.out (by rw [← hxx]; exact hc0))
        clear hxx hc0
        go_wp2_with fail
        go_round
        case rel => exact ⟨k + 1, by omega, by go_num, H0'⟩
        case measure => simp [intOf]; omega
    · obtain rfl : k = b.length := by omega
      have hkc' : (b.length : Int) ≤ (c : Int) := by omega
      have HR := Lib.hid (show F = b.take b.length from by
        have := H0.out
        rw [List.take_length] at this ⊢
        rw [HF.out]; exact cut1_none 0 b this)
      go_wp2_with (rw [HCV.out])
      go_ret
      exact ⟨by rw [HR.out, List.take_length]; rfl, rfl⟩
end Go.Proofs.YtbkjjapeojclpaaGreatDoor
