/- The document's own tars: Decimal, Record, cut, pad. -/
import Derived.Test.YtbkjjapeojclpaaGreatDoorRef12c
import Derived.Test.YtbkjjapeojclpaaGreatDoorRec
import Derived.Test.YtbkjjapeojclpaaGreatDoorOwn
namespace Go.Proofs.YtbkjjapeojclpaaGreatDoor
set_option linter.unusedVariables false
set_option linter.unusedSimpArgs false
open Go.RowKit Go.Proofs.YtbkjjapeojclpaaGreatDoorW.PrintWords
set_option maxHeartbeats 400000
set_option maxRecDepth 100000

theorem dec_digit (q : Nat) (h : q < 10) : (⟨#[48, 49, 50, 51, 52, 53, 54, 55, 56, 57]⟩ : ByteArray).extract q (q + 1) = ⟨(Lib.decDigits q).toArray⟩ := by
  rw [Lib.decDigits_one h]
  match q, h with
  | 0, _ => rfl
  | 1, _ => rfl
  | 2, _ => rfl
  | 3, _ => rfl
  | 4, _ => rfl
  | 5, _ => rfl
  | 6, _ => rfl
  | 7, _ => rfl
  | 8, _ => rfl
  | 9, _ => rfl
theorem rDecimal_any (n : Nat) : ∀ w : World, n ≤ 9000000000000000 →
    Calls Tryz.prog 79 #[.int .i64 n] w fun e w' => e = .returned (.string ⟨(Lib.decDigits n).toArray⟩) ∧ w = w' := by
  induction n using Nat.strongRecOn with
  | _ n ih =>
    intro w hn
    by_cases h : n < 10
    · have d1 : decide ((n : Int) < 10) = true := decide_eq_true (by omega)
      have hd := dec_digit n h
      have HD := Lib.hid hd
      have t1 : ((n : Int)).toNat = n := by omega
      have t2 : ((n : Int) + 1).toNat = n + 1 := by omega
      have t3 : (n : Int) + 1 ≤ 10 := by omega
      clear hd ih
      go_enter Tryz.func79, Tryz.ntmps79
      go_wp2_with (rw [HD.out])
      go_ret
      exact ⟨rfl, rfl⟩
    · have d1 : decide ((n : Int) < 10) = false := decide_eq_false (by omega)
      have h1 := fun W => ih (n / 10) (by omega) W (by omega)
      have h2 := fun W => ih (n % 10) (by omega) W (by omega)
      have e1 : ((n : Int) / 10) = ((n / 10 : Nat) : Int) := by omega
      have e2 : ((n : Int) % 10) = ((n % 10 : Nat) : Int) := by omega
      have hl1 : (Lib.decDigits (n / 10)).length ≤ 40 := by
        rw [Lib.decDigits_length]
        have h3 : Lib.nDigits (n / 10) ≤ Lib.nDigits 9000000000000000 := nDigits_mono (by omega)
        have h4 : Lib.nDigits 9000000000000000 = 16 := by decide +kernel
        omega
      have hl2 : (Lib.decDigits (n % 10)).length ≤ 40 := by
        rw [Lib.decDigits_length, Lib.nDigits_small (by omega)]; omega
      have happ := mk_append (Lib.decDigits (n / 10)) (Lib.decDigits (n % 10))
      have hdd : Lib.decDigits n = Lib.decDigits (n / 10) ++ Lib.decDigits (n % 10) := by
        rw [Lib.decDigits_one (show n % 10 < 10 by omega)]
        conv => lhs; rw [Lib.decDigits, dif_neg h]
      rw [hdd]
      rw [← e1] at h1
      rw [← e2] at h2
      obtain ⟨X, hX⟩ : ∃ X, X = Lib.decDigits (n / 10) := ⟨_, rfl⟩
      obtain ⟨Y, hY⟩ : ∃ Y, Y = Lib.decDigits (n % 10) := ⟨_, rfl⟩
      rw [← hX] at h1 hl1 happ ⊢
      rw [← hY] at h2 hl2 happ ⊢
      have HH1 := Lib.hid h1
      have HH2 := Lib.hid h2
      have HAPP := Lib.hid happ
      have hsum : (⟨X.toArray⟩ : ByteArray).size + (⟨Y.toArray⟩ : ByteArray).size ≤ 9223372036854775807 := by rw [size_len, size_len]; show X.length + Y.length ≤ _; omega
      clear ih h1 h2 e1 e2 hX hY happ hdd
      go_enter Tryz.func79, Tryz.ntmps79
      go_wp2_with (first | rw [HAPP.out] | (go_at_call 79; first | ((with_reducible refine (HH1.out _).mono ?_); rintro e w' ⟨rfl, rfl⟩) | ((with_reducible refine (HH2.out _).mono ?_); rintro e w' ⟨rfl, rfl⟩)))
      go_ret
      exact ⟨rfl, rfl⟩
theorem rcut_any (s : ByteArray) (w : World) :
    Calls Tryz.prog 38 #[.string s] w fun e w' => e = .returned (.string ⟨(s.data.toList.take 100).toArray⟩) ∧ w = w' := by
  go_enter Tryz.func38, Tryz.ntmps38
  go_wp2_with fail
  go_ret
  refine ⟨?_, rfl⟩
  have e1 : s.extract 0 (min (s.size : Int) 100).toNat = ⟨(s.data.toList.take 100).toArray⟩ := by
    rw [← mkS_data (s.extract _ _), Lib.extract_data, List.drop_zero, Nat.sub_zero]
    congr 2
    rw [List.take_eq_take_iff, ← size_len]
    omega
  rw [e1]
  rfl
theorem rRecord_any (k v : ByteArray) (w : World) (hk : k.size ≤ 1000) (hv : v.size ≤ 1000000) :
    Calls Tryz.prog 57 #[.string k, .string v] w fun e w' => e = .returned (.string ⟨(recOf k.data.toList v.data.toList).toArray⟩) ∧ w = w' := by
  obtain ⟨rs, hrs⟩ : ∃ rs : ByteArray, rs = ((((⟨#[32]⟩ : ByteArray) ++ k) ++ ⟨#[61]⟩) ++ v) ++ ⟨#[10]⟩ := ⟨_, rfl⟩
  have hrd : rs.data.toList = recRest k.data.toList v.data.toList := by
    rw [hrs]; unfold recRest; simp
  have hrl : rs.size = k.size + v.size + 3 := by
    rw [size_len, hrd, rest_len, ← size_len, ← size_len]
  obtain ⟨m, hm⟩ : ∃ m, m = recN rs.size := ⟨_, rfl⟩
  have hsp := recN_spec rs.size
  have hle := recN_le rs.size (by omega)
  have hleast := recN_least rs.size
  rw [← hm] at hsp hle hleast
  have hpos : 1 ≤ Lib.nDigits m := by
    have := nDigits_mono (Nat.zero_le m)
    rw [Lib.nDigits_small (u := 0) (by omega)] at this
    exact this
  have hres : recOf k.data.toList v.data.toList = Lib.decDigits m ++ rs.data.toList := by
    unfold recOf
    rw [← hrd, ← size_len, ← hm]
  have s1 : (1 : Nat) + k.size ≤ 9223372036854775807 := by omega
  have HRS := Lib.hid hrs.symm
  have HSP := Lib.hid hsp
  have HLE := Lib.hid hleast
  have HRES := Lib.hid hres
  have hdec := fun (j : Nat) (hj : j ≤ 9000000000000000) W => rDecimal_any j W hj
  have HDEC := Lib.hid hdec
  have hm2 : rs.size + 1 ≤ m := by omega
  have hm3 : m ≤ rs.size + 7 := hle
  have z1 : ((⟨#[32]⟩ : ByteArray) ++ k).size = k.size + 1 := by rw [ByteArray.size_append]; show 1 + k.size = _; omega
  have z2 : (((⟨#[32]⟩ : ByteArray) ++ k) ++ ⟨#[61]⟩).size = k.size + 2 := by rw [ByteArray.size_append, z1]; rfl
  have z3 : ((((⟨#[32]⟩ : ByteArray) ++ k) ++ ⟨#[61]⟩) ++ v).size = k.size + v.size + 2 := by rw [ByteArray.size_append, z2]; omega
  have hrs2 : rs.size ≤ 1001003 := by omega
  clear hrd hm hsp hle hleast hres hdec hrs hpos hrl
  go_enter Tryz.func57, Tryz.ntmps57
  go_wp2_with (rw [HRS.out])
  go_loop [6] (fun u => ∃ j : Nat, rs.size + 1 ≤ j ∧ j ≤ m ∧ u = .int .i64 j) (fun u => m - (intOf u).toNat)
  case atStart => exact ⟨rs.size + 1, by omega, hm2, by go_num⟩
  case round =>
    obtain ⟨j, hj1, hj2, rfl⟩ := hrel
    have hd := HDEC.out j (by omega)
    have hdl := Lib.decDigits_length j
    obtain ⟨P, hP⟩ : ∃ P : ByteArray, P = ⟨(Lib.decDigits j).toArray⟩ := ⟨_, rfl⟩
    have hPs : P.size = Lib.nDigits j := by rw [hP, size_len]; exact hdl
    have hPl : P.size ≤ 20 := by
      rw [hPs]
      have h3 : Lib.nDigits j ≤ Lib.nDigits 9000000000000000 := nDigits_mono (by omega)
      have h4 : Lib.nDigits 9000000000000000 = 16 := by decide +kernel
      omega
    rw [← hP] at hd
    have HD := Lib.hid hd
    by_cases hjm : j = m
    · subst hjm
      have hsum : (j : Int) = (rs.size : Int) + (P.size : Int) := by have := HSP.out; omega
      have b1 : ((j : Int) != (rs.size : Int) + (P.size : Int)) = false := by rw [hsum]; simp
      have happ : P ++ rs = ⟨(Lib.decDigits j ++ rs.data.toList).toArray⟩ := by
        have h := mk_append (Lib.decDigits j) rs.data.toList
        rw [mkS_data] at h
        rw [hP]; exact h
      rw [← HRES.out] at happ
      have HAPP := Lib.hid happ
      have hszs : P.size + rs.size ≤ 9223372036854775807 := by omega
      clear hd hdl hP hPs happ hsum HSP HLE HRES HDEC
      go_wp2_with (first | rw [HAPP.out] | (go_at_call 79; refine (HD.out _).mono ?_; rintro e w' ⟨rfl, rfl⟩))
      go_ret
      exact ⟨rfl, rfl⟩
    · have hne : ¬ (j : Int) = (rs.size : Int) + (P.size : Int) := fun h => by
        have := HLE.out j (by omega)
        omega
      have b1 : ((j : Int) != (rs.size : Int) + (P.size : Int)) = true := by simpa using hne
      clear hd hdl hP hPs
      go_wp2_with (first | (go_at_call 79; refine (HD.out _).mono ?_; rintro e w' ⟨rfl, rfl⟩))
      go_round
      case rel => exact ⟨j + 1, by omega, by omega, by go_num⟩
      case measure => simp [intOf]; omega
end Go.Proofs.YtbkjjapeojclpaaGreatDoor
