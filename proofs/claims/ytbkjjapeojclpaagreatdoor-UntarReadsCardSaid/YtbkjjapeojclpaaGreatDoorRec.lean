/- tar.Record, tar.name, tar.cut, tar.extra. -/
import Derived.Test.YtbkjjapeojclpaaGreatDoorHRead
namespace Go.Proofs.YtbkjjapeojclpaaGreatDoor
set_option linter.unusedVariables false
set_option linter.unusedSimpArgs false
open Go.RowKit Go.Proofs.YtbkjjapeojclpaaGreatDoorW.PrintWords
set_option maxHeartbeats 400000

theorem nDigits_step (n : Nat) : Lib.nDigits n ≤ Lib.nDigits (n + 1) ∧ Lib.nDigits (n + 1) ≤ Lib.nDigits n + 1 ∧ (Lib.nDigits (n + 1) = Lib.nDigits n + 1 → Lib.nDigits (n + 2) = Lib.nDigits (n + 1)) := by
  induction n using Nat.strongRecOn with
  | _ n ih =>
    by_cases h8 : n + 2 < 10
    · rw [Lib.nDigits_small (u := n) (by omega), Lib.nDigits_small (u := n + 1) (by omega), Lib.nDigits_small (u := n + 2) h8]
      omega
    · by_cases h9 : n + 2 = 10
      · obtain rfl : n = 8 := by omega
        decide +kernel
      · by_cases h10 : n + 2 = 11
        · obtain rfl : n = 9 := by omega
          decide +kernel
        · have hn : ¬ n < 10 := by omega
          rw [Lib.nDigits_big hn, Lib.nDigits_big (u := n + 1) (by omega), Lib.nDigits_big (u := n + 2) (by omega)]
          obtain ⟨h1, h2, h3⟩ := ih (n / 10) (by omega)
          have hc : (n + 1) / 10 = n / 10 ∨ ((n + 1) / 10 = n / 10 + 1 ∧ (n + 2) / 10 = n / 10 + 1) := by omega
          rcases hc with hc | ⟨hc, hc2⟩
          · have hc2 : (n + 2) / 10 = n / 10 ∨ (n + 2) / 10 = n / 10 + 1 := by omega
            rcases hc2 with hc2 | hc2 <;> rw [hc, hc2] <;> omega
          · rw [hc, hc2]; omega
theorem nDigits_mono {a b : Nat} (h : a ≤ b) : Lib.nDigits a ≤ Lib.nDigits b := by
  induction b with
  | zero => obtain rfl : a = 0 := by omega
            exact Nat.le_refl _
  | succ b ih =>
    by_cases hb : a = b + 1
    · subst hb; exact Nat.le_refl _
    · exact Nat.le_trans (ih (by omega)) (nDigits_step b).1
theorem rec_ex' (r : Nat) : ∃ n, n = r + Lib.nDigits n ∧ n ≤ 2 * r + 1 := by
  induction r with
  | zero => exact ⟨1, by decide +kernel, by omega⟩
  | succ r ih =>
    obtain ⟨n, hn, hl⟩ := ih
    obtain ⟨h1, h2, h3⟩ := nDigits_step n
    rcases Nat.lt_or_ge (Lib.nDigits (n + 1)) (Lib.nDigits n + 1) with h | h
    · exact ⟨n + 1, by omega, by omega⟩
    · have := h3 (by omega)
      exact ⟨n + 2, by omega, by omega⟩
theorem rec_ex (r : Nat) : ∃ n, n = r + Lib.nDigits n := (rec_ex' r).imp fun _ h => h.1
theorem least (P : Nat → Prop) (h : ∃ n, P n) : ∃ n, P n ∧ ∀ m, P m → n ≤ m := by
  obtain ⟨n, hn⟩ := h
  induction n using Nat.strongRecOn with
  | _ n ih =>
    by_cases hx : ∃ m, m < n ∧ P m
    · obtain ⟨m, hm, hp⟩ := hx
      exact ih m hm hp
    · exact ⟨n, hn, fun m hm => by
        rcases Nat.lt_or_ge m n with h | h
        · exact absurd ⟨m, h, hm⟩ hx
        · exact h⟩
/-- How long a record is whose rest is so long: the least length that counts its own digits. -/
noncomputable def recN (r : Nat) : Nat := Classical.choose (least (fun n => n = r + Lib.nDigits n) (rec_ex r))
theorem recN_spec (r : Nat) : recN r = r + Lib.nDigits (recN r) := (Classical.choose_spec (least (fun n => n = r + Lib.nDigits n) (rec_ex r))).1
theorem recN_least (r m : Nat) (h : m = r + Lib.nDigits m) : recN r ≤ m := (Classical.choose_spec (least (fun n => n = r + Lib.nDigits n) (rec_ex r))).2 m h
theorem recN_le (r : Nat) (h : r ≤ 2000000) : recN r ≤ r + 7 := by
  obtain ⟨n, hn, hl⟩ := rec_ex' r
  have h1 := recN_least r n hn
  have h2 : Lib.nDigits (recN r) ≤ Lib.nDigits 9999999 := nDigits_mono (by omega)
  have h3 : Lib.nDigits 9999999 = 7 := by decide +kernel
  have := recN_spec r
  omega

def recRest (k v : Bs) : Bs := [32] ++ k ++ [61] ++ v ++ [10]
noncomputable def recOf (k v : Bs) : Bs := Lib.decDigits (recN (recRest k v).length) ++ recRest k v
theorem rest_len (k v : Bs) : (recRest k v).length = k.length + v.length + 3 := by simp [recRest]; omega

theorem Record_any (k v : ByteArray) (w : World) (hG : Glob w) (hk : k.size ≤ 1000) (hv : v.size ≤ 1000000) :
    Calls Tryz.prog 80 #[.string k, .string v] w fun e w' => e = .returned (.string ⟨(recOf k.data.toList v.data.toList).toArray⟩) ∧ Below w.heap.size w w' := by
  go_enter Tryz.func80, Tryz.ntmps80
  go_wp2_with fail
  obtain ⟨rs, hrs⟩ : ∃ rs : ByteArray, rs = ⟨#[32]⟩ ++ k ++ ⟨#[61]⟩ ++ v ++ ⟨#[10]⟩ := ⟨_, rfl⟩
  have hsz : rs.size = k.size + v.size + 3 := by
    rw [hrs]; simp only [ByteArray.size_append]
    have e1 : (⟨#[32]⟩ : ByteArray).size = 1 := rfl
    have e2 : (⟨#[61]⟩ : ByteArray).size = 1 := rfl
    have e3 : (⟨#[10]⟩ : ByteArray).size = 1 := rfl
    omega
  have hsI : (1 + (k.size : Int) + 1 + (v.size : Int) + 1) = (rs.size : Int) := by omega
  rw [hsI, ← hrs]
  have hdl : rs.data.toList = recRest k.data.toList v.data.toList := by
    rw [hrs]; simp [recRest]
  have hR : rs.size = (recRest k.data.toList v.data.toList).length := by rw [size_len, hdl]
  have hRs : Hid (recN (recRest k.data.toList v.data.toList).length = recN rs.size) := Lib.hid (by rw [hR])
  have HDL := Lib.hid hdl
  have hrl : rs.size ≤ 1001003 := by omega
  have hN7 := recN_le rs.size (by omega)
  obtain ⟨N, hN⟩ : ∃ N, N = recN rs.size := ⟨_, rfl⟩
  have hNs := recN_spec rs.size
  rw [← hN] at hN7 hNs hRs
  have HNS := Lib.hid hNs
  have HN := Lib.hid hN
  clear hNs hN hR hdl hsI hsz hrs
  go_loopw [6] (fun n wr => ∃ m : Nat, n = .int .i64 m ∧ m ≤ N ∧ Hid (m ≤ rs.size + Lib.nDigits m) ∧ Hid (Below w.heap.size w wr)) (fun n _ => N - (intOf n).toNat)
  case atStart => exact ⟨rs.size, rfl, by have := HNS.out; omega, Lib.hid (by omega), Lib.hid (Below.refl _ _)⟩
  case round =>
    obtain ⟨m, rfl, hm, HM, HB⟩ := hrel
    obtain ⟨D, hD⟩ : ∃ D, D = Lib.decDigits m := ⟨_, rfl⟩
    have hDl : D.length = Lib.nDigits m := by rw [hD, Lib.decDigits_length]
    have hGr := Lib.hid (hG.below' HB.out)
    have hIt : ∀ W, Glob W → Calls Tryz.prog 98 #[.int .i64 m] W fun e w' => e = .returned (.string ⟨D.toArray⟩) ∧ Below W.heap.size W w' := fun W h => by rw [hD]; exact Itoa_any m W h (by omega)
    have HIT := Lib.hid hIt
    have HD := Lib.hid hD
    have HDLen := Lib.hid hDl
    have hDl7 : D.length ≤ N + 1 := by
      have h1 : Lib.nDigits m ≤ Lib.nDigits N := nDigits_mono hm
      have := HNS.out
      omega
    clear hIt hD hDl
    by_cases hq : D.length + rs.size = m
    · have b1 : (((D.length : Int) + (rs.size : Int)) == (m : Int)) = true := by rw [beq_iff_eq]; omega
      have hmN : Hid (m = N) := Lib.hid (by
        have h1 := HDLen.out
        have h2 := recN_least rs.size m (by omega)
        rw [← HN.out] at h2
        omega)
      clear hq
      go_wp2_with (first | (go_at_call 98; refine (HIT.out _ hGr.out).mono ?_; rintro e w1 ⟨rfl, hb1⟩) | (go_at_call 98; refine (HIT.out _ (hGr.out.below' hb1)).mono ?_; rintro e w2 ⟨rfl, hb2⟩))
      go_ret
      refine ⟨?_, below_two (below_two HB.out hb1) hb2⟩
      have e1 : (⟨D.toArray⟩ : ByteArray) ++ rs = ⟨(recOf k.data.toList v.data.toList).toArray⟩ := by
        rw [← mkS_data rs, mk_append]
        unfold recOf
        rw [hRs.out, HDL.out, ← hmN.out, HD.out]
      rw [e1]
      rfl
    · have b1 : (((D.length : Int) + (rs.size : Int)) == (m : Int)) = false := by rw [beq_eq_false_iff_ne]; omega
      have hlt : m < D.length + rs.size := by have := HM.out; have := HDLen.out; omega
      have hle : D.length + rs.size ≤ N := by
        have h1 : Lib.nDigits m ≤ Lib.nDigits N := nDigits_mono hm
        have := HNS.out
        have := HDLen.out
        omega
      have HM2 : Hid (D.length + rs.size ≤ rs.size + Lib.nDigits (D.length + rs.size)) := Lib.hid (by
        have h1 : Lib.nDigits m ≤ Lib.nDigits (D.length + rs.size) := nDigits_mono (by omega)
        have := HDLen.out
        omega)
      clear hq
      go_wp2_with (first | (go_at_call 98; refine (HIT.out _ hGr.out).mono ?_; rintro e w1 ⟨rfl, hb1⟩) | (go_at_call 98; refine (HIT.out _ (hGr.out.below' hb1)).mono ?_; rintro e w2 ⟨rfl, hb2⟩))
      go_roundw
      case rel => exact ⟨D.length + rs.size, by go_num, hle, HM2, Lib.hid (below_two (below_two HB.out hb1) hb2)⟩
      case measure => simp [intOf]; omega

def nameOf (n : Nd) : Bs := if n.path.isEmpty then [46] else n.path
theorem name_any (n : Nd) (w : World) :
    Calls Tryz.prog 61 #[n.val] w fun e w' => e = .returned (.string ⟨(nameOf n).toArray⟩) ∧ Below w.heap.size w w' := by
  obtain ⟨p, k, d⟩ := n
  unfold Nd.val nameOf
  go_enter Tryz.func61, Tryz.ntmps61
  go_wp2_with fail
  all_goals go_ret
  all_goals refine ⟨?_, (Below.refl _ _).alloc (Nat.le_refl _) _⟩
  all_goals first | rfl | simp_all
theorem cut_any (s : ByteArray) (w : World) :
    Calls Tryz.prog 60 #[.string s] w fun e w' => e = .returned (.string ⟨(s.data.toList.take 100).toArray⟩) ∧ w = w' := by
  go_enter Tryz.func60, Tryz.ntmps60
  go_wp2_with fail
  go_ret
  refine ⟨?_, rfl⟩
  have e1 : s.extract 0 (min (s.size : Int) 100).toNat = ⟨(s.data.toList.take 100).toArray⟩ := by
    rw [← mkS_data (s.extract _ _), Lib.extract_data, List.drop_zero, Nat.sub_zero]
    congr 2
    rw [List.take_eq_take_iff, ← size_len]
    omega
  rw [e1]
  rfl
theorem recOf_len (k v : Bs) : (recOf k v).length = recN (k.length + v.length + 3) := by
  unfold recOf
  rw [List.length_append, Lib.decDigits_length, rest_len]
  have := recN_spec (k.length + v.length + 3)
  omega
theorem recOf_le (k v : Bs) (h : k.length + v.length ≤ 1900000) : (recOf k v).length ≤ k.length + v.length + 10 := by
  rw [recOf_len]
  have := recN_le (k.length + v.length + 3) (by omega)
  omega
def bsPath : Bs := [112, 97, 116, 104]
def bsLink : Bs := [108, 105, 110, 107, 112, 97, 116, 104]
noncomputable def extraOf (n : Nd) : Bs := (if 100 < (nameOf n).length then recOf bsPath (nameOf n) else []) ++ (if n.kind = 4 ∧ 100 < n.data.length then recOf bsLink n.data else [])
theorem nameOf_le (n : Nd) (m : Nat) (h : n.path.length ≤ m) (hm : 1 ≤ m) : (nameOf n).length ≤ m := by
  unfold nameOf
  split
  · exact hm
  · exact h
theorem extra_any (n : Nd) (w : World) (hG : Glob w) (hp : n.path.length ≤ 900000) (hd : n.data.length ≤ 900000) :
    Calls Tryz.prog 58 #[n.val] w fun e w' => e = .returned (.string ⟨(extraOf n).toArray⟩) ∧ Below w.heap.size w w' := by
  obtain ⟨nm, hnm⟩ : ∃ nm, nm = nameOf n := ⟨_, rfl⟩
  have hnl : nm.length ≤ 900000 := by rw [hnm]; exact nameOf_le n _ hp (by omega)
  obtain ⟨r1, hr1⟩ : ∃ r1, r1 = recOf bsPath nm := ⟨_, rfl⟩
  obtain ⟨r2, hr2⟩ : ∃ r2, r2 = recOf bsLink n.data := ⟨_, rfl⟩
  have hrl1 : r1.length ≤ 1000000 := by rw [hr1]; have := recOf_le bsPath nm (by simp [bsPath]; omega); simp [bsPath] at this; simp [bsPath]; omega
  have hrl2 : r2.length ≤ 1000000 := by rw [hr2]; have := recOf_le bsLink n.data (by simp [bsLink]; omega); simp [bsLink] at this; simp [bsLink]; omega
  have HN : Hid (∀ W, Calls Tryz.prog 61 #[n.val] W fun e w' => e = .returned (.string ⟨nm.toArray⟩) ∧ Below W.heap.size W w') := Lib.hid fun W => by rw [hnm]; exact name_any n W
  have HR1 : Hid (∀ W, Glob W → Calls Tryz.prog 80 #[.string ⟨#[112, 97, 116, 104]⟩, .string ⟨nm.toArray⟩] W fun e w' => e = .returned (.string ⟨r1.toArray⟩) ∧ Below W.heap.size W w') :=
    Lib.hid fun W h => by rw [hr1]; exact Record_any ⟨#[112, 97, 116, 104]⟩ ⟨nm.toArray⟩ W h (by decide) (by rw [size_len]; show nm.length ≤ _; omega)
  have HR2 : Hid (∀ W, Glob W → Calls Tryz.prog 80 #[.string ⟨#[108, 105, 110, 107, 112, 97, 116, 104]⟩, .string ⟨n.data.toArray⟩] W fun e w' => e = .returned (.string ⟨r2.toArray⟩) ∧ Below W.heap.size W w') :=
    Lib.hid fun W h => by rw [hr2]; exact Record_any ⟨#[108, 105, 110, 107, 112, 97, 116, 104]⟩ ⟨n.data.toArray⟩ W h (by decide) (by rw [size_len]; show n.data.length ≤ _; omega)
  have HE : Hid (extraOf n = (if 100 < nm.length then r1 else []) ++ (if n.kind = 4 ∧ 100 < n.data.length then r2 else [])) := Lib.hid (by unfold extraOf; rw [hr1, hr2, hnm])
  clear hnm hr1 hr2
  obtain ⟨p, k, d⟩ := n
  unfold Nd.val at *
  simp only at HN HR1 HR2 HE hd
  go_enter Tryz.func58, Tryz.ntmps58
  go_wp2_with fail
  obtain ⟨W, hW⟩ : ∃ W, W = w.alloc (.cells #[.string ⟨p.toArray⟩, .int .i64 k, .string ⟨d.toArray⟩] 38) := ⟨_, rfl⟩
  rw [← hW]
  refine (HN.out _).mono ?_
  rintro e w1 ⟨rfl, hb1⟩
  have hBW : Below w.heap.size w W := by rw [hW]; exact (Below.refl _ _).alloc (Nat.le_refl _) _
  have hB1 := Lib.hid (below_two hBW hb1)
  have hG1 := Lib.hid (hG.below' hB1.out)
  have c1 : w1.cell? ⟨w.heap.size, 1, none⟩ = some (.int .i64 k) := by rw [hb1.cell (p := ⟨w.heap.size, 1, none⟩) (by rw [hW]; simp), hW]; simp [go_sem]
  have c2 : w1.cell? ⟨w.heap.size, 2, none⟩ = some (.string ⟨d.toArray⟩) := by rw [hb1.cell (p := ⟨w.heap.size, 2, none⟩) (by rw [hW]; simp), hW]; simp [go_sem]
  have hz1 : w.heap.size < w1.heap.size := by have := hb1.size; rw [hW] at this; simp at this; omega
  clear hW hBW hb1 HN hG
  by_cases hn : 100 < nm.length
  · rw [if_pos hn] at HE
    have b1 : decide ((100 : Int) < (nm.length : Int)) = true := decide_eq_true (by omega)
    by_cases hk : k = 4
    · subst hk
      by_cases hd1 : 100 < d.length
      · rw [if_pos ⟨rfl, hd1⟩] at HE
        have b3 : decide ((100 : Int) < (d.length : Int)) = true := decide_eq_true (by omega)
        go_wp2_with fail
        refine (HR1.out _ hG1.out).mono ?_
        rintro e w2 ⟨rfl, hb2⟩
        obtain ⟨hc2, hf2⟩ := bcell hb2
        have hG2 := Lib.hid (hG1.out.below' hb2)
        have hB2 := Lib.hid (below_two hB1.out hb2)
        clear hb2
        go_wp2_with fail
        refine (HR2.out _ hG2.out).mono ?_
        rintro e w3 ⟨rfl, hb3⟩
        have hB3 := Lib.hid (below_two hB2.out hb3)
        clear hb3
        go_wp2_with fail
        go_ret
        refine ⟨?_, hB3.out⟩
        rw [HE.out]
        have e1 : (⟨#[]⟩ : ByteArray) ++ ⟨r1.toArray⟩ ++ ⟨r2.toArray⟩ = ⟨(r1 ++ r2).toArray⟩ := by rw [show (⟨#[]⟩ : ByteArray) = ⟨([] : Bs).toArray⟩ from rfl, mk_append, mk_append]; rfl
        rw [← e1]
        rfl
      · rw [if_neg (fun h => hd1 h.2)] at HE
        have b3 : decide ((100 : Int) < (d.length : Int)) = false := decide_eq_false (by omega)
        go_wp2_with fail
        refine (HR1.out _ hG1.out).mono ?_
        rintro e w2 ⟨rfl, hb2⟩
        obtain ⟨hc2, hf2⟩ := bcell hb2
        have hG2 := Lib.hid (hG1.out.below' hb2)
        have hB2 := Lib.hid (below_two hB1.out hb2)
        clear hb2
        go_wp2_with fail
        go_ret
        refine ⟨?_, hB2.out⟩
        rw [HE.out]
        have e1 : (⟨#[]⟩ : ByteArray) ++ ⟨r1.toArray⟩ = ⟨(r1 ++ []).toArray⟩ := by rw [show (⟨#[]⟩ : ByteArray) = ⟨([] : Bs).toArray⟩ from rfl, mk_append, List.append_nil]; rfl
        rw [← e1]
        rfl
    · rw [if_neg (fun h => hk h.1)] at HE
      have b2 : (k == 4) = false := beq_eq_false_iff_ne.2 hk
      go_wp2_with fail
      refine (HR1.out _ hG1.out).mono ?_
      rintro e w2 ⟨rfl, hb2⟩
      obtain ⟨hc2, hf2⟩ := bcell hb2
      have hG2 := Lib.hid (hG1.out.below' hb2)
      have hB2 := Lib.hid (below_two hB1.out hb2)
      clear hb2
      go_wp2_with fail
      go_ret
      refine ⟨?_, hB2.out⟩
      rw [HE.out]
      have e1 : (⟨#[]⟩ : ByteArray) ++ ⟨r1.toArray⟩ = ⟨(r1 ++ []).toArray⟩ := by rw [show (⟨#[]⟩ : ByteArray) = ⟨([] : Bs).toArray⟩ from rfl, mk_append, List.append_nil]; rfl
      rw [← e1]
      rfl
  · rw [if_neg hn] at HE
    have b1 : decide ((100 : Int) < (nm.length : Int)) = false := decide_eq_false (by omega)
    by_cases hk : k = 4
    · subst hk
      by_cases hd1 : 100 < d.length
      · rw [if_pos ⟨rfl, hd1⟩] at HE
        have b3 : decide ((100 : Int) < (d.length : Int)) = true := decide_eq_true (by omega)
        go_wp2_with fail
        refine (HR2.out _ hG1.out).mono ?_
        rintro e w3 ⟨rfl, hb3⟩
        have hB3 := Lib.hid (below_two hB1.out hb3)
        clear hb3
        go_wp2_with fail
        go_ret
        refine ⟨?_, hB3.out⟩
        rw [HE.out]
        have e1 : (⟨#[]⟩ : ByteArray) ++ ⟨r2.toArray⟩ = ⟨([] ++ r2).toArray⟩ := by rw [show (⟨#[]⟩ : ByteArray) = ⟨([] : Bs).toArray⟩ from rfl, mk_append]
        rw [← e1]
        rfl
      · rw [if_neg (fun h => hd1 h.2)] at HE
        have b3 : decide ((100 : Int) < (d.length : Int)) = false := decide_eq_false (by omega)
        go_wp2_with fail
        go_ret
        refine ⟨?_, hB1.out⟩
        rw [HE.out]
        rfl
    · rw [if_neg (fun h => hk h.1)] at HE
      have b2 : (k == 4) = false := beq_eq_false_iff_ne.2 hk
      go_wp2_with fail
      go_ret
      refine ⟨?_, hB1.out⟩
      rw [HE.out]
      rfl
end Go.Proofs.YtbkjjapeojclpaaGreatDoor
