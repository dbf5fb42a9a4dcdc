/- The document's own tars: pad, Parts. -/
import Derived.Test.YtbkjjapeojclpaaGreatDoorRef13
import Derived.Test.YtbkjjapeojclpaaGreatDoorLaid
namespace Go.Proofs.YtbkjjapeojclpaaGreatDoor
set_option linter.unusedVariables false
set_option linter.unusedSimpArgs false
open Go.RowKit Go.Proofs.YtbkjjapeojclpaaGreatDoorW.PrintWords
set_option maxHeartbeats 400000
set_option maxRecDepth 100000

theorem Gr.refl {B : Nat} {w : World} (v : Value) (hB : B ≤ w.heap.size) : Gr B w w v v := ⟨Below.refl _ _, fun _ _ _ => rfl, fun _ h => .inl h⟩
theorem Gr.ofBelow {B : Nat} {w w' : World} (v : Value) (hB : B ≤ w.heap.size) (h : Below w.heap.size w w') : Gr B w w' v v := ⟨h.mono hB, fun k hk _ => h.block k hk, fun _ h => .inl h⟩
/-- A byte 0 more behind bytes of the call's own, from a row of one. -/
theorem OwnB.add0 {w : World} {base : Nat} {A : Option Addr} {n c : Nat} {l : Bs} (h : OwnB w base (.slice A n c) l) (hn : l.length + 1 ≤ 140737488355328) (hb : base ≤ w.heap.size) (ty : TypeId) :
    ∃ A' c' w', (Builtin.append_ #[22, 22] ty #[.slice A n c, .slice (some ⟨w.heap.size, 0, none⟩) 1 1]).run Tryz.prog (w.alloc (.cells #[.int .u8 0] 5)) = .ok (.slice A' (l.length + 1) c') w' ∧
      OwnB w' base (.slice A' (l.length + 1) c') (l ++ [0]) ∧ Gr base w w' (.slice A n c) (.slice A' (l.length + 1) c') := by
  have hbl : Below w.heap.size w (w.alloc (.cells #[.int .u8 0] 5)) := (Below.refl _ _).alloc (Nat.le_refl _) _
  have h1 := h.blk fun j hj => hbl.block j (h.lt j hj).2
  have hC : kByte.C (w.alloc (.cells #[.int .u8 0] 5)) (some ⟨w.heap.size, 0, none⟩) 1 [0] := (bytesAt_new w [0]).C (by simp)
  obtain ⟨v, w', hr, ho, hg, hl⟩ := h1.app ty ⟨w.heap.size, 0, none⟩ 1 1 [0] hC (by simpa using hn) (Nat.le_trans hb hbl.size)
  obtain ⟨A', n', c', rfl⟩ := ho.form
  have gr := (Gr.ofBelow (.slice A n c) hb hbl).trans (Gr.of h1 (Nat.le_trans hb hbl.size) hg hl)
  have hn' : n' = l.length + 1 := by rw [ho.C.1, List.length_append]; rfl
  subst hn'
  exact ⟨A', c', w', hr, ho, gr⟩
def PadPost (base : Nat) (w : World) (v : Value) (l : Bs) (e : Ending) (w' : World) : Prop := ∃ v', e = .returned v' ∧ OwnB w' base v' (l ++ rep 0 ((512 - l.length % 512) % 512)) ∧ Gr base w w' v v'
theorem rpad_any (base : Nat) (A : Option Addr) (n c : Nat) (l : Bs) (w : World) (h : OwnB w base (.slice A n c) l) (hb : base ≤ w.heap.size) (hl : l.length ≤ 1000000000) :
    Calls Tryz.prog 37 #[.slice A n c] w (PadPost base w (.slice A n c) l) := by
  have hn0 := h.C.1
  obtain ⟨N, hN⟩ : ∃ N, N = l.length := ⟨_, rfl⟩
  have HO := Lib.hid h
  have HLN := Lib.hid hN
  rw [← hN] at hn0 hl
  subst hn0
  clear h hN
  go_enter Tryz.func37, Tryz.ntmps37
  go_wp2_with fail
  go_loopw [0] (fun u wr => ∃ (j m : Nat) (A1 : Option Addr) (c1 : Nat), u = .slice A1 m c1 ∧ m = n + j ∧ j ≤ (512 - n % 512) % 512 ∧ Hid (OwnB wr base (.slice A1 m c1) (l ++ rep 0 j)) ∧ Hid (Gr base w wr (.slice A n c) (.slice A1 m c1)) ∧ Hid (base ≤ wr.heap.size))
    (fun u _ => match u with | .slice _ m _ => (512 - m % 512) % 512 | _ => 0)
  case atStart => exact ⟨0, n, A, c, rfl, rfl, by omega, Lib.hid (by simpa [rep] using HO.out), Lib.hid (Gr.refl _ hb), Lib.hid hb⟩
  case round =>
    obtain ⟨j, m, A1, c1, rfl, hm, hj, HO1, HG1, HB1⟩ := hrel
    have hll : (l ++ rep 0 j).length = m := by rw [List.length_append, rep, List.length_replicate, ← HLN.out, hm]
    by_cases hz : m % 512 = 0
    · have b1 : ((m : Int) % 512 != 0) = false := by
        have : (m : Int) % 512 = 0 := by omega
        rw [this]; rfl
      have hjf : j = (512 - n % 512) % 512 := by omega
      have HJ := Lib.hid hjf
      clear hll hm hz hj hjf
      go_wp2_with fail
      go_ret
      refine ⟨_, rfl, ?_, HG1.out⟩
      rw [← HLN.out, ← HJ.out]
      exact HO1.out
    · have b1 : ((m : Int) % 512 != 0) = true := by
        have : ¬ (m : Int) % 512 = 0 := by omega
        simpa using this
      obtain ⟨A2, c2, w2, hr2, ho2, gr2⟩ := HO1.out.add0 (by omega) HB1.out 22
      rw [hll] at hr2 ho2 gr2
      have hrep : l ++ rep 0 j ++ [0] = l ++ rep 0 (j + 1) := by rw [List.append_assoc, rep, rep, List.replicate_succ']
      rw [hrep] at ho2
      have HR2 := Lib.hid hr2
      have HO2 := Lib.hid ho2
      have HG2 := Lib.hid (HG1.out.trans gr2)
      have HB2 := Lib.hid (Nat.le_trans HB1.out gr2.below.size)
      have hm2 : m + 1 = n + (j + 1) := by omega
      have hj2 : j + 1 ≤ (512 - n % 512) % 512 := by omega
      have hmes : (512 - (m + 1) % 512) % 512 < (512 - m % 512) % 512 := by omega
      have HM2 := Lib.hid hm2
      have HJ2 := Lib.hid hj2
      clear hll hr2 ho2 gr2 hrep hz hj hm2 hj2 hm
      go_wp2_with (at_builtin; refine Lib.wpList_append_run _ rfl _ _ _ _ rfl _ _ rfl rfl _ _ HR2.out ?_)
      go_roundw
      case rel => exact ⟨j + 1, m + 1, A2, c2, rfl, HM2.out, HJ2.out, HO2, HG2, HB2⟩
      case measure => simpa using hmes
theorem results_t4 {fn : Func} {t u v x : Tmp} (h : fn.results = #[.tmp t, .tmp u, .tmp v, .tmp x]) (tmps : Array Value) (P : Program) (w : World) :
    (results fn tmps).run P w = .ok (.tuple #[tmps.getD t undef, tmps.getD u undef, tmps.getD v undef, tmps.getD x undef]) w := by
  simp [results, h]
/-- What Parts tells of a node: its name, where it goes, its bytes, the records ahead. -/
def linkOf (n : Nd) : Bs := if n.kind = 4 then n.data else []
def ownData (n : Nd) : Bs := if n.kind = 4 then [] else n.data
set_option maxHeartbeats 4000000 in
theorem rParts_any (n : Nd) (w : World) (hp : n.path.length ≤ 900000) (hd : n.data.length ≤ 900000) :
    Calls Tryz.prog 36 #[n.val] w fun e w' => e = .returned (.tuple #[.string ⟨(nameOf n).toArray⟩, .string ⟨(linkOf n).toArray⟩, .string ⟨(ownData n).toArray⟩, .string ⟨(extraOf n).toArray⟩]) ∧ Below w.heap.size w w' := by
  obtain ⟨p, k, d⟩ := n
  unfold Nd.val
  have hrp := fun (x : Bs) (hx : x.length ≤ 900000) W => rRecord_any ⟨#[112, 97, 116, 104]⟩ ⟨x.toArray⟩ W (by decide) (by rw [size_len]; show x.length ≤ _; omega)
  have hrl := fun (x : Bs) (hx : x.length ≤ 900000) W => rRecord_any ⟨#[108, 105, 110, 107, 112, 97, 116, 104]⟩ ⟨x.toArray⟩ W (by decide) (by rw [size_len]; show x.length ≤ _; omega)
  have HRP := Lib.hid hrp
  have HRL := Lib.hid hrl
  clear hrp hrl
  simp only at hp hd
  obtain ⟨nm, hnm⟩ : ∃ nm, nm = nameOf ⟨p, k, d⟩ := ⟨_, rfl⟩
  obtain ⟨lk, hlk⟩ : ∃ lk, lk = linkOf ⟨p, k, d⟩ := ⟨_, rfl⟩
  obtain ⟨od', hod⟩ : ∃ od', od' = ownData ⟨p, k, d⟩ := ⟨_, rfl⟩
  have hnl : nm.length ≤ 900000 := by rw [hnm]; exact nameOf_le _ _ hp (by omega)
  have hll : lk.length ≤ 900000 := by rw [hlk]; unfold linkOf; split <;> simp; exact hd
  have hex : extraOf ⟨p, k, d⟩ = (if 100 < nm.length then recOf bsPath nm else []) ++ (if 100 < lk.length then recOf bsLink lk else []) := by
    unfold extraOf
    rw [← hnm]
    congr 1
    by_cases hk : k = 4
    · have : lk = d := by rw [hlk]; unfold linkOf; rw [if_pos hk]
      subst this
      by_cases h1 : 100 < lk.length
      · rw [if_pos ⟨hk, h1⟩, if_pos h1]
      · rw [if_neg (fun h => h1 h.2), if_neg h1]
    · have : lk = [] := by rw [hlk]; unfold linkOf; rw [if_neg hk]
      rw [if_neg (fun h => hk h.1), this]; rfl
  rw [← hnm, ← hlk, ← hod, hex]
  obtain ⟨P, hP⟩ : ∃ P : ByteArray, P = ⟨p.toArray⟩ := ⟨_, rfl⟩
  obtain ⟨Dd, hDd⟩ : ∃ D : ByteArray, D = ⟨d.toArray⟩ := ⟨_, rfl⟩
  have hPl : P.toList = p := by rw [hP, Lib.toList_data]
  have hPs : P.size = p.length := by rw [hP, size_len]
  have hDs : Dd.size = d.length := by rw [hDd, size_len]
  rw [← hP, ← hDd]
  have h1 := HRP.out p hp
  have h2 := HRL.out d hd
  rw [← hP] at h1
  rw [← hDd] at h2
  rw [show (⟨#[112, 97, 116, 104]⟩ : ByteArray).data.toList = bsPath from rfl, show P.data.toList = p from by rw [hP]] at h1
  rw [show (⟨#[108, 105, 110, 107, 112, 97, 116, 104]⟩ : ByteArray).data.toList = bsLink from rfl, show Dd.data.toList = d from by rw [hDd]] at h2
  obtain ⟨R1, hR1⟩ : ∃ R : ByteArray, R = ⟨(recOf bsPath p).toArray⟩ := ⟨_, rfl⟩
  obtain ⟨R2, hR2⟩ : ∃ R : ByteArray, R = ⟨(recOf bsLink d).toArray⟩ := ⟨_, rfl⟩
  rw [← hR1] at h1
  rw [← hR2] at h2
  have hs1 : R1.size ≤ 1000000 := by rw [hR1, size_len]; have h := recOf_le bsPath p (by show 4 + p.length ≤ _; omega); rw [show bsPath.length = 4 from rfl] at h; show (recOf bsPath p).length ≤ _; omega
  have hs2 : R2.size ≤ 1000000 := by rw [hR2, size_len]; have h := recOf_le bsLink d (by show 8 + d.length ≤ _; omega); rw [show bsLink.length = 8 from rfl] at h; show (recOf bsLink d).length ≤ _; omega
  have happ : R1 ++ R2 = ⟨(recOf bsPath p ++ recOf bsLink d).toArray⟩ := by rw [hR1, hR2]; exact mk_append _ _
  have happ0 : (⟨#[]⟩ : ByteArray) ++ R2 = R2 := by rw [hR2]; exact mk_append [] _
  obtain ⟨R12, hR12⟩ : ∃ R : ByteArray, R = ⟨(recOf bsPath p ++ recOf bsLink d).toArray⟩ := ⟨_, rfl⟩
  rw [← hR12] at happ
  have HP1 := Lib.hid h1
  have HP2 := Lib.hid h2
  have HAPP := Lib.hid happ
  have HAPP0 := Lib.hid happ0
  have hsum : R1.size + R2.size ≤ 9223372036854775807 := by omega
  have hsum0 : (⟨#[]⟩ : ByteArray).size + R2.size ≤ 9223372036854775807 := by show 0 + R2.size ≤ _; omega
  -- the four answers
  obtain ⟨X0, hX0⟩ : ∃ X : ByteArray, X = ⟨nm.toArray⟩ := ⟨_, rfl⟩
  obtain ⟨X1, hX1⟩ : ∃ X : ByteArray, X = ⟨lk.toArray⟩ := ⟨_, rfl⟩
  obtain ⟨X2, hX2⟩ : ∃ X : ByteArray, X = ⟨od'.toArray⟩ := ⟨_, rfl⟩
  obtain ⟨X3, hX3⟩ : ∃ X : ByteArray, X = ⟨((if 100 < nm.length then recOf bsPath nm else []) ++ (if 100 < lk.length then recOf bsLink lk else [])).toArray⟩ := ⟨_, rfl⟩
  rw [← hX0, ← hX1, ← hX2, ← hX3]
  have key : ((p = [] ∧ nm = [46]) ∨ (p ≠ [] ∧ nm = p)) ∧ ((k = 4 ∧ lk = d ∧ od' = []) ∨ (k ≠ 4 ∧ lk = [] ∧ od' = d)) := by
    refine ⟨?_, ?_⟩
    · by_cases h0 : p = []
      · subst h0; exact .inl ⟨rfl, hnm⟩
      · refine .inr ⟨h0, ?_⟩
        rw [hnm]; unfold nameOf
        have : p.isEmpty = false := by simpa using h0
        simp only [this]; rfl
    · by_cases hk : k = 4
      · exact .inl ⟨hk, by rw [hlk]; unfold linkOf; rw [if_pos hk], by rw [hod]; unfold ownData; rw [if_pos hk]⟩
      · exact .inr ⟨hk, by rw [hlk]; unfold linkOf; rw [if_neg hk], by rw [hod]; unfold ownData; rw [if_neg hk]⟩
  clear hnm hlk hod hex h1 h2 happ happ0 HRP HRL hnl hll
  have d3 : decide ((100 : Int) < 0) = false := by decide
  rcases key with ⟨⟨h0, rfl⟩ | ⟨h0, rfl⟩, ⟨hk, rfl, rfl⟩ | ⟨hk, rfl, rfl⟩⟩
  · subst hk
    subst h0
    have q0 : P.toList.isEmpty = true := by rw [hPl]; rfl
    have e0 : X0 = ⟨#[46]⟩ := hX0
    have e1 : X1 = Dd := by rw [hX1, hDd]
    have e2 : X2 = ⟨#[]⟩ := hX2
    by_cases hl : 100 < lk.length
    · have e3 : X3 = R2 := by rw [hX3, hR2, if_neg (by simp), if_pos hl]; rfl
      have d2 : decide ((100 : Int) < (Dd.size : Int)) = true := decide_eq_true (by omega)
      subst e0 e1 e2 e3
      clear hX0 hX1 hX2 hX3 hP hDd hPl hR1 hR2 hR12 hPs hDs
      go_enter Tryz.func36, Tryz.ntmps36
      go_wp2_with fail
      go_quiet (fail)
      go_wp2_with (first | rw [HAPP.out] | rw [HAPP0.out] | (go_at_call 57; first | ((with_reducible refine (HP1.out _).mono ?_); rintro e w' ⟨rfl, rfl⟩) | ((with_reducible refine (HP2.out _).mono ?_); rintro e w' ⟨rfl, rfl⟩)))
      refine bodyPost_ret (results_t4 rfl _ _ _) rfl ?_
      exact ⟨rfl, ((Below.refl _ _).alloc (Nat.le_refl _) _).trans (below_drewN' _ _ _)⟩
    · have e3 : X3 = ⟨#[]⟩ := by rw [hX3, if_neg (by simp), if_neg hl]; rfl
      have d2 : decide ((100 : Int) < (Dd.size : Int)) = false := decide_eq_false (by omega)
      subst e0 e1 e2 e3
      clear hX0 hX1 hX2 hX3 hP hDd hPl hR1 hR2 hR12 hPs hDs
      go_enter Tryz.func36, Tryz.ntmps36
      go_wp2_with fail
      go_quiet (fail)
      go_wp2_with (first | rw [HAPP.out] | rw [HAPP0.out] | (go_at_call 57; first | ((with_reducible refine (HP1.out _).mono ?_); rintro e w' ⟨rfl, rfl⟩) | ((with_reducible refine (HP2.out _).mono ?_); rintro e w' ⟨rfl, rfl⟩)))
      refine bodyPost_ret (results_t4 rfl _ _ _) rfl ?_
      exact ⟨rfl, ((Below.refl _ _).alloc (Nat.le_refl _) _).trans (below_drewN' _ _ _)⟩
  · have k4 : (k == 4) = false := beq_eq_false_iff_ne.2 hk
    subst h0
    have q0 : P.toList.isEmpty = true := by rw [hPl]; rfl
    have e0 : X0 = ⟨#[46]⟩ := hX0
    have e1 : X1 = ⟨#[]⟩ := hX1
    have e2 : X2 = Dd := by rw [hX2, hDd]
    clear hk
    have e3 : X3 = ⟨#[]⟩ := by rw [hX3, if_neg (by simp), if_neg (by simp)]; rfl
    subst e0 e1 e2 e3
    clear hX0 hX1 hX2 hX3 hP hDd hPl hR1 hR2 hR12 hPs hDs
    go_enter Tryz.func36, Tryz.ntmps36
    go_wp2_with fail
    go_quiet (fail)
    go_wp2_with (first | rw [HAPP.out] | rw [HAPP0.out] | (go_at_call 57; first | ((with_reducible refine (HP1.out _).mono ?_); rintro e w' ⟨rfl, rfl⟩) | ((with_reducible refine (HP2.out _).mono ?_); rintro e w' ⟨rfl, rfl⟩)))
    refine bodyPost_ret (results_t4 rfl _ _ _) rfl ?_
    exact ⟨rfl, ((Below.refl _ _).alloc (Nat.le_refl _) _).trans (below_drewN' _ _ _)⟩
  · subst hk
    have q0 : P.toList.isEmpty = false := by rw [hPl]; simpa using h0
    have e0 : X0 = P := by rw [hX0, hP]
    clear h0
    have e1 : X1 = Dd := by rw [hX1, hDd]
    have e2 : X2 = ⟨#[]⟩ := hX2
    by_cases hn : 100 < nm.length
    · by_cases hl : 100 < lk.length
      · have e3 : X3 = R12 := by rw [hX3, hR12, if_pos hn, if_pos hl]
        have d1 : decide ((100 : Int) < (P.size : Int)) = true := decide_eq_true (by omega)
        have d2 : decide ((100 : Int) < (Dd.size : Int)) = true := decide_eq_true (by omega)
        subst e0 e1 e2 e3
        clear hX0 hX1 hX2 hX3 hP hDd hPl hR1 hR2 hR12 hPs hDs
        go_enter Tryz.func36, Tryz.ntmps36
        go_wp2_with fail
        go_quiet (fail)
        go_wp2_with (first | rw [HAPP.out] | rw [HAPP0.out] | (go_at_call 57; first | ((with_reducible refine (HP1.out _).mono ?_); rintro e w' ⟨rfl, rfl⟩) | ((with_reducible refine (HP2.out _).mono ?_); rintro e w' ⟨rfl, rfl⟩)))
        refine bodyPost_ret (results_t4 rfl _ _ _) rfl ?_
        exact ⟨rfl, ((Below.refl _ _).alloc (Nat.le_refl _) _).trans (below_drewN' _ _ _)⟩
      · have e3 : X3 = R1 := by rw [hX3, hR1, if_pos hn, if_neg hl, List.append_nil]
        have d1 : decide ((100 : Int) < (P.size : Int)) = true := decide_eq_true (by omega)
        have d2 : decide ((100 : Int) < (Dd.size : Int)) = false := decide_eq_false (by omega)
        subst e0 e1 e2 e3
        clear hX0 hX1 hX2 hX3 hP hDd hPl hR1 hR2 hR12 hPs hDs
        go_enter Tryz.func36, Tryz.ntmps36
        go_wp2_with fail
        go_quiet (fail)
        go_wp2_with (first | rw [HAPP.out] | rw [HAPP0.out] | (go_at_call 57; first | ((with_reducible refine (HP1.out _).mono ?_); rintro e w' ⟨rfl, rfl⟩) | ((with_reducible refine (HP2.out _).mono ?_); rintro e w' ⟨rfl, rfl⟩)))
        refine bodyPost_ret (results_t4 rfl _ _ _) rfl ?_
        exact ⟨rfl, ((Below.refl _ _).alloc (Nat.le_refl _) _).trans (below_drewN' _ _ _)⟩
    · by_cases hl : 100 < lk.length
      · have e3 : X3 = R2 := by rw [hX3, hR2, if_neg hn, if_pos hl]; rfl
        have d1 : decide ((100 : Int) < (P.size : Int)) = false := decide_eq_false (by omega)
        have d2 : decide ((100 : Int) < (Dd.size : Int)) = true := decide_eq_true (by omega)
        subst e0 e1 e2 e3
        clear hX0 hX1 hX2 hX3 hP hDd hPl hR1 hR2 hR12 hPs hDs
        go_enter Tryz.func36, Tryz.ntmps36
        go_wp2_with fail
        go_quiet (fail)
        go_wp2_with (first | rw [HAPP.out] | rw [HAPP0.out] | (go_at_call 57; first | ((with_reducible refine (HP1.out _).mono ?_); rintro e w' ⟨rfl, rfl⟩) | ((with_reducible refine (HP2.out _).mono ?_); rintro e w' ⟨rfl, rfl⟩)))
        refine bodyPost_ret (results_t4 rfl _ _ _) rfl ?_
        exact ⟨rfl, ((Below.refl _ _).alloc (Nat.le_refl _) _).trans (below_drewN' _ _ _)⟩
      · have e3 : X3 = ⟨#[]⟩ := by rw [hX3, if_neg hn, if_neg hl]; rfl
        have d1 : decide ((100 : Int) < (P.size : Int)) = false := decide_eq_false (by omega)
        have d2 : decide ((100 : Int) < (Dd.size : Int)) = false := decide_eq_false (by omega)
        subst e0 e1 e2 e3
        clear hX0 hX1 hX2 hX3 hP hDd hPl hR1 hR2 hR12 hPs hDs
        go_enter Tryz.func36, Tryz.ntmps36
        go_wp2_with fail
        go_quiet (fail)
        go_wp2_with (first | rw [HAPP.out] | rw [HAPP0.out] | (go_at_call 57; first | ((with_reducible refine (HP1.out _).mono ?_); rintro e w' ⟨rfl, rfl⟩) | ((with_reducible refine (HP2.out _).mono ?_); rintro e w' ⟨rfl, rfl⟩)))
        refine bodyPost_ret (results_t4 rfl _ _ _) rfl ?_
        exact ⟨rfl, ((Below.refl _ _).alloc (Nat.le_refl _) _).trans (below_drewN' _ _ _)⟩
  · have k4 : (k == 4) = false := beq_eq_false_iff_ne.2 hk
    have q0 : P.toList.isEmpty = false := by rw [hPl]; simpa using h0
    have e0 : X0 = P := by rw [hX0, hP]
    clear h0
    have e1 : X1 = ⟨#[]⟩ := hX1
    have e2 : X2 = Dd := by rw [hX2, hDd]
    clear hk
    by_cases hn : 100 < nm.length
    · have e3 : X3 = R1 := by rw [hX3, hR1, if_pos hn, if_neg (by simp), List.append_nil]
      have d1 : decide ((100 : Int) < (P.size : Int)) = true := decide_eq_true (by omega)
      subst e0 e1 e2 e3
      clear hX0 hX1 hX2 hX3 hP hDd hPl hR1 hR2 hR12 hPs hDs
      go_enter Tryz.func36, Tryz.ntmps36
      go_wp2_with fail
      go_quiet (fail)
      go_wp2_with (first | rw [HAPP.out] | rw [HAPP0.out] | (go_at_call 57; first | ((with_reducible refine (HP1.out _).mono ?_); rintro e w' ⟨rfl, rfl⟩) | ((with_reducible refine (HP2.out _).mono ?_); rintro e w' ⟨rfl, rfl⟩)))
      refine bodyPost_ret (results_t4 rfl _ _ _) rfl ?_
      exact ⟨rfl, ((Below.refl _ _).alloc (Nat.le_refl _) _).trans (below_drewN' _ _ _)⟩
    · have e3 : X3 = ⟨#[]⟩ := by rw [hX3, if_neg hn, if_neg (by simp)]; rfl
      have d1 : decide ((100 : Int) < (P.size : Int)) = false := decide_eq_false (by omega)
      subst e0 e1 e2 e3
      clear hX0 hX1 hX2 hX3 hP hDd hPl hR1 hR2 hR12 hPs hDs
      go_enter Tryz.func36, Tryz.ntmps36
      go_wp2_with fail
      go_quiet (fail)
      go_wp2_with (first | rw [HAPP.out] | rw [HAPP0.out] | (go_at_call 57; first | ((with_reducible refine (HP1.out _).mono ?_); rintro e w' ⟨rfl, rfl⟩) | ((with_reducible refine (HP2.out _).mono ?_); rintro e w' ⟨rfl, rfl⟩)))
      refine bodyPost_ret (results_t4 rfl _ _ _) rfl ?_
      exact ⟨rfl, ((Below.refl _ _).alloc (Nat.le_refl _) _).trans (below_drewN' _ _ _)⟩
end Go.Proofs.YtbkjjapeojclpaaGreatDoor
