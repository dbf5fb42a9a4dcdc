/- head.Read. -/
import Derived.Test.YtbkjjapeojclpaaGreatDoorLay
namespace Go.Proofs.YtbkjjapeojclpaaGreatDoor
set_option linter.unusedVariables false
set_option linter.unusedSimpArgs false
open Go.RowKit Go.Proofs.YtbkjjapeojclpaaGreatDoorW.PrintWords
set_option maxHeartbeats 400000
set_option maxRecDepth 100000

theorem field_any (A : Option Addr) (n c : Nat) (b : Bs) (w : World) (hG : Glob w) (hC : kByte.C w A n b) (hn : n < 4294967281) :
    Calls Tryz.prog 69 #[.slice A n c] w fun e w' => e = .returned (.string ⟨(cut1 0 b).toArray⟩) ∧ Below w.heap.size w w' := by
  have hl := C_len hC
  have HCV := Lib.hid (bytes_string (c := c) hC)
  have hcut := Cut_any ⟨b.toArray⟩ 0 w hG (by rw [size_len]; show b.length < _; omega)
  have HCUT := Lib.hid hcut
  clear hcut hl hC
  go_enter Tryz.func69, Tryz.ntmps69
  go_wp2_with (first | rw [HCV.out] | (go_at_call 73; refine HCUT.out.mono ?_; rintro e w' ⟨rfl, hb⟩))
  go_ret
  exact ⟨rfl, hb⟩

def kindOf (c : UInt8) (m : Bs) : Int := if c = 53 then 1 else if c = 50 then 4 else if c = 120 then 5 else if m = [48, 48, 48, 48, 55, 53, 53] then 3 else 2
theorem u8i (c d : UInt8) : ((c.toNat : Int) == (d.toNat : Int)) = decide (c = d) := by
  rw [Bool.eq_iff_iff, beq_iff_eq, decide_eq_true_eq, ← UInt8.toNat_inj]; omega
theorem kind_any (c : UInt8) (m : ByteArray) (w : World) :
    Calls Tryz.prog 70 #[.int .u8 c.toNat, .string m] w fun e w' => e = .returned (.int .i64 (kindOf c m.data.toList)) ∧ w = w' := by
  go_enter Tryz.func70, Tryz.ntmps70
  go_wp2_with fail
  all_goals go_ret
  all_goals refine ⟨congrArg (fun b => Ending.returned (Value.int .i64 b)) (?_ : _ = kindOf c m.data.toList), rfl⟩
  all_goals (try simp only [Lib.toList_data] at *)
  all_goals have e1 := u8i c 53
  all_goals have e2 := u8i c 50
  all_goals have e3 := u8i c 120
  all_goals simp only [show ((53 : UInt8).toNat : Int) = 53 from rfl, show ((50 : UInt8).toNat : Int) = 50 from rfl, show ((120 : UInt8).toNat : Int) = 120 from rfl] at e1 e2 e3
  all_goals simp only [e1, e2, e3, decide_eq_true_eq, decide_eq_false_iff_not, beq_iff_eq, beq_eq_false_iff_ne] at *
  all_goals clear e1 e2 e3
  all_goals simp_all [kindOf]

def octDigits (s : Bs) : Bool := s.all (fun c => decide (48 ≤ c) && decide (c ≤ 55))
def octVal (s : Bs) : Nat := s.foldl (fun n c => 8 * n + (c.toNat - 48)) 0
def ofOctB (s : Bs) : Bool := decide (1 ≤ s.length) && decide (s.length ≤ 11) && octDigits s
def ofOctN (s : Bs) : Nat := if ofOctB s then octVal s else 0
theorem octVal_app (l : Bs) (c : UInt8) : octVal (l ++ [c]) = 8 * octVal l + (c.toNat - 48) := by simp [octVal]
theorem octVal_lt (l : Bs) (h : octDigits l = true) : octVal l < 8 ^ l.length := by
  rw [← List.reverse_reverse l] at h ⊢
  generalize l.reverse = l at *
  induction l with
  | nil => simp [octVal]
  | cons b l ih =>
    rw [List.reverse_cons] at h ⊢
    unfold octDigits at h ih
    rw [List.all_append, Bool.and_eq_true] at h
    have h1 := ih h.1
    have h2 := h.2
    simp only [List.all_cons, List.all_nil, Bool.and_true, Bool.and_eq_true, decide_eq_true_eq] at h2
    have h3 : b.toNat ≤ 55 := h2.2
    rw [octVal_app, List.length_append, List.length_singleton, Nat.pow_succ]
    omega
theorem octVal_succ (l : Bs) (k : Nat) (h : k < l.length) : octVal (l.take (k + 1)) = 8 * octVal (l.take k) + ((l.getD k 0).toNat - 48) := by
  rw [List.take_succ_eq_append_getElem h, octVal_app, List.getD_eq_getElem?_getD, List.getElem?_eq_getElem h]; rfl
theorem octDigits_succ (l : Bs) (k : Nat) (h : k < l.length) : octDigits (l.take (k + 1)) = (octDigits (l.take k) && (decide (48 ≤ (l.getD k 0).toNat) && decide ((l.getD k 0).toNat ≤ 55))) := by
  unfold octDigits
  rw [List.take_succ_eq_append_getElem h, List.all_append, List.getD_eq_getElem?_getD, List.getElem?_eq_getElem h]
  simp only [List.all_cons, List.all_nil, Bool.and_true, Option.getD_some]
  rfl
theorem octDigits_take (l : Bs) (k : Nat) (h : octDigits l = true) : octDigits (l.take k) = true := by
  unfold octDigits at *
  rw [List.all_eq_true] at *
  exact fun x hx => h x (List.mem_of_mem_take hx)
theorem bat (s : ByteArray) (k : Nat) (h : k < s.size) : s[k] = s.data.toList.getD k 0 := by
  have h' : k < s.data.toList.length := by rw [← size_len]; exact h
  rw [List.getD_eq_getElem?_getD, List.getElem?_eq_getElem h', Option.getD_some, Array.getElem_toList]
  rfl
theorem OfOctal_any (s : ByteArray) (w : World) :
    Calls Tryz.prog 71 #[.string s] w fun e w' => e = .returned (.tuple #[.int .i64 (ofOctN s.data.toList), .bool (ofOctB s.data.toList)]) ∧ w = w' := by
  have hsl := size_len s
  by_cases h1 : 1 ≤ s.size
  · have d1 : decide ((s.size : Int) < 1) = false := decide_eq_false (by omega)
    by_cases h11 : s.size ≤ 11
    · have d11 : decide ((11 : Int) < (s.size : Int)) = false := decide_eq_false (by omega)
      obtain ⟨l, hl⟩ : ∃ l, l = s.data.toList := ⟨_, rfl⟩
      rw [← hl] at hsl ⊢
      have HSL := Lib.hid hsl
      have HL := Lib.hid hl
      clear hsl hl
      go_enter Tryz.func71, Tryz.ntmps71
      go_wp2_with fail
      go_loopw [4, 16] (fun v i wr => ∃ (k : Nat) (n : Nat), k ≤ s.size ∧ n < 8 ^ 11 ∧ i = .int .i64 k ∧ v = .int .i64 n ∧ Hid (n = octVal (l.take k)) ∧ Hid (octDigits (l.take k) = true) ∧ Hid (wr = w)) (fun _ i _ => s.size - (intOf i).toNat)
      case atStart => exact ⟨0, 0, by omega, by omega, rfl, rfl, Lib.hid rfl, Lib.hid rfl, Lib.hid rfl⟩
      case round =>
        obtain ⟨k, n, hk, hn, rfl, rfl, HN, HD, HW⟩ := hrel
        obtain rfl := HW.out
        clear HW
        by_cases hlt : k < s.size
        · have hx : s[k]'hlt = l.getD k 0 := by rw [HL.out]; exact bat s k hlt
          have hv := octVal_succ l k (by rw [← HSL.out]; exact hlt)
          have hdg := octDigits_succ l k (by rw [← HSL.out]; exact hlt)
          rw [HD.out, Bool.true_and, ← hx] at hdg
          rw [← HN.out, ← hx] at hv
          have HX := Lib.hid hx
          have HV := Lib.hid hv
          have HDG := Lib.hid hdg
          clear hx hv hdg
          by_cases hd1 : 48 ≤ ((s[k]'hlt).toNat : Int)
          · have b1 : decide (((s[k]'hlt).toNat : Int) < 48) = false := decide_eq_false (by omega)
            by_cases hd2 : ((s[k]'hlt).toNat : Int) ≤ 55
            · have b2 : decide (55 < ((s[k]'hlt).toNat : Int)) = false := decide_eq_false (by omega)
              have HD2 : Hid (octDigits (l.take (k + 1)) = true) := Lib.hid (by rw [HDG.out, decide_eq_true (by omega), decide_eq_true (by omega)]; rfl)
              have hb2 := octVal_lt _ HD2.out
              have hb3 : (8 : Nat) ^ (l.take (k + 1)).length ≤ 8 ^ 11 := Nat.pow_le_pow_right (by omega) (by have h := HSL.out; rw [List.length_take]; omega)
              rw [HV.out] at hb2
              have hb4 : 8 * n + ((s[k]'hlt).toNat - 48) < 8 ^ 11 := by omega
              clear hb2 hb3
              go_wp2_with fail
              go_roundw
              case rel =>
                refine ⟨k + 1, 8 * n + ((s[k]'hlt).toNat - 48), by omega, hb4, by go_num, by go_num, Lib.hid HV.out.symm, HD2, trivial⟩
              case measure => simp [intOf]; omega
            · have b2 : decide (55 < ((s[k]'hlt).toNat : Int)) = true := decide_eq_true (by omega)
              have HD2 : Hid (octDigits (l.take (k + 1)) = false) := Lib.hid (by rw [HDG.out, decide_eq_true (by omega), decide_eq_false (by omega)]; rfl)
              go_wp2_with fail
              go_ret2
              have hf : ofOctB l = false := by
                cases h : octDigits l with
                | false => simp [ofOctB, h]
                | true => have h2 := octDigits_take l (k + 1) h; rw [HD2.out] at h2; cases h2
              exact ⟨by unfold ofOctN; rw [hf]; rfl, rfl⟩
          · have b1 : decide (((s[k]'hlt).toNat : Int) < 48) = true := decide_eq_true (by omega)
            have HD2 : Hid (octDigits (l.take (k + 1)) = false) := Lib.hid (by rw [HDG.out, decide_eq_false (by omega)]; rfl)
            go_wp2_with fail
            go_ret2
            have hf : ofOctB l = false := by
              cases h : octDigits l with
              | false => simp [ofOctB, h]
              | true => have h2 := octDigits_take l (k + 1) h; rw [HD2.out] at h2; cases h2
            exact ⟨by unfold ofOctN; rw [hf]; rfl, rfl⟩
        · obtain rfl : k = s.size := by omega
          go_wp2_with fail
          go_ret2
          have htk : l.take s.size = l := List.take_of_length_le (Nat.le_of_eq HSL.out.symm)
          have hT : ofOctB l = true := by
            have h := HD.out
            rw [htk] at h
            have h' := HSL.out
            simp only [ofOctB, h, Bool.and_true, Bool.and_eq_true, decide_eq_true_eq]
            omega
          have hV := HN.out
          rw [htk] at hV
          exact ⟨by unfold ofOctN; rw [hT, ← hV]; rfl, rfl⟩
    · have d11 : decide ((11 : Int) < (s.size : Int)) = true := decide_eq_true (by omega)
      have HSL := Lib.hid hsl
      clear hsl
      go_enter Tryz.func71, Tryz.ntmps71
      go_wp2_with fail
      go_ret2
      have hf : ofOctB s.data.toList = false := by unfold ofOctB; rw [← HSL.out, decide_eq_false h11, Bool.and_false, Bool.false_and]
      exact ⟨by unfold ofOctN; rw [hf]; rfl, rfl⟩
  · have d1 : decide ((s.size : Int) < 1) = true := decide_eq_true (by omega)
    have HSL := Lib.hid hsl
    clear hsl
    go_enter Tryz.func71, Tryz.ntmps71
    go_wp2_with fail
    go_ret2
    have hf : ofOctB s.data.toList = false := by unfold ofOctB; rw [← HSL.out, decide_eq_false h1, Bool.false_and, Bool.false_and]
    exact ⟨by unfold ofOctN; rw [hf]; rfl, rfl⟩
theorem ofOctN_lt (s : Bs) : ofOctN s < 8 ^ 11 := by
  unfold ofOctN
  split
  · rename_i h
    unfold ofOctB at h
    simp only [Bool.and_eq_true, decide_eq_true_eq] at h
    have h1 := octVal_lt s h.2
    have h2 : (8 : Nat) ^ s.length ≤ 8 ^ 11 := Nat.pow_le_pow_right (by omega) h.1.2
    omega
  · omega

theorem results_tmp5 {fn : Func} {t u v x y : Tmp} (h : fn.results = #[.tmp t, .tmp u, .tmp v, .tmp x, .tmp y]) (tmps : Array Value) (P : Program) (w : World) :
    (results fn tmps).run P w = .ok (.tuple #[tmps.getD t undef, tmps.getD u undef, tmps.getD v undef, tmps.getD x undef, tmps.getD y undef]) w := by
  simp [results, h]
theorem C_cut_to {w : World} {A : Option Addr} {n hi : Nat} {xs : Bs} (h : kByte.C w A n xs) (h2 : hi ≤ n) : kByte.C w A hi (xs.take hi) := by
  have hl := C_len h
  subst hl
  have := Kd.C_take h h2
  rwa [show (xs.take hi).length = hi from by rw [List.length_take]; omega] at this
theorem C_cut_in {w : World} {ad : Addr} {n lo hi : Nat} {xs : Bs} (h : kByte.C w (some ad) n xs) (h0 : 0 < lo) (h1 : lo ≤ hi) (h2 : hi ≤ n) : kByte.C w (some (ad.add lo)) (hi - lo) ((xs.take hi).drop lo) := by
  have := C_cut (c := n + lo) h h1 h2 (by omega)
  by_cases hn : n + lo = lo
  · have : n = 0 := by omega
    omega
  · rwa [if_neg hn] at this
/-- What a header tells. -/
structure Hd where
  name : Bs
  kind : Int
  n : Nat
  link : Bs
  ok : Bool
def rdName (b : Bs) : Bs := cut1 0 (b.take 100)
def rdLink (b : Bs) : Bs := cut1 0 ((b.take 257).drop 157)
def rdKind (b : Bs) : Int := kindOf (b.getD 156 0) (cut1 0 ((b.take 108).drop 100))
def rdN (b : Bs) : Nat := ofOctN (cut1 0 ((b.take 136).drop 124))
def rdOk (b : Bs) : Bool := decide (b.length = 512) && headB (rdName b) (rdKind b) (rdN b) (rdLink b) && (headR (rdName b) (rdKind b) (rdN b) (rdLink b) == b)
def headRd (b : Bs) : Hd := if rdOk b then ⟨rdName b, rdKind b, rdN b, rdLink b, true⟩ else ⟨[], 0, 0, [], false⟩
def Hd.val (h : Hd) : Value := .tuple #[.string ⟨h.name.toArray⟩, .int .i64 h.kind, .int .i64 h.n, .string ⟨h.link.toArray⟩, .bool h.ok]
theorem Read_h_any (A : Option Addr) (n c : Nat) (b : Bs) (w : World) (hG : Glob w) (hC : kByte.C w A n b) (hc : n ≤ c) :
    Calls Tryz.prog 49 #[.slice A n c] w fun e w' => e = .returned (headRd b).val ∧ Below w.heap.size w w' := by
  have hl := C_len hC
  by_cases h512 : n = 512
  · subst h512
    obtain ⟨ad, rfl, hc156⟩ := at_byte hC 156 (by omega)
    rw [show ad.add 156 = ⟨ad.block, ad.off + 156, none⟩ from by unfold Addr.add; rw [if_neg (by omega)]] at hc156
    have hcI : (512 : Int) ≤ (c : Int) := by omega
    have nc : ∀ k : Nat, k < 512 → ¬ c = k := fun k hk => by omega
    have K1 := Lib.hid (C_cut_to hC (hi := 100) (by omega))
    have K2 := Lib.hid (C_cut_in hC (lo := 157) (hi := 257) (by omega) (by omega) (by omega))
    have K3 := Lib.hid (C_cut_in hC (lo := 100) (hi := 108) (by omega) (by omega) (by omega))
    have K4 := Lib.hid (C_cut_in hC (lo := 124) (hi := 136) (by omega) (by omega) (by omega))
    obtain ⟨nm, hnm⟩ : ∃ nm, nm = rdName b := ⟨_, rfl⟩
    obtain ⟨lk, hlk⟩ : ∃ lk, lk = rdLink b := ⟨_, rfl⟩
    obtain ⟨sg, hsg⟩ : ∃ sg, sg = b.getD 156 0 := ⟨_, rfl⟩
    obtain ⟨md, hmd⟩ : ∃ md, md = cut1 0 ((b.take 108).drop 100) := ⟨_, rfl⟩
    obtain ⟨sn, hsn⟩ : ∃ sn, sn = cut1 0 ((b.take 136).drop 124) := ⟨_, rfl⟩
    have ha : ∀ k, 0 < k → ad.add k = ⟨ad.block, ad.off + k, none⟩ := fun k hk => by unfold Addr.add; rw [if_neg (by omega)]
    have HF1 : Hid (∀ W, Glob W → Below w.heap.size w W → Calls Tryz.prog 69 #[.slice (some ad) 100 c] W fun e w' => e = .returned (.string ⟨nm.toArray⟩) ∧ Below W.heap.size W w') :=
      Lib.hid fun W hG hb => by rw [hnm]; exact field_any _ _ _ _ _ hG (Kd.C_below K1.out hb) (by omega)
    have HF2 : Hid (∀ W, Glob W → Below w.heap.size w W → Calls Tryz.prog 69 #[.slice (some ⟨ad.block, ad.off + 157, none⟩) 100 (c - 157)] W fun e w' => e = .returned (.string ⟨lk.toArray⟩) ∧ Below W.heap.size W w') :=
      Lib.hid fun W hG hb => by rw [hlk, ← ha 157 (by omega)]; exact field_any _ _ _ _ _ hG (Kd.C_below K2.out hb) (by omega)
    have HF3 : Hid (∀ W, Glob W → Below w.heap.size w W → Calls Tryz.prog 69 #[.slice (some ⟨ad.block, ad.off + 100, none⟩) 8 (c - 100)] W fun e w' => e = .returned (.string ⟨md.toArray⟩) ∧ Below W.heap.size W w') :=
      Lib.hid fun W hG hb => by rw [hmd, ← ha 100 (by omega)]; exact field_any _ _ _ _ _ hG (Kd.C_below K3.out hb) (by omega)
    have HF4 : Hid (∀ W, Glob W → Below w.heap.size w W → Calls Tryz.prog 69 #[.slice (some ⟨ad.block, ad.off + 124, none⟩) 12 (c - 124)] W fun e w' => e = .returned (.string ⟨sn.toArray⟩) ∧ Below W.heap.size W w') :=
      Lib.hid fun W hG hb => by rw [hsn, ← ha 124 (by omega)]; exact field_any _ _ _ _ _ hG (Kd.C_below K4.out hb) (by omega)
    obtain ⟨kd, hkd⟩ : ∃ kd, kd = kindOf sg md := ⟨_, rfl⟩
    obtain ⟨n, hn⟩ : ∃ n, n = ofOctN sn := ⟨_, rfl⟩
    obtain ⟨ob, hob⟩ : ∃ ob, ob = ofOctB sn := ⟨_, rfl⟩
    have HK : Hid (∀ W, Calls Tryz.prog 70 #[.int .u8 sg.toNat, .string ⟨md.toArray⟩] W fun e w' => e = .returned (.int .i64 kd) ∧ W = w') :=
      Lib.hid fun W => by rw [hkd]; exact kind_any sg ⟨md.toArray⟩ W
    have HO : Hid (∀ W, Calls Tryz.prog 71 #[.string ⟨sn.toArray⟩] W fun e w' => e = .returned (.tuple #[.int .i64 n, .bool ob]) ∧ W = w') :=
      Lib.hid fun W => by rw [hn, hob]; exact OfOctal_any ⟨sn.toArray⟩ W
    have hnl : n < 8 ^ 20 := by have := ofOctN_lt sn; rw [hn]; omega
    obtain ⟨hb', hhb'⟩ : ∃ x, x = headB nm kd n lk := ⟨_, rfl⟩
    obtain ⟨hr, hhr⟩ : ∃ x, x = headR nm kd n lk := ⟨_, rfl⟩
    have HLay : Hid (∀ W, Glob W → Calls Tryz.prog 72 #[.string ⟨nm.toArray⟩, .int .i64 kd, .int .i64 n, .string ⟨lk.toArray⟩] W (LayPost W hb' hr)) :=
      Lib.hid fun W hG => by rw [hhb', hhr]; exact Lay_any ⟨nm.toArray⟩ ⟨lk.toArray⟩ kd n W hG hnl
    have HRES : Hid (headRd b = if hb' && (hr == b) then ⟨nm, kd, n, lk, true⟩ else ⟨[], 0, 0, [], false⟩) := Lib.hid (by
      have e1 : rdKind b = kd := by rw [hkd, hsg, hmd]; rfl
      have e2 : rdN b = n := by rw [hn, hsn]; rfl
      unfold headRd rdOk
      rw [e1, e2, ← hnm, ← hlk, ← hhb', ← hhr, decide_eq_true hl, Bool.true_and])
    have HC := Lib.hid hC
    rw [← hsg] at hc156
    have HL := Lib.hid hl
    have c156 := wext_cell hc156
    clear hC hl hc156 nc hnm hlk hsg hmd hsn hkd hn hob hhb' hhr hnl K1 K2 K3 K4 ha
    go_enter Tryz.func49, Tryz.ntmps49
    go_wp2_with fail
    refine wp_region_ext (by kernel_rfl) (by kernel_rfl) ?_
    repeat (go_big_quiet_step ((go_at_call 69; first | with_reducible exact Calls.wext_of (HF1.out _ (hG.wext _) (wext_below _ _)) | exact Calls.wext_of (HF2.out _ (hG.wext _) (wext_below _ _)))))
    refine wpQuiet_nil ?_
    intro _ hw'
    obtain ⟨e1, rfl⟩ := hw'
    go_wp2_with fail
    have c156b := wext_cell (c156 e1)
    have hG1 := hG.wext e1
    refine wp_region_ext (by kernel_rfl) (by kernel_rfl) ?_
    repeat (go_big_quiet_step (first | (go_at_call 69; exact Calls.wext_of (HF3.out _ (hG1.wext _) (below_two (wext_below _ _) (wext_below _ _)))) | (go_at_call 70; exact Calls.wext_of ((HK.out _).mono fun _ _ h => ⟨h.1, Below.of_eq h.2.symm⟩))))
    refine wpQuiet_nil ?_
    intro _ hw'
    obtain ⟨e2, rfl⟩ := hw'
    obtain ⟨W, hW⟩ : ∃ W, W = wext (wext w e1) e2 := ⟨_, rfl⟩
    rw [← hW]
    have hBW := Lib.hid (show Below w.heap.size w W by rw [hW]; exact below_two (wext_below _ _) (wext_below _ _))
    clear hW c156b c156 hG1 HF1 HF2 HF3 HK
    have hGW := Lib.hid (hG.below' hBW.out)
    go_wp2_with (first | (go_at_call 69; refine (HF4.out _ hGW.out hBW.out).mono ?_; rintro e w1 ⟨rfl, hb1⟩) | (go_at_call 71; refine (HO.out _).mono ?_; rintro e w' ⟨rfl, rfl⟩))
    have hB1 := Lib.hid (below_two hBW.out hb1)
    have hG1 := Lib.hid (hG.below' hB1.out)
    cases hb' with
    | false =>
      refine (HLay.out _ hG1.out).mono ?_
      rintro e w2 ⟨rfl, hb2⟩
      go_wp2_with fail
      refine bodyPost_ret (results_tmp5 rfl _ _ _) rfl ?_
      exact ⟨by rw [HRES.out]; rfl, below_two hB1.out hb2⟩
    | true =>
      refine (HLay.out _ hG1.out).mono ?_
      rintro e w2 ⟨B, rfl, hlo, hby, hl5, hb2⟩
      have hB2 := Lib.hid (below_two hB1.out hb2)
      have hcv1 := bytes_string (c := 512) (hby.C (by omega))
      rw [hl5] at hcv1
      have HCV1 := Lib.hid hcv1
      have HCV2 := Lib.hid (bytes_string (c := c) (Kd.C_below HC.out hB2.out))
      clear hcv1 hl5 hby hlo hb2
      cases b1 : (hr == b) with
      | true =>
        rw [b1] at HRES
        go_wp2_with (first | rw [HCV1.out] | rw [HCV2.out])
        refine bodyPost_ret (results_tmp5 rfl _ _ _) rfl ?_
        exact ⟨by rw [HRES.out]; rfl, hB2.out⟩
      | false =>
        rw [b1] at HRES
        go_wp2_with (first | rw [HCV1.out] | rw [HCV2.out])
        refine bodyPost_ret (results_tmp5 rfl _ _ _) rfl ?_
        exact ⟨by rw [HRES.out]; rfl, hB2.out⟩
  · have hb : rdOk b = false := by unfold rdOk; rw [decide_eq_false (by omega), Bool.false_and, Bool.false_and]
    have hn : ((n : Int) == 512) = false := by rw [beq_eq_false_iff_ne]; omega
    clear hC
    have HB := Lib.hid hb
    clear hb
    go_enter Tryz.func49, Tryz.ntmps49
    go_wp2_with fail
    refine bodyPost_ret (results_tmp5 rfl _ _ _) rfl ?_
    exact ⟨by unfold headRd; rw [HB.out]; rfl, Below.refl _ _⟩
end Go.Proofs.YtbkjjapeojclpaaGreatDoor
