/- head.Lay. -/
import Derived.Test.YtbkjjapeojclpaaGreatDoorHead
import Derived.Lib.BufferWrite
import Derived.Laws.CopyOwn
namespace Go.Proofs.YtbkjjapeojclpaaGreatDoor
set_option linter.unusedVariables false
set_option linter.unusedSimpArgs false
open Go.RowKit Go.Proofs.YtbkjjapeojclpaaGreatDoorW.PrintWords
set_option maxHeartbeats 400000
set_option maxRecDepth 100000

/-- A text written over others. -/
def putAt (l : Bs) (k : Nat) (s : Bs) : Bs := l.take k ++ s ++ l.drop (k + s.length)
theorem putAt_len {l : Bs} {k : Nat} {s : Bs} (h : k + s.length ≤ l.length) : (putAt l k s).length = l.length := by
  unfold putAt; simp; omega
def PutPost (w : World) (B : Nat) (l : Bs) (e : Ending) (w' : World) : Prop :=
  e = .returned (.tuple #[]) ∧ BytesAt w' B l ∧ (∀ i, i ≠ B → w'.heap[i]? = w.heap[i]?) ∧ Below B w w'

theorem put_any (B P : Nat) (l : Bs) (k : Nat) (s : ByteArray) (w : World) (hP : w.cell? ⟨P, 0, none⟩ = some (.slice (some ⟨B, 0, none⟩) 512 512)) (hB : BytesAt w B l) (hl : l.length = 512) (hk : k + s.size ≤ 512) (hk' : k < 512) :
    Calls Tryz.prog 88 #[.int .i64 k, .string s, .pointer (some ⟨P, 0, none⟩)] w (PutPost w B (putAt l k s.data.toList)) := by
  have hsl := run_cut_from (some ⟨B, 0, none⟩) 512 512 k (by omega) (Nat.le_refl _) w
  rw [if_neg (by omega)] at hsl
  have hsl' : (Instr.slice 22 (.slice (some ⟨B, 0, none⟩) 512 512) (some (.int .i64 (k : Int))) none none).run Tryz.prog w = .ok (.slice (some ⟨B, k, none⟩) (512 - k) (512 - k)) w := by
    rw [hsl]; simp only [Option.map_some, add_blk]
  clear hsl
  have hcp := Lib.run_copy_row_string (P := Tryz.prog) w 22 9 3 5 B k (512 - k) (512 - k) s (l.map bval).toArray 5 Tryz.underlying22 (by kernel_rfl) hB (by omega) (by simp; omega)
  have HSL := Lib.hid hsl'
  have HCP := Lib.hid hcp
  clear hsl' hcp
  go_enter Tryz.func88, Tryz.ntmps88
  go_wp2_with (first | rw [HSL.out] | rw [HCP.out])
  go_end0
  have hu : k + s.data.toList.length ≤ l.length := by rw [← size_len]; omega
  refine ⟨rfl, ?_, fun i hi => setRow_other w B i _ hi, ?_⟩
  · have h := setRow_heap w B _ (List.take k (List.map bval l) ++ (Lib.byteCells s.data.toList ++ List.drop (k + s.size) (List.map bval l))).toArray _ _ hB
    unfold BytesAt
    rw [h]
    have e : (putAt l k s.data.toList).map bval = List.take k (List.map bval l) ++ (Lib.byteCells s.data.toList ++ List.drop (k + s.size) (List.map bval l)) := by
      unfold putAt
      rw [List.map_append, List.map_append, List.append_assoc, List.map_take, List.map_drop, size_len]
      rfl
    rw [e]
  · exact below_setRow (Below.refl _ _) (Nat.le_refl _) _
/-- What stands while head.Lay lays. -/
structure Lst (w0 w : World) (B P : Nat) (l : Bs) : Prop where
  bytes : BytesAt w B l
  cell : w.cell? ⟨P, 0, none⟩ = some (.slice (some ⟨B, 0, none⟩) 512 512)
  below : Below w0.heap.size w0 w
  len : l.length = 512
  lo : w0.heap.size ≤ B
  ne : P ≠ B
theorem cell_lt {w : World} {a : Addr} {v : Value} (h : w.cell? a = some v) : a.block < w.heap.size := by
  rcases Nat.lt_or_ge a.block w.heap.size with h' | h'
  · exact h'
  · simp [World.cell?, Array.getElem?_eq_none h'] at h
theorem Lst.belowL {w0 w w' : World} {B P : Nat} {l : Bs} (h : Lst w0 w B P l) (hb : Below w.heap.size w w') : Lst w0 w' B P l :=
  ⟨h.bytes.below hb, by rw [← h.cell]; exact hb.cell (cell_lt h.cell), h.below.trans (hb.mono h.below.size), h.len, h.lo, h.ne⟩
def PutSt (w0 : World) (B P : Nat) (l : Bs) (e : Ending) (w' : World) : Prop := e = .returned (.tuple #[]) ∧ Lst w0 w' B P l
theorem put_st {w0 w : World} {B P : Nat} {l : Bs} (h : Lst w0 w B P l) (k : Nat) (s : ByteArray) (hk : k + s.size ≤ 512) (hk' : k < 512) :
    Calls Tryz.prog 88 #[.int .i64 k, .string s, .pointer (some ⟨P, 0, none⟩)] w (PutSt w0 B P (putAt l k s.data.toList)) :=
  (put_any B P l k s w h.cell h.bytes h.len hk hk').mono fun _ w' ⟨h1, h2, h3, h4⟩ =>
    ⟨h1, h2, by rw [← h.cell]; simp only [World.cell?]; rw [h3 P h.ne], h.below.trans (h4.mono h.lo), by rw [putAt_len (by rw [← size_len, h.len]; exact hk), h.len], h.lo, h.ne⟩
def laid0 (n d : Bs) (k : Int) (l : Bs) : Bs :=
  putAt (putAt (putAt (putAt (putAt (putAt (putAt (putAt (putAt (putAt (rep 0 512) 0 n) 100 (modeOf k)) 108 [48, 48, 48, 48, 48, 48, 48]) 116 [48, 48, 48, 48, 48, 48, 48]) 124 d) 136 [48, 48, 48, 48, 48, 48, 48, 48, 48, 48, 48]) 148 [32, 32, 32, 32, 32, 32, 32, 32]) 156 (signOf k)) 157 l) 257 [117, 115, 116, 97, 114, 0, 48, 48]
def sumOf (l : Bs) : Nat := l.foldl (fun n b => n + b.toNat) 0
def headB (name : Bs) (k n : Int) (link : Bs) : Bool := mayB name k n link && decide (0 ≤ n) && octB n.toNat 11
def headR (name : Bs) (k n : Int) (link : Bs) : Bs :=
  let b := laid0 name (octR n.toNat 11) k link
  putAt b 148 (octR (sumOf b) 6 ++ [0, 32])
theorem mayB_len {s l : Bs} {k n : Int} (h : mayB s k n l = true) : s.length ≤ 100 ∧ l.length ≤ 100 := by
  unfold mayB textB at h
  simp only [Bool.and_eq_true, decide_eq_true_eq] at h
  exact ⟨h.1.1.1.1.1.2.1, h.1.1.1.1.2.1⟩
theorem mode_len (k : Int) : (modeOf k).length = 7 := by unfold modeOf; (repeat' split) <;> rfl
theorem sign_len (k : Int) : (signOf k).length = 1 := by unfold signOf; (repeat' split) <;> rfl
theorem oct_len {n d : Nat} (h : octB n d = true) : (octR n d).length = d := by
  unfold octR
  rw [if_pos h, List.length_append, rep, List.length_replicate]
  unfold octB at h
  have := of_decide_eq_true h
  omega
theorem oct_le (n d : Nat) : (octR n d).length ≤ d := by
  cases h : octB n d with
  | true => exact Nat.le_of_eq (oct_len h)
  | false => unfold octR; rw [h]; exact Nat.zero_le _
theorem sumOf_app (l : Bs) (b : UInt8) : sumOf (l ++ [b]) = sumOf l + b.toNat := by simp [sumOf]
theorem sumOf_le (l : Bs) : sumOf l ≤ 255 * l.length := by
  rw [← List.reverse_reverse l]
  induction l.reverse with
  | nil => simp [sumOf]
  | cons b l ih => rw [List.reverse_cons, sumOf_app]; have := b.toNat_lt; simp at ih ⊢; omega
theorem sumOf_succ (l : Bs) (k : Nat) (h : k < l.length) : sumOf (l.take (k + 1)) = sumOf (l.take k) + (l.getD k 0).toNat := by
  rw [List.take_succ_eq_append_getElem h, sumOf_app, List.getD_eq_getElem?_getD, List.getElem?_eq_getElem h]; rfl
def LayPost (w : World) (b : Bool) (r : Bs) (e : Ending) (w' : World) : Prop :=
  if b then ∃ B, e = .returned (.tuple #[.slice (some ⟨B, 0, none⟩) 512 512, .bool true]) ∧ w.heap.size ≤ B ∧ BytesAt w' B r ∧ r.length = 512 ∧ Below w.heap.size w w'
  else e = .returned (.tuple #[.slice none 0 0, .bool false]) ∧ Below w.heap.size w w'
set_option maxHeartbeats 1000000 in
theorem Lay_any (name link : ByteArray) (k : Int) (n : Nat) (w : World) (hG : Glob w) (hn : n < 8 ^ 20) :
    Calls Tryz.prog 72 #[.string name, .int .i64 k, .int .i64 n, .string link] w (LayPost w (headB name.data.toList k n link.data.toList) (headR name.data.toList k n link.data.toList)) := by
  cases ho : octB n 11 with
  | false =>
    have hO := fun W (h : Glob W) => Octal_any n 11 (by omega) (by omega) hn W h
    rw [ho] at hO
    have HO := Lib.hid hO
    have HH := Lib.hid (show headB name.data.toList k n link.data.toList = false from by simp [headB, ho])
    clear hO ho
    go_enter Tryz.func72, Tryz.ntmps72
    go_wp2_with (go_at_call 86; refine (HO.out _ hG).mono ?_; rintro e w' ⟨rfl, hb⟩)
    go_ret2
    unfold LayPost
    rw [HH.out]
    exact ⟨rfl, hb⟩
  | true =>
    have hO := fun W (h : Glob W) => Octal_any n 11 (by omega) (by omega) hn W h
    rw [ho] at hO
    have HO := Lib.hid hO
    have HHO := Lib.hid ho
    clear hO ho
    cases hm : mayB name.data.toList k n link.data.toList with
    | false =>
      have hM := fun W => may_any name link k n W
      rw [hm] at hM
      have HM := Lib.hid hM
      have HH := Lib.hid (show headB name.data.toList k n link.data.toList = false from by simp [headB, hm])
      clear hM hm
      go_enter Tryz.func72, Tryz.ntmps72
      go_wp2_with (first | (go_at_call 86; refine (HO.out _ hG).mono ?_; rintro e w' ⟨rfl, hb⟩) | (go_at_call 87; refine (HM.out _).mono ?_; rintro e w2 ⟨rfl, rfl⟩))
      go_ret2
      unfold LayPost
      rw [HH.out]
      exact ⟨rfl, hb⟩
    | true =>
      have hM := fun W => may_any name link k n W
      rw [hm] at hM
      have HM := Lib.hid hM
      have HH := Lib.hid (show headB name.data.toList k n link.data.toList = true from by simp [headB, hm, HHO.out])
      have HMM := Lib.hid hm
      clear hM hm
      go_enter Tryz.func72, Tryz.ntmps72
      go_wp2_with (first | (go_at_call 86; refine (HO.out _ hG).mono ?_; rintro e w' ⟨rfl, hb⟩) | (go_at_call 87; refine (HM.out _).mono ?_; rintro e w2 ⟨rfl, rfl⟩))
      have hmk : (Instr.makeSlice 22 (.int .i64 512) (.int .i64 512)).run Tryz.prog w' = _ := make_bytes 512 512 (by omega) (by omega) w'
      rw [hmk]
      clear hmk
      have hnm : name.size ≤ 100 := by rw [size_len]; exact (mayB_len HMM.out).1
      have hlk : link.size ≤ 100 := by rw [size_len]; exact (mayB_len HMM.out).2
      have HL : Hid (Lst w ((w'.alloc (.cells (List.map bval (rep 0 512)).toArray 5)).alloc (.cells #[Value.slice (some ⟨w'.heap.size, 0, none⟩) 512 512] 22)) w'.heap.size (w'.heap.size + 1) (rep 0 512)) := Lib.hid
        ⟨(bytesAt_new _ _).below ((Below.refl _ _).alloc (Nat.le_refl _) _), by rw [show w'.heap.size + 1 = (w'.alloc (.cells (List.map bval (rep 0 512)).toArray 5)).heap.size from by simp, World.cell?_alloc_new]; rfl, (hb.alloc hb.size _).alloc (by have := hb.size; simp; omega) _, by simp [rep], hb.size, by omega⟩
      obtain ⟨W, hW⟩ : ∃ W, W = (w'.alloc (.cells (List.map bval (rep 0 512)).toArray 5)).alloc (.cells #[Value.slice (some ⟨w'.heap.size, 0, none⟩) 512 512] 22) := ⟨_, rfl⟩
      obtain ⟨B, hB⟩ : ∃ B, B = w'.heap.size := ⟨_, rfl⟩
      go_wp2_with fail
      rw [← hW] at HL ⊢
      rw [← hB] at HL ⊢
      clear hW hB
      refine (put_st HL.out 0 name (by omega) (by omega)).mono ?_
      rintro e w1 ⟨rfl, hL1⟩
      have HL1 := Lib.hid hL1
      clear hL1 HL
      go_wp2_with (go_at_call 89; refine (mode_any _ _).mono ?_; rintro e w' ⟨rfl, rfl⟩)
      refine (put_st HL1.out 100 ⟨(modeOf k).toArray⟩ (by rw [size_len]; have := mode_len k; show 100 + (modeOf k).length ≤ _; omega) (by omega)).mono ?_
      rintro e w2 ⟨rfl, hL2⟩
      have HL2 := Lib.hid hL2
      clear hL2 HL1
      go_wp2_with fail
      refine (put_st HL2.out 108 ⟨#[48, 48, 48, 48, 48, 48, 48]⟩ (by decide) (by omega)).mono ?_
      rintro e w3 ⟨rfl, hL3⟩
      have HL3 := Lib.hid hL3
      clear hL3 HL2
      go_wp2_with fail
      refine (put_st HL3.out 116 ⟨#[48, 48, 48, 48, 48, 48, 48]⟩ (by decide) (by omega)).mono ?_
      rintro e w4 ⟨rfl, hL4⟩
      have HL4 := Lib.hid hL4
      clear hL4 HL3
      go_wp2_with fail
      refine (put_st HL4.out 124 ⟨(octR n 11).toArray⟩ (by rw [size_len]; have := oct_len HHO.out; show 124 + (octR n 11).length ≤ _; omega) (by omega)).mono ?_
      rintro e w5 ⟨rfl, hL5⟩
      have HL5 := Lib.hid hL5
      clear hL5 HL4
      go_wp2_with fail
      refine (put_st HL5.out 136 ⟨#[48, 48, 48, 48, 48, 48, 48, 48, 48, 48, 48]⟩ (by decide) (by omega)).mono ?_
      rintro e w6 ⟨rfl, hL6⟩
      have HL6 := Lib.hid hL6
      clear hL6 HL5
      go_wp2_with fail
      refine (put_st HL6.out 148 ⟨#[32, 32, 32, 32, 32, 32, 32, 32]⟩ (by decide) (by omega)).mono ?_
      rintro e w7 ⟨rfl, hL7⟩
      have HL7 := Lib.hid hL7
      clear hL7 HL6
      go_wp2_with (go_at_call 90; refine (sign_any _ _).mono ?_; rintro e w' ⟨rfl, rfl⟩)
      refine (put_st HL7.out 156 ⟨(signOf k).toArray⟩ (by rw [size_len]; have := sign_len k; show 156 + (signOf k).length ≤ _; omega) (by omega)).mono ?_
      rintro e w8 ⟨rfl, hL8⟩
      have HL8 := Lib.hid hL8
      clear hL8 HL7
      go_wp2_with fail
      refine (put_st HL8.out 157 link (by omega) (by omega)).mono ?_
      rintro e w9 ⟨rfl, hL9⟩
      have HL9 := Lib.hid hL9
      clear hL9 HL8
      go_wp2_with fail
      refine (put_st HL9.out 257 ⟨#[117, 115, 116, 97, 114, 0, 48, 48]⟩ (by decide) (by omega)).mono ?_
      rintro e w10 ⟨rfl, hL10⟩
      have HL10 := Lib.hid hL10
      clear hL10 HL9
      obtain ⟨l0, hl0⟩ : ∃ l0, l0 = laid0 name.data.toList (octR n 11) k link.data.toList := ⟨_, rfl⟩
      have HL0 : Hid (Lst w w10 B (B + 1) l0) := by rw [hl0]; exact HL10
      have HR : Hid (headR name.data.toList k n link.data.toList = putAt l0 148 (octR (sumOf l0) 6 ++ [0, 32])) := Lib.hid (by rw [hl0]; rfl)
      clear hl0 HL10
      have hcp := HL0.out.cell
      have hlen := HL0.out.len
      go_wp2_with fail
      go_loopw [14, 65] (fun sm i wr => ∃ (k : Nat) (sk : Nat), k ≤ 512 ∧ sk ≤ 130560 ∧ i = .int .i64 k ∧ sm = .int .i64 sk ∧ Hid (sk = sumOf (l0.take k)) ∧ Hid (wr = w10)) (fun _ i _ => 512 - (intOf i).toNat)
      case atStart => exact ⟨0, 0, by omega, by omega, rfl, rfl, Lib.hid rfl, Lib.hid rfl⟩
      case round =>
        obtain ⟨k, sk, hk, hsb, rfl, rfl, HSK, HW⟩ := hrel
        obtain rfl := HW.out
        clear HW
        by_cases hlt : k < 512
        · have hcell : wr.cell? ⟨B, k, none⟩ = some (.int .u8 (l0.getD k 0).toNat) := by
            obtain ⟨ad, e, h⟩ := at_byte (HL0.out.bytes.C (by omega)) k (by omega)
            cases e
            rwa [add_blk] at h
          have hx : (l0.getD k 0).toNat < 256 := (l0.getD k 0).toNat_lt
          have HS1 : Hid (sk + (l0.getD k 0).toNat = sumOf (l0.take (k + 1))) := Lib.hid (by rw [sumOf_succ l0 k (by omega), HSK.out])
          have hs2 : sk + (l0.getD k 0).toNat ≤ 130560 := by
            rw [HS1.out]
            have h1 := sumOf_le (l0.take (k + 1))
            have h2 : (l0.take (k + 1)).length ≤ 512 := by rw [List.length_take]; omega
            omega
          obtain ⟨x, hxx⟩ : ∃ x, x = (l0.getD k 0).toNat := ⟨_, rfl⟩
          rw [← hxx] at HS1 hs2 hx hcell
          clear hxx hlen
          have dlt : decide ((k : Int) < 512) = true := decide_eq_true (by omega)
          have hlti : (k : Int) < 512 := by omega
          have hk0 : (0 : Int) ≤ (k : Int) := by omega
          have h512 : k + 1 ≤ 512 := by omega
          clear hlt hk
          go_wp2_with fail
          go_roundw
          case rel =>
            exact ⟨k + 1, sk + x, h512, hs2, by go_num, by go_num, HS1, trivial⟩
          case measure => simp [intOf]; omega
        · obtain rfl : k = 512 := by omega
          have htk : l0.take 512 = l0 := List.take_of_length_le (by omega)
          have hsk : sk = sumOf l0 := by rw [HSK.out, htk]
          have HSK2 := Lib.hid hsk
          clear hsk HSK
          have hG0 := Lib.hid (hG.below' HL0.out.below)
          have hO2 : Calls Tryz.prog 86 #[.int .i64 sk, .int .i64 6] wr _ := Octal_any sk 6 (by omega) (by omega) (by omega) wr hG0.out
          have hol : (octR sk 6).length ≤ 6 := oct_le _ _
          rw [← HSK2.out] at HR
          obtain ⟨R, hR⟩ : ∃ R, R = octR sk 6 := ⟨_, rfl⟩
          rw [← hR] at hO2 hol HR
          obtain ⟨ob, hob⟩ : ∃ ob, ob = octB sk 6 := ⟨_, rfl⟩
          rw [← hob] at hO2
          have hsz : (⟨R.toArray⟩ : ByteArray).size ≤ 6 := by rw [size_len]; exact hol
          have HO2 := Lib.hid hO2
          clear hO2 hR hob htk hlen
          go_wp2_with fail
          refine HO2.out.mono ?_
          rintro e w11 ⟨rfl, hb11⟩
          have HL11 : Hid (Lst w w11 B (B + 1) l0) := Lib.hid (HL0.out.belowL hb11)
          have hcp2 := HL11.out.cell
          clear hcp
          go_wp2_with fail
          have hlast := put_st HL11.out 148 ((⟨R.toArray⟩ : ByteArray) ++ ⟨#[0, 32]⟩) (by rw [ByteArray.size_append]; have : (⟨#[0, 32]⟩ : ByteArray).size = 2 := rfl; omega) (by omega)
          refine hlast.mono ?_
          rintro e w12 ⟨rfl, hL12⟩
          rw [show ((⟨R.toArray⟩ : ByteArray) ++ ⟨#[0, 32]⟩).data.toList = R ++ [0, 32] from by rw [show (⟨#[0, 32]⟩ : ByteArray) = ⟨([0, 32] : Bs).toArray⟩ from rfl, mk_append]] at hL12
          have HL12 := Lib.hid hL12
          clear hL12
          have hcp3 := HL12.out.cell
          clear hcp2
          go_wp2_with fail
          go_ret2
          unfold LayPost
          rw [HH.out, HR.out]
          exact ⟨B, rfl, HL12.out.lo, HL12.out.bytes, HL12.out.len, HL12.out.below⟩
end Go.Proofs.YtbkjjapeojclpaaGreatDoor
