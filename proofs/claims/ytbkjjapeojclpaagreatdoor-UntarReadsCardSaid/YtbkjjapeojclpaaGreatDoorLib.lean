/- Contracts of Go's library at this translation, in the words of these proofs. -/
import Derived.Test.YtbkjjapeojclpaaGreatDoorBase
import Derived.Test.YtbkjjapeojclpaaGreatDoorBytes
import Derived.Test.YtbkjjapeojclpaaGreatDoorLibPlain
import Derived.Test.YtbkjjapeojclpaaGreatDoorShelf
import Derived.Lib.AppendIntMem
import Derived.Lib.AtoiErrMem
namespace Go.Proofs.YtbkjjapeojclpaaGreatDoor
set_option linter.unusedVariables false
set_option linter.unusedSimpArgs false
open Go.RowKit Go.Proofs.YtbkjjapeojclpaaGreatDoorW.PrintWords

theorem Split_any (s : ByteArray) (w : World) (hG : Glob w) (hs : s.size < 4294967281) :
    Calls Tryz.prog 99 #[.string s, .string ⟨#[47]⟩] w fun e w' => ∃ ad,
      e = .returned (.slice (some ad) (split47 s.data.toList).length (split47 s.data.toList).length) ∧ kBs.C w' (some ad) (split47 s.data.toList).length (split47 s.data.toList) ∧ Below w.heap.size w w' := by
  obtain ⟨m, hm⟩ := hG.maxLen
  refine (Tryz.strings_Split s ⟨#[47]⟩ m w hs hm (Nat.le_refl 1)).mono ?_
  rintro e w' ⟨rfl, rfl⟩
  refine ⟨⟨w.heap.size, 0, none⟩, by rw [split47_count], ?_, (Below.refl _ _).alloc (Nat.le_refl _) _⟩
  refine C_of ?_ fun k x hx => ?_
  · rw [split47_count]
    have := Lib.countB_le ⟨#[47]⟩ (Nat.le_refl 1) s.size s (Nat.le_refl _)
    omega
  · rw [add_blk, splitB_split47]
    have : (w.alloc (.cells ((List.map Value.string (List.map (fun l => (⟨l.toArray⟩ : ByteArray)) (split47 s.data.toList))).toArray) 9)).cell? ⟨w.heap.size, k, none⟩ = (List.map Value.string (List.map (fun l => (⟨l.toArray⟩ : ByteArray)) (split47 s.data.toList)))[k]? := by
      rw [World.cell?_alloc_new]; simp
    rw [this]
    simp [hx]
theorem HasPrefix_any (s t : ByteArray) (w : World) :
    Calls Tryz.prog 117 #[.string s, .string t] w fun e w' => e = .returned (.bool (t.data.toList.isPrefixOf s.data.toList)) ∧ w = w' :=
  (Tryz.strings_HasPrefix s t w).mono fun _ _ ⟨h, k⟩ => ⟨h, k.symm⟩
theorem IndexByte_any (s : ByteArray) (c : Int) (w : World) :
    Calls Tryz.prog 63 #[.string s, .int .u8 c] w fun e w' => e = .returned (.int .i64 (Lib.indexByte s.data.toList c.toNat.toUInt8)) ∧ w = w' :=
  (Tryz.strings_IndexByte s c w).mono fun _ _ ⟨h, k⟩ => ⟨h, k.symm⟩
theorem LastIndexByte_any (s : ByteArray) (w : World) (hs : s.size < 4611686018427387904) :
    Calls Tryz.prog 83 #[.string s, .int .u8 47] w fun e w' => e = .returned (.int .i64 (lastI s.data.toList)) ∧ w = w' :=
  (Tryz.strings_LastIndexByte s 47 hs w).mono fun _ _ ⟨h, k⟩ => ⟨by rw [h, lastIndexByte_lastI], k.symm⟩
theorem Cut_any (s : ByteArray) (c : UInt8) (w : World) (hG : Glob w) (hs : s.size < 4294967281) :
    Calls Tryz.prog 73 #[.string s, .string ⟨#[c]⟩] w fun e w' => e = .returned (.tuple #[.string ⟨(cut1 c s.data.toList).toArray⟩, .string ⟨(cut2 c s.data.toList).toArray⟩, .bool (s.data.toList.contains c)]) ∧ Below w.heap.size w w' := by
  obtain ⟨m, hm⟩ := hG.maxLen
  refine (Tryz.strings_Cut s ⟨#[c]⟩ m w hs hm).mono ?_
  rintro e w' ⟨rfl, n, rfl⟩
  exact ⟨by rw [show (⟨#[c]⟩ : ByteArray).data.toList = [c] from rfl, cut_one], below_drewN _ _⟩
theorem TrimSuffix_any (s p : ByteArray) (w : World) (hs : s.size ≤ 9223372036854775807) :
    Calls Tryz.prog 75 #[.string s, .string p] w fun e w' => e = .returned (.string ⟨(Lib.trimSuffix s.data.toList p.data.toList).toArray⟩) ∧ w = w' :=
  (Tryz.strings_TrimSuffix s p w hs).mono fun _ _ ⟨h, k⟩ => ⟨h, k.symm⟩
theorem Repeat_any (c : UInt8) (n : Nat) (w : World) (hn : n ≤ 140737488355328) :
    Calls Tryz.prog 104 #[.string ⟨#[c]⟩, .int .i64 n] w fun e w' => e = .returned (.string ⟨(rep c n).toArray⟩) ∧ Below w.heap.size w w' := by
  refine (Tryz.strings_Repeat ⟨#[c]⟩ n w (by omega) (by show 1 * n ≤ _; omega)).mono fun _ _ ⟨h, k⟩ => ⟨?_, k⟩
  rw [h, show (⟨#[c]⟩ : ByteArray).data.toList = [c] from rfl, repeat_one]
theorem Itoa_any (n : Nat) (w : World) (hG : Glob w) (hn : n ≤ 9223372036854775807) :
    Calls Tryz.prog 98 #[.int .i64 n] w fun e w' => e = .returned (.string ⟨(Lib.decDigits n).toArray⟩) ∧ Below w.heap.size w w' := by
  refine (Tryz.strconv_Itoa n (by omega) (by omega) w hG.pow10).mono ?_
  rintro e w' ⟨rfl, k, os, rfl⟩
  refine ⟨?_, ?_⟩
  · unfold Lib.itoa; rw [if_neg (by omega)]; rfl
  · exact Lib.below_grow _ _ (Nat.le_refl _) _ _
/-- strconv.Atoi: the number, or an error. -/
def atoiN (l : Bs) : Int := match Lib.atoiAll l with | .ok v => v | .range => Lib.atoiSat l | _ => 0
def atoiOk (l : Bs) : Bool := match Lib.atoiAll l with | .ok _ => true | _ => false
def ErrIs (b : Bool) (v : Value) : Prop := if b then v = .nilIface else ∃ t p, v = .iface t p
def AtoiPost (w : World) (l : Bs) (e : Ending) (w' : World) : Prop := ∃ v, e = .returned (.tuple #[.int .i64 (atoiN l), v]) ∧ ErrIs (atoiOk l) v ∧ Below w.heap.size w w'
theorem Atoi_any (s : ByteArray) (w : World) (hG : Glob w) (hs : s.size ≤ 281474976710656) :
    Calls Tryz.prog 74 #[.string s] w (AtoiPost w s.data.toList) := by
  rcases h : Lib.atoiAll s.data.toList with v | _ | _
  · refine (Tryz.strconv_Atoi_ok s (by omega) v h w).mono ?_
    rintro e w' ⟨rfl, hw⟩
    refine ⟨.nilIface, by simp only [atoiN, h], by simp [ErrIs, atoiOk, h], ?_⟩
    rcases hw with rfl | ⟨t, rfl⟩
    · exact Below.refl _ _
    · exact Lib.bytesWorld_below _ _ _
  · obtain ⟨tp, p, hv⟩ := hG.esyn
    refine (Tryz.strconv_Atoi_syntax_var s hs h tp p w hv).mono ?_
    rintro e w' ⟨N, rfl, _, _, hb⟩
    have e1 : atoiN s.data.toList = 0 := by unfold atoiN; rw [h]
    exact ⟨_, by rw [e1], by unfold ErrIs atoiOk; rw [h]; exact ⟨_, _, rfl⟩, hb⟩
  · obtain ⟨tp, p, hv⟩ := hG.erng
    refine (Tryz.strconv_Atoi_range_var s hs h tp p w hv).mono ?_
    rintro e w' ⟨N, rfl, _, _, hb⟩
    have e1 : atoiN s.data.toList = Lib.atoiSat s.data.toList := by unfold atoiN; rw [h]
    exact ⟨_, by rw [e1], by unfold ErrIs atoiOk; rw [h]; exact ⟨_, _, rfl⟩, hb⟩
theorem Equal_any (A1 A2 : Option Addr) (n1 n2 c1 c2 : Nat) (xs ys : Bs) (w : World) (h1 : kByte.C w A1 n1 xs) (h2 : kByte.C w A2 n2 ys) :
    Calls Tryz.prog 23 #[.slice A1 n1 c1, .slice A2 n2 c2] w fun e w' => e = .returned (.bool (xs == ys)) ∧ w = w' := by
  refine (Tryz.bytes_Equal_strs _ _ ⟨xs.toArray⟩ ⟨ys.toArray⟩ w (bytes_string h1) (bytes_string h2)).mono fun _ _ ⟨h, k⟩ => ⟨?_, k.symm⟩
  rw [h, Lib.toList_data, Lib.toList_data]
theorem trim_len (p : Option Addr) (n c j : Nat) (h : j ≤ n) : ∃ A c', Lib.leftV p n c j = .slice A (n - j) c' := by
  unfold Lib.leftV
  split
  · rename_i e; exact ⟨none, 0, by rw [e, Nat.sub_self]⟩
  · unfold Lib.fromV; exact ⟨_, _, rfl⟩
def TrimPost (w : World) (m : Nat) (e : Ending) (w' : World) : Prop := ∃ A c, e = .returned (.slice A m c) ∧ Below w.heap.size w w'
theorem Trim_any (b o n c : Nat) (xs : Bs) (w : World) (h : kByte.C w (some ⟨b, o, none⟩) n xs) (hc : n ≤ c) (hb : c ≤ 9223372036854775807) (h0 : 0 < n) :
    Calls Tryz.prog 29 #[.slice (some ⟨b, o, none⟩) n c, .string ⟨#[0]⟩] w (TrimPost w (Lib.trimS xs [0]).length) := by
  have hl := C_len h
  refine (Tryz.bytes_Trim_one (some ⟨b, o, none⟩) n c xs 0 w hl hc hb ?_ h0 (by decide)).mono ?_
  · intro _
    refine ⟨b, o, rfl, fun i hi => ?_⟩
    obtain ⟨ad, e, hc⟩ := at_byte h i hi
    cases e
    rw [show (⟨b, o, none⟩ : Addr).add i = ⟨b, o + i, none⟩ from by unfold Addr.add; split <;> simp_all] at hc
    exact hc
  · rintro e w' ⟨rfl, q, rfl⟩
    have hle : (Lib.trimS xs [0]).length ≤ (Lib.trimRightS xs [0]).length := by unfold Lib.trimS Lib.trimLeftS; exact (List.dropWhile_sublist _).length_le
    obtain ⟨A', c', h'⟩ := trim_len (some ⟨b, o, none⟩) (Lib.trimRightS xs [0]).length c ((Lib.trimRightS xs [0]).length - (Lib.trimS xs [0]).length) (by omega)
    exact ⟨A', c', by rw [h']; congr 2; omega, below_drewN _ _⟩
theorem mk_append (a b : Bs) : (⟨a.toArray⟩ : ByteArray) ++ ⟨b.toArray⟩ = ⟨(a ++ b).toArray⟩ := by
  apply ByteArray.ext; simp
end Go.Proofs.YtbkjjapeojclpaaGreatDoor
