/- The kinds of values that these proofs speak of: texts, bytes, nodes, as lists of bytes. -/
import Derived.Test.YtbkjjapeojclpaaGreatDoorBase
import Derived.Test.YtbkjjapeojclpaaGreatDoorPlain
namespace Go.Proofs.YtbkjjapeojclpaaGreatDoor
set_option linter.unusedVariables false
set_option linter.unusedSimpArgs false
open Go.RowKit Go.Proofs.YtbkjjapeojclpaaGreatDoorW.PrintWords

/-- A text. -/
def mkS (l : Bs) : ByteArray := ⟨l.toArray⟩
theorem mkS_data (s : ByteArray) : (⟨s.data.toList.toArray⟩ : ByteArray) = s := by
  cases s; rfl
def kBs : Kd Bs := Kd.scalar (fun l : Bs => Value.string ⟨l.toArray⟩) (fun _ => rfl)
def kByte : Kd UInt8 := Kd.scalar (fun b : UInt8 => Value.int .u8 b.toNat) (fun _ => rfl)
/-- A node. -/
structure Nd where
  path : Bs
  kind : Int
  data : Bs
  deriving DecidableEq
def kNd : Kd Nd := Kd.iso (Kd.pair kBs (Kd.pair (Kd.int .i64) kBs)) (fun x : Nd => (x.path, x.kind, x.data))
def Nd.vals (x : Nd) : List Value := [.string ⟨x.path.toArray⟩, .int .i64 x.kind, .string ⟨x.data.toArray⟩]
def Nd.val (x : Nd) : Value := .agg #[.string ⟨x.path.toArray⟩, .int .i64 x.kind, .string ⟨x.data.toArray⟩]
theorem kNd_open {w : World} {x : Nd} {cs : List Value} (h : kNd.K w x cs) : cs = x.vals := by
  obtain ⟨_, _, rfl, rfl, ⟨_, _, rfl, rfl, rfl⟩⟩ := h
  exact rfl
theorem kNd_mk (w : World) (x : Nd) : kNd.K w x x.vals := ⟨[.string ⟨x.path.toArray⟩], [.int .i64 x.kind, .string ⟨x.data.toArray⟩], rfl, rfl, ⟨[.int .i64 x.kind], [.string ⟨x.data.toArray⟩], rfl, rfl, rfl⟩⟩
theorem kNd_mkM (w : World) (base : Nat) (ok : Nat → Prop) (x : Nd) : kNd.M w base ok x x.vals := ⟨[.string ⟨x.path.toArray⟩], [.int .i64 x.kind, .string ⟨x.data.toArray⟩], rfl, rfl, ⟨[.int .i64 x.kind], [.string ⟨x.data.toArray⟩], rfl, rfl, rfl⟩⟩
instance : Inhabited Nd := ⟨⟨[], 0, []⟩⟩
/-- May a node be? -/
def goodNd (n : Nd) : Bool :=
  pathOk n.path && decide (n.data.length ≤ 400) && ((n.kind == 1 && n.data.isEmpty) || n.kind == 2 || n.kind == 3 || (n.kind == 4 && !n.data.isEmpty && !n.data.contains 0))

theorem at_bs {w : World} {A : Option Addr} {n : Nat} {xs : List Bs} (h : kBs.C w A n xs) (k : Nat) (hk : k < n) : ∃ ad, A = some ad ∧ w.cell? (ad.add k) = some (.string ⟨(xs.getD k []).toArray⟩) := by
  obtain ⟨ad, c, e, _, hK, hc⟩ := Kd.C_get h [] (k : Int) (by omega) (by omega)
  have hc1 := hc 0 (.string ⟨(xs.getD k []).toArray⟩) (by rw [show c = _ from hK]; rfl)
  rw [Int.toNat_natCast] at hc1
  exact ⟨ad, e, by have e2 : k * kBs.sz + 0 = k := Nat.mul_one k; rwa [e2] at hc1⟩
theorem at_byte {w : World} {A : Option Addr} {n : Nat} {xs : List UInt8} (h : kByte.C w A n xs) (k : Nat) (hk : k < n) : ∃ ad, A = some ad ∧ w.cell? (ad.add k) = some (.int .u8 (xs.getD k 0).toNat) := by
  obtain ⟨ad, c, e, _, hK, hc⟩ := Kd.C_get h 0 (k : Int) (by omega) (by omega)
  have hc1 := hc 0 (.int .u8 (xs.getD k 0).toNat) (by rw [show c = _ from hK]; rfl)
  rw [Int.toNat_natCast] at hc1
  exact ⟨ad, e, by have e2 : k * kByte.sz + 0 = k := Nat.mul_one k; rwa [e2] at hc1⟩
theorem at_nd {w : World} {A : Option Addr} {n : Nat} {xs : List Nd} (h : kNd.C w A n xs) (k : Nat) (hk : k < n) : ∃ ad, A = some ad ∧ w.cell? (ad.add (k * 3)) = some (.string ⟨(xs.getD k default).path.toArray⟩) ∧
    w.cell? ⟨(ad.add (k * 3)).block, (ad.add (k * 3)).off + 1, none⟩ = some (.int .i64 (xs.getD k default).kind) ∧ w.cell? ⟨(ad.add (k * 3)).block, (ad.add (k * 3)).off + 2, none⟩ = some (.string ⟨(xs.getD k default).data.toArray⟩) := by
  obtain ⟨ad, c, e, _, hK, hc0⟩ := Kd.C_get h default (k : Int) (by omega) (by omega)
  rw [Int.toNat_natCast] at hK hc0
  have hc : ∀ j u, c[j]? = some u → w.cell? (ad.add (k * 3 + j)) = some u := hc0
  obtain rfl := kNd_open hK
  exact ⟨ad, e, hc 0 _ rfl, by rw [← add_field _ _ 1 (by omega)]; exact hc 1 _ rfl, by rw [← add_field _ _ 2 (by omega)]; exact hc 2 _ rfl⟩

theorem C_of {α : Type} {enc : α → Value} {h1 : ∀ x, (enc x).oneCell' = true} {w : World} {ad : Addr} {xs : List α} (hn : xs.length ≤ 9223372036854775807) (h : ∀ k x, xs[k]? = some x → w.cell? (ad.add k) = some (enc x)) :
    (Kd.scalar enc h1).C w (some ad) xs.length xs := by
  refine ⟨rfl, hn, fun _ => ⟨ad, rfl, fun j p hp => ⟨[enc p], rfl, rfl, fun i u hu => ?_⟩⟩⟩
  have hi : i = 0 := by
    rcases Nat.eq_zero_or_pos i with h | h
    · exact h
    · rw [List.getElem?_eq_none (by simp; omega)] at hu; cases hu
  subst hi
  obtain rfl : enc p = u := by simpa using hu
  rw [show j * (Kd.scalar enc h1).sz + 0 = j from by show j * 1 + 0 = j; omega]
  exact h j p hp
theorem add_blk (g j : Nat) : (⟨g, 0, none⟩ : Addr).add j = ⟨g, j, none⟩ := by unfold Addr.add; split <;> simp_all
theorem C_len {α : Type} {d : Kd α} {w : World} {A : Option Addr} {n : Nat} {xs : List α} (h : d.C w A n xs) : xs.length = n := h.1
theorem C_max {α : Type} {d : Kd α} {w : World} {A : Option Addr} {n : Nat} {xs : List α} (h : d.C w A n xs) : n ≤ 9223372036854775807 := h.2.1
end Go.Proofs.YtbkjjapeojclpaaGreatDoor
