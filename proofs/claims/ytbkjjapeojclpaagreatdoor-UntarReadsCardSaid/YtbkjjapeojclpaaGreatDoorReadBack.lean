/- Plain: a tree's tar is read back; one tar is no beginning of another one. -/
import Derived.Test.YtbkjjapeojclpaaGreatDoorHeadBack
import Derived.Test.YtbkjjapeojclpaaGreatDoorNames
import Derived.Lib.AtoiTie
import Derived.Lib.AtoiAllCases
namespace Go.Proofs.YtbkjjapeojclpaaGreatDoor
set_option linter.unusedVariables false
set_option linter.unusedSimpArgs false
open Go.RowKit Go.Proofs.YtbkjjapeojclpaaGreatDoorW.PrintWords

theorem takeF_back (A Y : Bs) (k : Nat) (h : A.length = k) : takeF ⟨A ++ Y, false⟩ k = (A, ⟨Y, false⟩) := by
  subst h
  unfold takeF
  rw [if_pos (by simp), List.take_left, List.drop_left]
theorem entryF_back {name link data rest : Bs} {k : Int} (h : headB name k data.length link = true) :
    entryF ⟨entryOf name k link data ++ rest, false⟩ = (⟨name, link, data, k⟩, ⟨rest, false⟩) := by
  unfold entryF entryOf
  rw [List.append_assoc, List.append_assoc, takeF_back _ _ 512 (headR_len h)]
  simp only [headRd_back h, Bool.not_true, Bool.or_self]
  rw [takeF_back _ _ data.length rfl]
  simp only
  rw [takeF_back _ _ (padOf data.length) (by simp [rep, padOf])]
/-! ### decimal digits -/
theorem dec_spec (n : Nat) : (∀ c ∈ Lib.decDigits n, 48 ≤ c.toNat ∧ c.toNat ≤ 57) ∧ Lib.decDigits n ≠ [] := by
  induction n using Nat.strongRecOn with
  | _ n ih =>
    by_cases h : n < 10
    · rw [Lib.decDigits, dif_pos h]
      refine ⟨fun c hc => ?_, by simp⟩
      obtain rfl : c = _ := List.mem_singleton.1 hc
      rw [UInt8.toNat_ofNat_of_lt' (by show 48 + n < 256; omega)]; omega
    · rw [Lib.decDigits, dif_neg h]
      refine ⟨fun c hc => ?_, by simp⟩
      rcases List.mem_append.1 hc with hc | hc
      · exact (ih (n / 10) (by omega)).1 c hc
      · obtain rfl : c = _ := List.mem_singleton.1 hc
        rw [UInt8.toNat_ofNat_of_lt' (by show 48 + n % 10 < 256; omega)]; omega
theorem decFrom_app (a : Nat) (l m : Bs) : Lib.decFrom a (l ++ m) = (Lib.decFrom a l).bind fun b => Lib.decFrom b m := by
  induction l generalizing a with
  | nil => rfl
  | cons c l ih =>
    simp only [List.cons_append, Lib.decFrom]
    cases Lib.digitVal c with
    | none => rfl
    | some d => exact ih _
theorem digitVal_of (d : Nat) (h : d < 10) : Lib.digitVal (UInt8.ofNat (48 + d)) = some d := by
  unfold Lib.digitVal
  rw [UInt8.toNat_ofNat_of_lt' (by show 48 + d < 256; omega), if_pos (by omega)]
  congr 1; omega
theorem decFrom_dec (n : Nat) : Lib.decFrom 0 (Lib.decDigits n) = some n := by
  induction n using Nat.strongRecOn with
  | _ n ih =>
    by_cases h : n < 10
    · rw [Lib.decDigits, dif_pos h]
      simp only [Lib.decFrom, digitVal_of n h]
      congr 1; omega
    · rw [Lib.decDigits, dif_neg h, decFrom_app, ih (n / 10) (by omega)]
      simp only [Option.bind_some, Lib.decFrom, digitVal_of (n % 10) (by omega)]
      congr 1; omega
theorem atoi_dec (n : Nat) (h : Lib.nDigits n ≤ 18) : Lib.atoiAll (Lib.decDigits n) = .ok (n : Int) := by
  obtain ⟨h1, h2⟩ := dec_spec n
  rw [Lib.atoiAll_short _ (by rw [Lib.decDigits_length]; exact h)]
  have hd := decFrom_dec n
  cases hl : Lib.decDigits n with
  | nil => exact absurd hl h2
  | cons c r =>
    rw [hl] at h1 hd
    have hc := h1 c (List.mem_cons_self ..)
    have n45 : c ≠ 45 := fun e => by rw [e] at hc; simp at hc
    have n43 : c ≠ 43 := fun e => by rw [e] at hc; simp at hc
    have : Lib.decNat (c :: r) = some n := by unfold Lib.decNat; rw [if_neg (by simp)]; exact hd
    simp [Lib.atoi, n45, n43, this, Lib.NumEnd.ofOption]
theorem cut1_app (c : UInt8) (l m : Bs) (h : l.contains c = false) : cut1 c (l ++ c :: m) = l ∧ cut2 c (l ++ c :: m) = m ∧ (l ++ c :: m).contains c = true := by
  have hl : ∀ x ∈ l, (x != c) = true := fun x hx => by
    simp only [bne_iff_ne, ne_eq]
    intro e
    subst e
    rw [List.contains_iff_mem.2 hx] at h
    cases h
  refine ⟨?_, ?_, ?_⟩
  · unfold cut1
    rw [List.takeWhile_append_of_pos hl]
    simp
  · unfold cut2
    rw [List.dropWhile_append_of_pos hl]
    simp
  · rw [List.contains_iff_mem]; simp
/-! ### records -/
theorem trimSuffix_app (v : Bs) : Lib.trimSuffix (v ++ [10]) [10] = v := by
  have h : Lib.hasSuffix (v ++ [10]) [10] = true := by simp [Lib.hasSuffix]
  unfold Lib.trimSuffix
  rw [if_pos h]
  simp
theorem rcF_back (k v rest : Bs) (hk : k.contains 61 = false) (hl : k.length + v.length ≤ 1900000) : rcF (recOf k v ++ rest) = ⟨k, v, rest, true⟩ := by
  obtain ⟨n, hn⟩ : ∃ n, n = recN (recRest k v).length := ⟨_, rfl⟩
  obtain ⟨D, hD⟩ : ∃ D, D = Lib.decDigits n := ⟨_, rfl⟩
  have hrl := rest_len k v
  have hsp := recN_spec (recRest k v).length
  have hle := recN_le (recRest k v).length (by omega)
  rw [← hn] at hsp hle
  have hDl : D.length = Lib.nDigits n := by rw [hD, Lib.decDigits_length]
  have hds := dec_spec n
  rw [← hD] at hds
  have hsp0 : D.contains 32 = false := by
    cases hc : D.contains 32 with
    | false => rfl
    | true =>
      have := hds.1 32 (List.contains_iff_mem.1 hc)
      simp at this
  have e : recOf k v ++ rest = D ++ 32 :: (k ++ [61] ++ v ++ [10] ++ rest) := by
    unfold recOf; rw [← hn, ← hD]; unfold recRest; simp
  have hc1 : cut1 32 (recOf k v ++ rest) = D := by rw [e]; exact (cut1_app 32 D _ hsp0).1
  have hat := atoi_dec n (by omega)
  rw [← hD] at hat
  have hN : atoiN D = n := by unfold atoiN; rw [hat]
  have hO : atoiOk D = true := by unfold atoiOk; rw [hat]
  have hlen : (recOf k v).length = n := by rw [recOf_len, ← hrl, ← hn]
  have hB : rcB (recOf k v ++ rest) = true := by
    unfold rcB
    rw [hc1, hN, hO, decide_eq_true (by omega), decide_eq_true (by rw [List.length_append]; omega)]
    rfl
  have hseg : rcSeg (recOf k v ++ rest) n = k ++ 61 :: (v ++ [10]) := by
    unfold rcSeg
    rw [hc1, e, show D ++ 32 :: (k ++ [61] ++ v ++ [10] ++ rest) = (D ++ [32]) ++ ((k ++ 61 :: (v ++ [10])) ++ rest) from by simp]
    rw [List.drop_left' (by simp), List.take_left']
    simp
    omega
  unfold rcF
  rw [if_pos hB, hc1, hN, Int.toNat_natCast, hseg]
  obtain ⟨c1, c2, c3⟩ := cut1_app 61 k (v ++ [10]) hk
  rw [c1, c2, c3, trimSuffix_app, List.drop_left' hlen]
theorem recOf_ne (k v : Bs) : recOf k v ≠ [] := by unfold recOf recRest; simp
theorem toldF_rec (s : St) (x : Ent) (k v rest : Bs) (hk : k.contains 61 = false) (hl : k.length + v.length ≤ 1900000) : toldF s x (recOf k v ++ rest) = toldF s (putRec x k v) rest := by
  rw [toldF_ok s x _ (by simp [recOf_ne]) (by rw [rcF_back k v rest hk hl]), rcF_back k v rest hk hl]
/-- What the records tell. -/
theorem toldF_extra (s : St) (x : Ent) (n : Nd) (hp : n.path.length ≤ 200) (hd : n.data.length ≤ 400) :
    toldF s x (extraOf n) = ({ x with name := if 100 < (nameOf n).length then nameOf n else x.name, link := if n.kind = 4 ∧ 100 < n.data.length then n.data else x.link }, s) := by
  have hnl := nameOf_le n 200 hp (by omega)
  unfold extraOf
  have hkp : bsPath.contains 61 = false := by decide
  have hkl : bsLink.contains 61 = false := by decide
  by_cases h1 : 100 < (nameOf n).length
  · rw [if_pos h1, if_pos h1, toldF_rec s x bsPath (nameOf n) _ hkp (by show 4 + _ ≤ _; omega)]
    by_cases h2 : n.kind = 4 ∧ 100 < n.data.length
    · rw [if_pos h2, if_pos h2, ← List.append_nil (recOf bsLink n.data), toldF_rec _ _ bsLink n.data _ hkl (by show 8 + _ ≤ _; omega), toldF_nil]
      rfl
    · rw [if_neg h2, if_neg h2, toldF_nil]; rfl
  · rw [if_neg h1, if_neg h1, List.nil_append]
    by_cases h2 : n.kind = 4 ∧ 100 < n.data.length
    · rw [if_pos h2, if_pos h2, ← List.append_nil (recOf bsLink n.data), toldF_rec _ _ bsLink n.data _ hkl (by show 8 + _ ≤ _; omega), toldF_nil]
      rfl
    · rw [if_neg h2, if_neg h2, toldF_nil]
theorem pathOk_dot {p : Bs} (h : pathOk p = true) : p ≠ [46] := by
  intro e
  subst e
  revert h
  decide
theorem goodNd_kinds {n : Nd} (h : goodNd n = true) : n.kind ≠ 5 := by
  unfold goodNd at h
  intro e
  rw [e] at h
  simp at h
/-- The node's own entry, read. -/
theorem own_back {n : Nd} (rest : Bs) (h : goodNd n = true) :
    entryF ⟨ownOf n ++ rest, false⟩ = (⟨(nameOf n).take 100, if n.kind = 4 then n.data.take 100 else [], if n.kind = 4 then [] else n.data, n.kind⟩, ⟨rest, false⟩) := by
  have hok := NdOk_of h
  unfold ownOf
  by_cases hk : n.kind = 4
  · rw [if_pos hk, if_pos hk, if_pos hk, entryF_back (hok.link hk), hk]
  · rw [if_neg hk, if_neg hk, if_neg hk, entryF_back (hok.own hk)]
theorem nodeNd_back {n : Nd} (h : goodNd n = true) (x : Ent) (h1 : x.name = nameOf n) (h2 : x.link = if n.kind = 4 then n.data else []) (h3 : x.data = if n.kind = 4 then [] else n.data) (h4 : x.kind = n.kind) : nodeNd x = n := by
  have hp : pathOk n.path = true := by unfold goodNd at h; simp only [Bool.and_eq_true] at h; exact h.1.1
  unfold nodeNd
  rw [h1, h2, h3, h4]
  obtain ⟨p, k, d⟩ := n
  simp only [Nd.mk.injEq]
  refine ⟨?_, trivial, ?_⟩
  · unfold nameOf
    by_cases he : p = []
    · subst he; rfl
    · have : p.isEmpty = false := by cases p <;> simp_all
      simp only [this]
      rw [if_neg (by simpa using pathOk_dot hp)]
      rfl
  · by_cases hk : k = 4
    · simp [hk]
    · simp [hk]
theorem nodeF_back {n : Nd} (rest : Bs) (h : goodNd n = true) : nodeF ⟨nodeOf n ++ rest, false⟩ = (n, ⟨rest, false⟩) := by
  have hok := NdOk_of h
  unfold nodeF nodeR nodeOf paxOf
  by_cases hx : extraOf n = []
  · rw [if_pos hx, List.nil_append, own_back rest h]
    simp only
    rw [if_neg (goodNd_kinds h)]
    have hx' := hx
    unfold extraOf at hx'
    rw [List.append_eq_nil_iff] at hx'
    obtain ⟨e1, e2⟩ := hx'
    have l1 : ¬ 100 < (nameOf n).length := fun hh => by rw [if_pos hh] at e1; exact recOf_ne _ _ e1
    have l2 : ¬ (n.kind = 4 ∧ 100 < n.data.length) := fun hh => by rw [if_pos hh] at e2; exact recOf_ne _ _ e2
    simp only
    rw [nodeNd_back h _ (List.take_of_length_le (by omega)) (by
      simp only
      by_cases hk : n.kind = 4
      · rw [if_pos hk, if_pos hk, List.take_of_length_le (by have : ¬ 100 < n.data.length := fun hh => l2 ⟨hk, hh⟩
                                                             omega)]
      · rw [if_neg hk, if_neg hk]) rfl rfl]
  · rw [if_neg hx, List.append_assoc, entryF_back (hok.pax hx)]
    simp only
    rw [own_back rest h, if_pos trivial, toldF_extra _ _ n hok.path hok.data]
    simp only
    rw [nodeNd_back h _ (by
      simp only
      by_cases h1 : 100 < (nameOf n).length
      · rw [if_pos h1]
      · rw [if_neg h1, List.take_of_length_le (by omega)]) (by
      simp only
      by_cases hk : n.kind = 4
      · by_cases h2 : 100 < n.data.length
        · rw [if_pos ⟨hk, h2⟩, if_pos hk]
        · rw [if_neg (fun hh => h2 hh.2), if_pos hk, if_pos hk, List.take_of_length_le (by omega)]
      · rw [if_neg (fun hh => hk hh.1), if_neg hk, if_neg hk]) rfl rfl]
/-! ### no tar begins as the end does -/
theorem padZ_head {s : Bs} {k : Nat} (hs : s ≠ []) (h0 : s.contains 0 = false) : ∃ c r, padZ s k = c :: r ∧ c ≠ 0 := by
  cases s with
  | nil => exact absurd rfl hs
  | cons c r =>
    refine ⟨c, r ++ rep 0 (k - (c :: r).length), rfl, fun e => ?_⟩
    subst e
    simp at h0
theorem headR_head {name link : Bs} {k : Int} {m : Nat} (h : headB name k m link = true) : ∃ c r, headR name k m link = c :: r ∧ c ≠ 0 := by
  rw [headR_hdr h]
  unfold hdr
  unfold headB mayB textB at h
  simp only [Bool.and_eq_true, Bool.not_eq_true'] at h
  obtain ⟨⟨⟨⟨⟨⟨⟨⟨he, h1⟩, _⟩, _⟩, _⟩, _⟩, _⟩, _⟩, _⟩ := h
  obtain ⟨c, r, e, hc⟩ := padZ_head (s := name) (k := 100) (by intro e; subst e; simp at he) h1.2
  rw [e]
  exact ⟨c, _, rfl, hc⟩
theorem entryOf_head {name link data : Bs} {k : Int} (h : headB name k data.length link = true) : ∃ c r, entryOf name k link data = c :: r ∧ c ≠ 0 := by
  obtain ⟨c, r, e, hc⟩ := headR_head h
  unfold entryOf
  rw [e]
  exact ⟨c, _, rfl, hc⟩
theorem nodeOf_head {n : Nd} (h : NdOk n) : ∃ c r, nodeOf n = c :: r ∧ c ≠ 0 := by
  have ho : ∃ c r, ownOf n = c :: r ∧ c ≠ 0 := by
    unfold ownOf
    by_cases hk : n.kind = 4
    · rw [if_pos hk]; exact entryOf_head (h.link hk)
    · rw [if_neg hk]; exact entryOf_head (h.own hk)
  unfold nodeOf paxOf
  by_cases hx : extraOf n = []
  · rw [if_pos hx]; exact ho
  · rw [if_neg hx]
    obtain ⟨c, r, e, hc⟩ := entryOf_head (h.pax hx)
    rw [e]
    exact ⟨c, _, rfl, hc⟩
theorem endF_head {c : UInt8} {r : Bs} (hc : c ≠ 0) : endF (c :: r) = false := by
  unfold endF
  have : (Lib.trimS (c :: r) [0]).isEmpty = false := by
    cases hT : Lib.trimS (c :: r) [0] with
    | cons a b => rfl
    | nil =>
      exfalso
      unfold Lib.trimS Lib.trimLeftS Lib.trimRightS at hT
      have hA : (List.dropWhile (fun x => List.contains [0] x) (c :: r).reverse).reverse = c :: (List.dropWhile (fun x => List.contains [0] x) r.reverse).reverse := by
        rw [List.reverse_cons, List.dropWhile_append]
        split
        · rename_i he
          rw [List.isEmpty_iff] at he
          rw [he]
          simp [hc]
        · simp
      rw [hA] at hT
      simp [hc] at hT
  rw [this, Bool.and_false]
theorem dropW_nil {α : Type} (p : α → Bool) : ∀ l : List α, (∀ x ∈ l, p x = true) → l.dropWhile p = []
  | [], _ => rfl
  | a :: l, h => by
    rw [List.dropWhile_cons, if_pos (h a (List.mem_cons_self ..))]
    exact dropW_nil p l fun x hx => h x (List.mem_cons_of_mem _ hx)
theorem rep_head (k : Nat) (z : Bs) : (rep 0 (k + 1) ++ z).head? = some 0 := by rw [rep, List.replicate_succ]; rfl
theorem endF_zero : endF (rep 0 1024) = true := by
  unfold endF
  rw [decide_eq_true (by rw [rep, List.length_replicate]), Bool.true_and]
  unfold Lib.trimS Lib.trimLeftS Lib.trimRightS
  have : List.dropWhile (fun x => List.contains [0] x) (rep 0 1024).reverse = [] := by
    refine dropW_nil _ _ fun x hx => ?_
    have := List.mem_reverse.1 hx
    unfold rep at this
    rw [List.eq_of_mem_replicate this]
    rfl
  rw [this]
  rfl
theorem laidOf_cons (n : Nd) (t : List Nd) : laidOf (n :: t) = nodeOf n ++ laidOf t := by simp [laidOf]
theorem readL_back (t acc : List Nd) (hg : ∀ n ∈ t, goodNd n = true) (hl : acc.length + t.length ≤ 401) : readL ⟨laidOf t ++ rep 0 1024, false⟩ acc = (acc ++ t, ⟨rep 0 1024, false⟩) := by
  induction t generalizing acc with
  | nil =>
    rw [show laidOf [] ++ rep 0 1024 = rep 0 1024 from rfl, readL_stop _ _ (by simp [endF_zero]), List.append_nil]
  | cons n t ih =>
    have hgn := hg n (List.mem_cons_self ..)
    obtain ⟨c, r, e, hc⟩ := nodeOf_head (NdOk_of hgn)
    rw [List.length_cons] at hl
    rw [laidOf_cons, List.append_assoc]
    rw [readL_go _ _ (by simp only [e, List.cons_append, endF_head hc]; simp; omega), nodeF_back _ hgn]
    simp only
    rw [ih (acc ++ [n]) (fun m hm => hg m (List.mem_cons_of_mem _ hm)) (by rw [List.length_append, List.length_singleton]; omega)]
    simp
theorem treeOk_good {t : List Nd} (h : treeOk t = true) : ∀ n ∈ t, goodNd n = true := by
  intro n hn
  obtain ⟨hne, hok⟩ := treeOk_spec h
  obtain ⟨i, hi, rfl⟩ := List.getElem_of_mem hn
  have := hok i hi
  unfold okAt at this
  simp only [Bool.and_eq_true] at this
  have hg := this.1.2
  rwa [List.getD_eq_getElem?_getD, List.getElem?_eq_getElem hi] at hg
/-- A tree's tar is read as that tree. -/
theorem read_lay {t : List Nd} (h : treeOk t = true) : readT (layOf t) = t ∧ readB (layOf t) = true := by
  have hl := (treeOk_nodes t h).2
  have hb := readL_back t [] (treeOk_good h) (by simp; omega)
  rw [List.nil_append] at hb
  have e1 : readT (layOf t) = t := by unfold readT layOf; rw [hb]
  refine ⟨e1, ?_⟩
  unfold readB
  rw [e1, h]
  unfold layOf
  rw [hb]
  simp
/-- A tar is no beginning of another one. -/
theorem lay_prefix (u t : List Nd) (z : Bs) (hu : ∀ n ∈ u, goodNd n = true) (ht : ∀ n ∈ t, goodNd n = true) (h : laidOf u ++ rep 0 1024 ++ z = laidOf t ++ rep 0 1024) : u = t ∧ z = [] := by
  induction u generalizing t with
  | nil =>
    cases t with
    | nil =>
      refine ⟨rfl, ?_⟩
      have := congrArg List.length h
      simp only [List.length_append] at this
      exact List.eq_nil_of_length_eq_zero (by omega)
    | cons m t =>
      exfalso
      obtain ⟨c, r, e, hc⟩ := nodeOf_head (NdOk_of (ht m (List.mem_cons_self ..)))
      rw [laidOf_cons, e] at h
      have h1 := congrArg (fun l => l.head?) h
      rw [show laidOf [] = [] from rfl, List.nil_append] at h1
      simp only [rep_head 1023, List.cons_append, List.head?_cons, Option.some.injEq] at h1
      exact hc h1.symm
  | cons n u ih =>
    have hgn := hu n (List.mem_cons_self ..)
    cases t with
    | nil =>
      exfalso
      obtain ⟨c, r, e, hc⟩ := nodeOf_head (NdOk_of hgn)
      rw [laidOf_cons, e] at h
      have h1 := congrArg (fun l => l.head?) h
      have h2 := rep_head 1023 []
      rw [List.append_nil] at h2
      rw [show laidOf [] = [] from rfl, List.nil_append] at h1
      simp only [h2, List.cons_append, List.head?_cons, Option.some.injEq] at h1
      exact hc h1
    | cons m t =>
      have hgm := ht m (List.mem_cons_self ..)
      rw [laidOf_cons, laidOf_cons, List.append_assoc, List.append_assoc, List.append_assoc] at h
      have e1 := nodeF_back (laidOf u ++ (rep 0 1024 ++ z)) hgn
      rw [h, nodeF_back _ hgm] at e1
      simp only [Prod.mk.injEq, St.mk.injEq] at e1
      obtain ⟨rfl, e2, _⟩ := e1
      obtain ⟨rfl, hz⟩ := ih t (fun x hx => hu x (List.mem_cons_of_mem _ hx)) (fun x hx => ht x (List.mem_cons_of_mem _ hx)) (by rw [List.append_assoc, e2])
      exact ⟨rfl, hz⟩
theorem readB_lay {b : Bs} (h : readB b = true) : treeOk (readT b) = true ∧ layOf (readT b) = b := by
  unfold readB at h
  simp only [Bool.and_eq_true, beq_iff_eq] at h
  exact ⟨h.1.2, h.2⟩
theorem read_cut {t : List Nd} (h : treeOk t = true) (k : Nat) (hk : k < (layOf t).length) : readB ((layOf t).take k) = false := by
  cases hr : readB ((layOf t).take k) with
  | false => rfl
  | true =>
    exfalso
    obtain ⟨h1, h2⟩ := readB_lay hr
    have e : laidOf (readT ((layOf t).take k)) ++ rep 0 1024 ++ (layOf t).drop k = laidOf t ++ rep 0 1024 := by
      show layOf _ ++ _ = layOf t
      rw [h2, List.take_append_drop]
    obtain ⟨_, hz⟩ := lay_prefix _ _ _ (treeOk_good h1) (treeOk_good h) e
    have := congrArg List.length hz
    rw [List.length_drop, List.length_nil] at this
    omega
theorem read_more {t : List Nd} (h : treeOk t = true) (z : Bs) (hz : z ≠ []) : readB (layOf t ++ z) = false := by
  cases hr : readB (layOf t ++ z) with
  | false => rfl
  | true =>
    exfalso
    obtain ⟨h1, h2⟩ := readB_lay hr
    have e : laidOf t ++ rep 0 1024 ++ z = laidOf (readT (layOf t ++ z)) ++ rep 0 1024 := h2.symm
    exact hz (lay_prefix _ _ _ (treeOk_good h) (treeOk_good h1) e).2
theorem read_other {t : List Nd} (h : treeOk t = true) (b : Bs) (hb : b ≠ layOf t) (hr : readB b = true) : readT b ≠ t := fun e => hb (by have := (readB_lay hr).2; rw [e] at this; exact this.symm)
end Go.Proofs.YtbkjjapeojclpaaGreatDoor
