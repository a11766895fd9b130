/- Texts of this claim in one. No condition. -/
import Derived.Test.YtpfcmfannkbipaaJ30
import Derived.Test.YtpfcmfannkbipaaJ23
import Derived.Test.YtpfcmfannkbipaaJ28
import Derived.Test.YtpfcmfannkbipaaJ21
import Derived.Test.YtpfcmfannkbipaaJ22
section
set_option linter.unusedVariables false
set_option maxRecDepth 20000
namespace Go.Proofs.Ytpfcmfannkbipaa
open Go.RowKit Go.Deep

/-- What a model holds, wherever it lies. -/
structure Con9 (c m : Mdl) : Prop where
  seed : c.seed = m.seed
  fin : c.fin = m.fin
  dl : c.dl.L = m.dl.L
  pl : c.pl.L.map (·.L) = m.pl.L.map (·.L)
  ll : c.ll.L.map (fun x => (x.1, x.2.L)) = m.ll.L.map (fun x => (x.1, x.2.L))
  il : c.il.L = m.il.L
theorem mapl_eq {α β : Type} {f : α → β} {a b : List α} (h : a.map f = b.map f) : a.length = b.length := by
  have := congrArg List.length h
  simpa using this
theorem all_con {α β : Type} {f : α → β} {g : α → Bool} (q : β → Bool) (hg : ∀ x, g x = q (f x)) {a b : List α} (h : a.map f = b.map f) : a.all g = b.all g := by
  have e : ∀ l : List α, l.all g = (l.map f).all q := fun l => by
    rw [List.all_map]
    congr 1
    funext x
    exact hg x
  rw [e, e, h]
section
variable {c m : Mdl} (h : Con9 c m)
include h
theorem Con9.ll_len : c.ll.L.length = m.ll.L.length := mapl_eq h.ll
theorem Con9.pl_len : c.pl.L.length = m.pl.L.length := mapl_eq h.pl
theorem Con9.chk : chkB c = chkB m := by
  unfold chkB
  have e1 : countsB c = countsB m := by unfold countsB; rw [h.dl, h.il, h.pl_len, h.ll_len]
  have e2 : c.pl.L.all (fun p => progB p.L) = m.pl.L.all (fun p => progB p.L) := all_con (f := fun s : Sl Ins4 => s.L) progB (fun _ => rfl) h.pl
  have e3 : c.ll.L.all (lpB m.pl.L.length) = m.ll.L.all (lpB m.pl.L.length) := all_con (f := fun x : LP2 => (x.1, x.2.L)) (fun q => decide (0 ≤ q.1 ∧ q.1 < m.pl.L.length ∧ q.2.length ≤ 8)) (fun _ => rfl) h.ll
  rw [e1, h.fin, h.dl, h.il, h.pl_len, h.ll_len, e2, e3]
theorem Con9.at_ll (i : Nat) : (c.ll.L[i]?).map (fun x => (x.1, x.2.L)) = (m.ll.L[i]?).map (fun x => (x.1, x.2.L)) := by
  rw [← List.getElem?_map, ← List.getElem?_map, h.ll]
theorem Con9.at_pl (i : Nat) : (c.pl.L[i]?).map (·.L) = (m.pl.L[i]?).map (·.L) := by
  rw [← List.getElem?_map, ← List.getElem?_map, h.pl]
theorem Con9.mpl (lp : Int) : Go.Proofs.Ytpfcmfannkbipaa.mpl c lp = Go.Proofs.Ytpfcmfannkbipaa.mpl m lp := by
  unfold Go.Proofs.Ytpfcmfannkbipaa.mpl
  have h1 := h.at_ll lp.toNat
  cases hc : c.ll.L[lp.toNat]? with
  | none =>
    rw [hc] at h1
    cases hm : m.ll.L[lp.toNat]? with
    | none => rfl
    | some y => rw [hm] at h1; cases h1
  | some x =>
    rw [hc] at h1
    cases hm : m.ll.L[lp.toNat]? with
    | none => rw [hm] at h1; cases h1
    | some y =>
      rw [hm] at h1
      have h1' : (x.1, x.2.L) = (y.1, y.2.L) := Option.some.inj h1
      have hxy : x.1 = y.1 := (Prod.mk.inj h1').1
      simp only
      rw [hxy]
      have h2 := h.at_pl y.1.toNat
      cases hp : c.pl.L[y.1.toNat]? with
      | none =>
        rw [hp] at h2
        cases hq : m.pl.L[y.1.toNat]? with
        | none => rfl
        | some s => rw [hq] at h2; cases h2
      | some s =>
        rw [hp] at h2
        cases hq : m.pl.L[y.1.toNat]? with
        | none => rw [hq] at h2; cases h2
        | some t => rw [hq] at h2; exact Option.some.inj h2
theorem Con9.mwd (lp : Int) : Go.Proofs.Ytpfcmfannkbipaa.mwd c lp = Go.Proofs.Ytpfcmfannkbipaa.mwd m lp := by
  unfold Go.Proofs.Ytpfcmfannkbipaa.mwd
  have h1 := h.at_ll lp.toNat
  cases hc : c.ll.L[lp.toNat]? with
  | none =>
    rw [hc] at h1
    cases hm : m.ll.L[lp.toNat]? with
    | none => rfl
    | some y => rw [hm] at h1; cases h1
  | some x =>
    rw [hc] at h1
    cases hm : m.ll.L[lp.toNat]? with
    | none => rw [hm] at h1; cases h1
    | some y => rw [hm] at h1; exact congrArg Prod.snd (Option.some.inj h1)
theorem Con9.hO (lp : Int) (s : StP) (e : Ev) : Go.Proofs.Ytpfcmfannkbipaa.hO c lp s e = Go.Proofs.Ytpfcmfannkbipaa.hO m lp s e := by
  unfold Go.Proofs.Ytpfcmfannkbipaa.hO
  rw [h.mpl, h.ll_len, h.seed]
theorem Con9.hE (lp : Int) (s : StP) (e : Ev) : Go.Proofs.Ytpfcmfannkbipaa.hE c lp s e = Go.Proofs.Ytpfcmfannkbipaa.hE m lp s e := by
  unfold Go.Proofs.Ytpfcmfannkbipaa.hE mayB
  rw [h.chk, h.ll_len]
theorem Con9.hR (lp : Int) (s : StP) (e : Ev) : Go.Proofs.Ytpfcmfannkbipaa.hR c lp s e = Go.Proofs.Ytpfcmfannkbipaa.hR m lp s e := by
  unfold Go.Proofs.Ytpfcmfannkbipaa.hR hV
  rw [h.hE, h.hO, h.dl, h.fin]
theorem Con9.step9 (s : Sm9) : Go.Proofs.Ytpfcmfannkbipaa.step9 c s = Go.Proofs.Ytpfcmfannkbipaa.step9 m s := by
  unfold Go.Proofs.Ytpfcmfannkbipaa.step9
  simp only [h.hR]
theorem Con9.new9 : Go.Proofs.Ytpfcmfannkbipaa.new9 c = Go.Proofs.Ytpfcmfannkbipaa.new9 m := by
  unfold Go.Proofs.Ytpfcmfannkbipaa.new9
  simp only [h.mwd, h.ll_len, h.fin, h.il]
theorem Con9.run9 : ∀ (n : Nat) (s : Sm9), Go.Proofs.Ytpfcmfannkbipaa.run9 c n s = Go.Proofs.Ytpfcmfannkbipaa.run9 m n s
  | 0, _ => rfl
  | n + 1, s => by
    unfold Go.Proofs.Ytpfcmfannkbipaa.run9
    rw [h.step9, Con9.run9 n]
end
/-- law27's Echo, its rows from the block g on. -/
def ecP : List Ins4 := [(1, 5, 1, 0), (12, 5, 6, 0)]
def ecQ : List Ins4 := [(13, 4, 5, 0), (3, 4, 4, 0), (14, 5, 4, 0)]
def ecM (g : Nat) : Mdl := ⟨0, 4626322717216342016, ⟨some ⟨g + 1 + 1, 0, none⟩, 1, [4607182418800017408]⟩, ⟨some ⟨g + 1 + 1 + 1, 0, none⟩, 2, [⟨some ⟨g, 0, none⟩, 2, ecP⟩, ⟨some ⟨g + 1, 0, none⟩, 3, ecQ⟩]⟩,
  ⟨some ⟨g + 1 + 1 + 1 + 1 + 1, 0, none⟩, 2, [(0, ⟨none, 0, []⟩), (1, ⟨some ⟨g + 1 + 1 + 1 + 1, 0, none⟩, 1, [0]⟩)]⟩, ⟨some ⟨g + 1 + 1 + 1 + 1 + 1 + 1, 0, none⟩, 2, [(4617315517961601024, 0, 5), (4613937818241073152, 0, 3)]⟩⟩
theorem ec_con (g : Nat) : Con9 (ecM g) (ecM 0) := ⟨rfl, rfl, rfl, rfl, rfl, rfl⟩
/-- What comes of it. -/
def ecL : List Dn := [(4613937818241073152, -1, 1, 0, 3, 0), (4616189618054758400, 0, 0, 1, 3, 0), (4617315517961601024, -1, 0, 0, 5, 0), (4618441417868443648, 0, 1, 1, 5, 0)]
theorem ec_chk0 : chkB (ecM 0) = true := by decide +kernel
theorem ec_chk (g : Nat) : chkB (ecM g) = true := by rw [(ec_con g).chk]; exact ec_chk0
theorem ec_run0 : (run9 (ecM 0) 9 (new9 (ecM 0))).2.2 = ecL := by decide +kernel
end Go.Proofs.Ytpfcmfannkbipaa
end

section

namespace Go.Proofs.Ytpfcmfannkbipaa.Mrg
section
variable {α : Type} (c : α → α → Int)
/-- The best of the first k lists: the first of those with the least head. -/
def bestUp (M : List (List α)) : Nat → Option Nat
  | 0 => none
  | k + 1 => match M[k]? with
    | some (x :: _) => match bestUp M k with
      | none => some k
      | some j => match M[j]? with
        | some (y :: _) => if c x y < 0 then some k else some j
        | _ => some j
    | _ => bestUp M k
def takeAt (M : List (List α)) (j : Nat) : List (List α) := M.set j (M.getD j []).tail
/-- Merged, n events at most. -/
def mergeP : Nat → List (List α) → List α
  | 0, _ => []
  | n + 1, M => match bestUp c M M.length with
    | none => []
    | some j => match M[j]? with
      | some (x :: _) => x :: mergeP n (takeAt M j)
      | _ => []
def total (M : List (List α)) : Nat := (M.map List.length).sum
variable {c}
theorem bestUp_some {M : List (List α)} : ∀ {k j : Nat}, bestUp c M k = some j → j < k ∧ ∃ x r, M[j]? = some (x :: r)
  | 0, j, h => by simp [bestUp] at h
  | k + 1, j, h => by
    unfold bestUp at h
    split at h
    · rename_i x r hx
      split at h
      · cases h; exact ⟨by omega, x, r, hx⟩
      · rename_i i hi
        have ih := bestUp_some hi
        split at h
        · split at h
          · cases h; exact ⟨by omega, x, r, hx⟩
          · cases h; exact ⟨by omega, ih.2⟩
        · cases h; exact ⟨by omega, ih.2⟩
    · have ih := bestUp_some h
      exact ⟨by omega, ih.2⟩
theorem bestUp_none {M : List (List α)} : ∀ {k : Nat}, bestUp c M k = none → ∀ i l, i < k → M[i]? = some l → l = []
  | 0, _, i, _, hi, _ => by omega
  | k + 1, h, i, l, hi, hl => by
    unfold bestUp at h
    split at h
    · rename_i x r hx
      split at h
      · cases h
      · split at h
        · split at h <;> cases h
        · cases h
    · rename_i hx
      by_cases e : i = k
      · subst e
        cases l with
        | nil => rfl
        | cons x r => exact absurd hl (hx x r)
      · exact bestUp_none h i l (by omega) hl
theorem total_set {M : List (List α)} {j : Nat} {x : α} {r : List α} (h : M[j]? = some (x :: r)) : total (takeAt M j) + 1 = total M := by
  unfold takeAt total
  have hg : M.getD j [] = x :: r := by simp [List.getD, h]
  rw [hg]
  induction M generalizing j with
  | nil => simp at h
  | cons l M ih =>
    cases j with
    | zero =>
      simp only [List.getElem?_cons_zero, Option.some.injEq] at h
      subst h
      simp [List.set]; omega
    | succ j =>
      simp only [List.getElem?_cons_succ] at h
      have := ih h (by simp [List.getD, h])
      simp only [List.set_cons_succ, List.map_cons, List.sum_cons, List.tail_cons] at this ⊢
      omega
/-- What is taken, and what is left, is what there was. -/
theorem perm_take {M : List (List α)} {j : Nat} {x : α} {r : List α} (h : M[j]? = some (x :: r)) : (x :: (takeAt M j).flatten).Perm M.flatten := by
  unfold takeAt
  have hg : M.getD j [] = x :: r := by simp [List.getD, h]
  rw [hg]
  induction M generalizing j with
  | nil => simp at h
  | cons l M ih =>
    cases j with
    | zero =>
      simp only [List.getElem?_cons_zero, Option.some.injEq] at h
      subst h
      simp [List.set]
    | succ j =>
      simp only [List.getElem?_cons_succ] at h
      have := ih h (by simp [List.getD, h])
      simp only [List.set_cons_succ, List.flatten_cons, List.tail_cons] at this ⊢
      exact (List.perm_middle.symm).trans (List.Perm.append_left l this)
theorem merge_perm : ∀ (n : Nat) (M : List (List α)), total M ≤ n → (mergeP c n M).Perm M.flatten
  | 0, M, h => by
    have : M.flatten = [] := by
      apply List.eq_nil_of_length_eq_zero
      rw [List.length_flatten]
      unfold total at h
      omega
    rw [this]
    exact List.Perm.refl _
  | n + 1, M, h => by
    unfold mergeP
    cases hb : bestUp c M M.length with
    | none =>
      have : M.flatten = [] := by
        rw [List.flatten_eq_nil_iff]
        intro l hl
        obtain ⟨i, hi⟩ := List.mem_iff_getElem?.1 hl
        exact bestUp_none hb i l (List.getElem?_eq_some_iff.1 hi).1 hi
      simp only
      rw [this]
    | some j =>
      obtain ⟨_, x, r, hx⟩ := bestUp_some hb
      simp only [hx]
      have ht := total_set hx
      exact (List.Perm.cons x (merge_perm n _ (by omega))).trans (perm_take hx)
/-- The best is not above any head. -/
theorem bestUp_least (hanti : ∀ x y, c y x = - c x y) (htr : ∀ x y z, c x y ≤ 0 → c y z ≤ 0 → c x z ≤ 0) {M : List (List α)} : ∀ {k j : Nat} {x : α} {r : List α}, bestUp c M k = some j → M[j]? = some (x :: r) → ∀ i y t, i < k → M[i]? = some (y :: t) → c x y ≤ 0
  | 0, _, _, _, h, _, _, _, _, hi, _ => by omega
  | k + 1, j, x, r, h, hx, i, y, t, hi, hy => by
    have self : ∀ z, c z z ≤ 0 := fun z => by have := hanti z z; omega
    unfold bestUp at h
    split at h
    · rename_i z q hz
      split at h
      · rename_i hn
        cases h
        rw [hz] at hx
        cases hx
        by_cases e : i = k
        · subst e
          rw [hz] at hy
          cases hy
          exact self _
        · have := bestUp_none hn i _ (by omega) hy
          cases this
      · rename_i j' hj'
        obtain ⟨_, x', r', hx'⟩ := bestUp_some hj'
        have ih := fun i y t hi hy => bestUp_least hanti htr hj' hx' i y t hi hy
        rw [hx'] at h
        simp only at h
        split at h
        · rename_i hlt
          cases h
          rw [hz] at hx
          cases hx
          by_cases e : i = k
          · subst e
            rw [hz] at hy
            cases hy
            exact self _
          · exact htr _ _ _ (by omega) (ih i y t (by omega) hy)
        · rename_i hlt
          cases h
          rw [hx'] at hx
          cases hx
          by_cases e : i = k
          · subst e
            rw [hz] at hy
            cases hy
            have := hanti y x
            omega
          · exact ih i y t (by omega) hy
    · rename_i hz
      by_cases e : i = k
      · subst e
        exact absurd hy (hz y t)
      · exact bestUp_least hanti htr h hx i y t (by omega) hy
theorem mem_takeAt {M : List (List α)} {j : Nat} {l : List α} (h : l ∈ takeAt M j) : l ∈ M ∨ l = (M.getD j []).tail := by
  unfold takeAt at h
  rcases List.mem_or_eq_of_mem_set h with h | h
  · exact .inl h
  · exact .inr h
/-- Ordered lists are merged to an ordered one. -/
theorem merge_sorted (hanti : ∀ x y, c y x = - c x y) (htr : ∀ x y z, c x y ≤ 0 → c y z ≤ 0 → c x z ≤ 0) : ∀ (n : Nat) (M : List (List α)), (∀ l ∈ M, l.Pairwise fun x y => c x y ≤ 0) → (mergeP c n M).Pairwise fun x y => c x y ≤ 0
  | 0, M, _ => List.Pairwise.nil
  | n + 1, M, h => by
    unfold mergeP
    cases hb : bestUp c M M.length with
    | none => exact List.Pairwise.nil
    | some j =>
      obtain ⟨_, x, r, hx⟩ := bestUp_some hb
      simp only [hx]
      have hg : M.getD j [] = x :: r := by simp [List.getD, hx]
      have hxr := h _ (List.mem_of_getElem? hx)
      have hs : ∀ l ∈ takeAt M j, l.Pairwise fun x y => c x y ≤ 0 := by
        intro l hl
        rcases mem_takeAt hl with hl | rfl
        · exact h l hl
        · rw [hg]; exact hxr.tail
      refine List.Pairwise.cons (fun y hy => ?_) (merge_sorted hanti htr n _ hs)
      have hmem : ∀ (n : Nat) (M : List (List α)) y, y ∈ mergeP c n M → ∃ l ∈ M, y ∈ l := by
        intro n
        induction n with
        | zero => intro M y hy; cases hy
        | succ n ih =>
          intro M y hy
          unfold mergeP at hy
          cases hb : bestUp c M M.length with
          | none => rw [hb] at hy; cases hy
          | some j =>
            obtain ⟨_, x, r, hx⟩ := bestUp_some hb
            rw [hb] at hy
            simp only [hx] at hy
            rcases List.mem_cons.1 hy with rfl | hy
            · exact ⟨_, List.mem_of_getElem? hx, by simp⟩
            · obtain ⟨l, hl, hyl⟩ := ih _ _ hy
              rcases mem_takeAt hl with hl | rfl
              · exact ⟨l, hl, hyl⟩
              · have hg : M.getD j [] = x :: r := by simp [List.getD, hx]
                rw [hg] at hyl
                exact ⟨_, List.mem_of_getElem? hx, by simp at hyl; simp [hyl]⟩
      obtain ⟨l, hl, hyl⟩ := hmem _ _ _ hy
      have key : ∀ l ∈ M, ∀ y ∈ l, c x y ≤ 0 := by
        intro l hl y hyl
        obtain ⟨i, hi⟩ := List.mem_iff_getElem?.1 hl
        cases l with
        | nil => cases hyl
        | cons z t =>
          have h1 := bestUp_least hanti htr hb hx i z t (List.getElem?_eq_some_iff.1 hi).1 hi
          rcases List.mem_cons.1 hyl with rfl | hyl
          · exact h1
          · exact htr _ _ _ h1 (List.rel_of_pairwise_cons (h _ hl) hyl)
      rcases mem_takeAt hl with hl | rfl
      · exact key l hl y hyl
      · rw [hg] at hyl
        exact List.rel_of_pairwise_cons hxr hyl
/-- The parts of a history, by a number. -/
def partsOf (f : α → Nat) (K : Nat) (l : List α) : List (List α) := (List.range K).map fun k => l.filter fun x => decide (f x = k)
theorem parts_at {f : α → Nat} {K : Nat} {l : List α} {k : Nat} (hk : k < K) : (partsOf f K l)[k]? = some (l.filter fun x => decide (f x = k)) := by
  unfold partsOf
  rw [List.getElem?_map, List.getElem?_range hk]
  rfl
theorem bestUp_parts {f : α → Nat} {K : Nat} {x : α} {r : List α} (hx : ∀ y ∈ r, c x y < 0) (hanti : ∀ x y, c y x = - c x y) : ∀ k, k ≤ K → f x < k → bestUp c (partsOf f K (x :: r)) k = some (f x)
  | 0, _, h => by omega
  | k + 1, hk, hf => by
    unfold bestUp
    rw [parts_at (by omega)]
    by_cases e : f x = k
    · subst e
      rw [List.filter_cons_of_pos (by simp)]
      simp only
      cases hb : bestUp c (partsOf f K (x :: r)) (f x) with
      | none => rfl
      | some j =>
        obtain ⟨hj, y, t, hy⟩ := bestUp_some hb
        simp only
        rw [hy]
        simp only
        have hyr : y ∈ r := by
          rw [parts_at (by omega)] at hy
          have : y ∈ (x :: r).filter fun z => decide (f z = j) := by rw [Option.some.inj hy]; simp
          obtain ⟨h1, h2⟩ := List.mem_filter.1 this
          rcases List.mem_cons.1 h1 with rfl | h1
          · simp at h2; omega
          · exact h1
        rw [if_pos (hx y hyr)]
    · have ih := bestUp_parts (f := f) (K := K) (x := x) hx hanti k (by omega) (by omega)
      rw [List.filter_cons_of_neg (by simpa using e)]
      cases hr : r.filter fun z => decide (f z = k) with
      | nil => exact ih
      | cons y t =>
        simp only
        rw [ih]
        simp only
        rw [parts_at (by omega), List.filter_cons_of_pos (by simp)]
        simp only
        have hyr : y ∈ r := by
          have : y ∈ r.filter fun z => decide (f z = k) := by rw [hr]; simp
          exact (List.mem_filter.1 this).1
        have := hx y hyr
        have := hanti x y
        rw [if_neg (by omega)]
theorem take_parts {f : α → Nat} {K : Nat} {x : α} {r : List α} (hf : f x < K) : takeAt (partsOf f K (x :: r)) (f x) = partsOf f K r := by
  unfold takeAt
  have hg : (partsOf f K (x :: r)).getD (f x) [] = x :: r.filter fun z => decide (f z = f x) := by
    simp only [List.getD, parts_at hf, Option.getD_some]
    rw [List.filter_cons_of_pos (by simp)]
  rw [hg, List.tail_cons]
  apply List.ext_getElem?
  intro i
  have hlen : ∀ l : List α, (partsOf f K l).length = K := fun l => by simp [partsOf]
  rw [List.getElem?_set]
  by_cases hi : i < K
  · rw [parts_at hi]
    by_cases e : f x = i
    · subst e
      rw [if_pos rfl, if_pos (by rw [hlen]; exact hi), parts_at hi]
    · rw [if_neg e, parts_at hi, List.filter_cons_of_neg (by simpa using e)]
  · rw [List.getElem?_eq_none (by rw [hlen]; omega)]
    by_cases e : f x = i
    · omega
    · rw [if_neg e, List.getElem?_eq_none (by rw [hlen]; omega)]
theorem bestUp_empty {M : List (List α)} (h : ∀ l ∈ M, l = []) : ∀ k, bestUp c M k = none
  | 0 => rfl
  | k + 1 => by
    unfold bestUp
    cases hk : M[k]? with
    | none => exact bestUp_empty h k
    | some l =>
      rw [h l (List.mem_of_getElem? hk)]
      exact bestUp_empty h k
/-- A strictly ordered history, parted and merged, is as it was. -/
theorem merge_parts {f : α → Nat} {K : Nat} (hanti : ∀ x y, c y x = - c x y) : ∀ (l : List α) (n : Nat), l.length ≤ n → (∀ x ∈ l, f x < K) → (l.Pairwise fun x y => c x y < 0) → mergeP c n (partsOf f K l) = l
  | [], n, _, _, _ => by
    cases n with
    | zero => rfl
    | succ n =>
      unfold mergeP
      rw [bestUp_empty]
      intro l hl
      unfold partsOf at hl
      obtain ⟨k, _, rfl⟩ := List.mem_map.1 hl
      rfl
  | x :: r, 0, h, _, _ => by simp at h
  | x :: r, n + 1, h, hf, hp => by
    have hxr : ∀ y ∈ r, c x y < 0 := fun y hy => List.rel_of_pairwise_cons hp hy
    have hlen : (partsOf f K (x :: r)).length = K := by simp [partsOf]
    have hfx := hf x (by simp)
    unfold mergeP
    rw [hlen, bestUp_parts hxr hanti K (Nat.le_refl _) hfx]
    simp only
    rw [parts_at hfx, List.filter_cons_of_pos (by simp)]
    simp only
    rw [take_parts hfx, merge_parts hanti r n (by simpa using h) (fun y hy => hf y (by simp [hy])) hp.tail]
end
end Go.Proofs.Ytpfcmfannkbipaa.Mrg
end

section
set_option linter.unusedVariables false
set_option maxRecDepth 20000
namespace Go.Proofs.Ytpfcmfannkbipaa
open Go.RowKit Go.Deep

def cD (x y : Dn) : Int := cmpE (dnE x) (dnE y)
theorem cD_neg (x y : Dn) : cD y x = -cD x y := cmpE_neg _ _
theorem cD_trans (x y z : Dn) : cD x y ≤ 0 → cD y z ≤ 0 → cD x z ≤ 0 := (cmpE_trans _ _ _).1
theorem cD_self (x : Dn) : cD x x = 0 := cmpE_self _
/-- Are two events that were handled the same? -/
def sameD (x y : Dn) : Bool := fsame x.1 y.1 && decide (x.2 = y.2)
theorem sameD_self (x : Dn) : sameD x x = true := by unfold sameD; rw [fsame_eq]; simp

/-! Is a history in order? -/
def ordAt (L : List Dn) (i : Nat) : Bool := match L[i - 1]?, L[i]? with
  | some x, some y => decide (cD x y ≤ 0)
  | _, _ => true
def ordUp (L : List Dn) (k : Nat) : Bool := (List.range k).all fun i => decide (i = 0) || ordAt L i
theorem ordUp_zero (L : List Dn) : ordUp L 0 = true := rfl
theorem ordUp_succ (L : List Dn) (k : Nat) : ordUp L (k + 1) = (ordUp L k && (decide (k = 0) || ordAt L k)) := by
  unfold ordUp
  rw [List.range_succ, List.all_append]
  simp
theorem ordUp_past (L : List Dn) : ∀ k, L.length ≤ k → ordUp L k = ordUp L L.length := by
  intro k hk
  induction k with
  | zero =>
    have : L.length = 0 := by omega
    rw [this]
  | succ k ih =>
    by_cases h : L.length ≤ k
    · rw [ordUp_succ, ih h]
      have : ordAt L k = true := by
        unfold ordAt
        rw [List.getElem?_eq_none h]
        cases L[k - 1]? <;> rfl
      rw [this]
      simp
    · have : L.length = k + 1 := by omega
      rw [this]
theorem ordUp_at {L : List Dn} {k : Nat} (h : ordUp L k = true) {i : Nat} {x y : Dn} (hi : i + 1 < k) (hx : L[i]? = some x) (hy : L[i + 1]? = some y) : cD x y ≤ 0 := by
  unfold ordUp at h
  rw [List.all_eq_true] at h
  have := h (i + 1) (List.mem_range.2 hi)
  unfold ordAt at this
  rw [Nat.add_sub_cancel, hx, hy] at this
  simpa using this
theorem ordUp_pairs {L : List Dn} (h : ordUp L L.length = true) : L.Pairwise fun x y => cD x y ≤ 0 := by
  rw [List.pairwise_iff_getElem]
  have key : ∀ d i (hi : i < L.length) (hj : i + (d + 1) < L.length), cD L[i] L[i + (d + 1)] ≤ 0 := by
    intro d
    induction d with
    | zero => intro i hi hj; exact ordUp_at h (by omega) (List.getElem?_eq_getElem hi) (List.getElem?_eq_getElem hj)
    | succ d ih =>
      intro i hi hj
      have h1 := ih i hi (by omega)
      have h2 := ordUp_at h (i := i + (d + 1)) (by omega) (List.getElem?_eq_getElem (by omega)) (List.getElem?_eq_getElem hj)
      exact cD_trans _ _ _ h1 h2
  intro i j hi hj hij
  obtain ⟨d, rfl⟩ : ∃ d, j = i + (d + 1) := ⟨j - i - 1, by omega⟩
  exact key d i hi hj
theorem ordUp_of_pairs {L : List Dn} (h : L.Pairwise fun x y => cD x y ≤ 0) : ordUp L L.length = true := by
  unfold ordUp
  rw [List.all_eq_true]
  intro i hi
  have hil := List.mem_range.1 hi
  by_cases h0 : i = 0
  · simp [h0]
  · have hx : L[i - 1]? = some L[i - 1] := List.getElem?_eq_getElem (by omega)
    have hy : L[i]? = some L[i] := List.getElem?_eq_getElem hil
    unfold ordAt
    rw [hx, hy]
    simp only [Bool.or_eq_true, decide_eq_true_eq]
    exact .inr (List.pairwise_iff_getElem.1 h (i - 1) i (by omega) hil (by omega))
/-- Strictly in order, event by event. -/
theorem strict_pairs {L : List Dn} (h : ∀ i x y, L[i]? = some x → L[i + 1]? = some y → cD x y < 0) : L.Pairwise fun x y => cD x y < 0 := by
  rw [List.pairwise_iff_getElem]
  have key : ∀ d i (hi : i < L.length) (hj : i + (d + 1) < L.length), cD L[i] L[i + (d + 1)] < 0 := by
    intro d
    induction d with
    | zero => intro i hi hj; exact h i _ _ (List.getElem?_eq_getElem hi) (List.getElem?_eq_getElem hj)
    | succ d ih =>
      intro i hi hj
      have h1 := ih i hi (by omega)
      have h2 := h (i + (d + 1)) _ _ (List.getElem?_eq_getElem (by omega)) (List.getElem?_eq_getElem hj)
      exact (cmpE_trans _ _ _).2.1 h1 (Int.le_of_lt h2)
  intro i j hi hj hij
  obtain ⟨d, rfl⟩ : ∃ d, j = i + (d + 1) := ⟨j - i - 1, by omega⟩
  exact key d i hi hj

/-! Where two histories differ. -/
def difP : List Dn → List Dn → Nat → Int
  | [], [], _ => -1
  | x :: a, y :: b, k => if sameD x y then difP a b (k + 1) else k
  | _, _, k => k
theorem difP_ways : ∀ (a b : List Dn) (k : Nat), (difP a b k = -1 ∧ a.length = b.length ∧ (a.zip b).all (fun p => sameD p.1 p.2) = true) ∨
    ∃ n : Nat, difP a b k = ((k + n : Nat) : Int) ∧ n ≤ a.length ∧ n ≤ b.length ∧ ((a.take n).zip (b.take n)).all (fun p => sameD p.1 p.2) = true ∧ (((n = a.length) ≠ (n = b.length)) ∨ ∃ x y, a[n]? = some x ∧ b[n]? = some y ∧ sameD x y = false)
  | [], [], _ => .inl ⟨rfl, rfl, rfl⟩
  | [], y :: b, k => .inr ⟨0, by simp [difP], by simp, by simp, rfl, .inl (by simp)⟩
  | x :: a, [], k => .inr ⟨0, by simp [difP], by simp, by simp, rfl, .inl (by simp)⟩
  | x :: a, y :: b, k => by
    unfold difP
    cases hs : sameD x y with
    | false => exact .inr ⟨0, by simp, by simp, by simp, rfl, .inr ⟨x, y, rfl, rfl, hs⟩⟩
    | true =>
      simp only [if_true]
      rcases difP_ways a b (k + 1) with ⟨h1, h2, h3⟩ | ⟨n, h1, h2, h3, h4, h5⟩
      · exact .inl ⟨h1, by simp [h2], by simp [hs, h3]⟩
      · refine .inr ⟨n + 1, by rw [h1]; congr 1; omega, by simpa using h2, by simpa using h3, by simp [hs, h4], ?_⟩
        rcases h5 with h5 | ⟨u, v, h6, h7, h8⟩
        · exact .inl (by simpa using h5)
        · exact .inr ⟨u, v, by simpa using h6, by simpa using h7, h8⟩

/-! What is cut. -/
section
variable {α : Type} (k : α → Int)
theorem none_low : ∀ {l : List α} {a : Int}, (∀ x ∈ l, a ≤ k x) → l.takeWhile (fun x => decide (k x < a)) = []
  | [], _, _ => rfl
  | x :: r, a, h => by
    rw [List.takeWhile_cons_of_neg]
    have := h x (by simp)
    simp; omega
theorem cut_count : ∀ (l : List α) (a b : Int), (l.Pairwise fun x y => k x ≤ k y) → a ≤ b →
    (l.takeWhile fun x => decide (k x < a)).length + (l.filter fun x => decide (a ≤ k x ∧ k x < b)).length = (l.takeWhile fun x => decide (k x < b)).length
  | [], _, _, _, _ => rfl
  | x :: r, a, b, hp, hab => by
    have h0 : ∀ y ∈ r, k x ≤ k y := fun y hy => List.rel_of_pairwise_cons hp hy
    by_cases h1 : k x < a
    · have ih := cut_count r a b hp.tail hab
      rw [List.takeWhile_cons_of_pos (by simpa using h1), List.takeWhile_cons_of_pos (by simp; omega), List.filter_cons_of_neg (by simp; omega)]
      simp only [List.length_cons]
      omega
    · have hz : r.takeWhile (fun x => decide (k x < a)) = [] := none_low k fun y hy => by have := h0 y hy; omega
      by_cases h2 : k x < b
      · have ih := cut_count r a b hp.tail hab
        rw [hz] at ih
        rw [List.takeWhile_cons_of_neg (by simpa using h1), List.takeWhile_cons_of_pos (by simpa using h2), List.filter_cons_of_pos (by simp; omega)]
        simp only [List.length_cons, List.length_nil] at ih ⊢
        omega
      · have hf : (x :: r).filter (fun x => decide (a ≤ k x ∧ k x < b)) = [] := by
          rw [List.filter_eq_nil_iff]
          intro y hy
          rcases List.mem_cons.1 hy with rfl | hy
          · simp; omega
          · have := h0 y hy
            simp; omega
        rw [hf, none_low k fun y hy => ?_, none_low k fun y hy => ?_]
        · rfl
        · rcases List.mem_cons.1 hy with rfl | hy
          · omega
          · have := h0 y hy; omega
        · rcases List.mem_cons.1 hy with rfl | hy
          · omega
          · have := h0 y hy; omega
end
/-- Where the next one kept lies. -/
theorem filter_at {α : Type} (p : α → Bool) : ∀ (l : List α) (i : Nat) (x : α), l[i]? = some x → p x = true → (l.filter p)[((l.take i).filter p).length]? = some x
  | [], i, x, h, _ => by simp at h
  | y :: r, 0, x, h, hp => by
    simp only [List.getElem?_cons_zero, Option.some.injEq] at h
    subst h
    rw [List.filter_cons_of_pos hp]
    rfl
  | y :: r, i + 1, x, h, hp => by
    simp only [List.getElem?_cons_succ] at h
    have ih := filter_at p r i x h hp
    rw [List.take_succ_cons]
    cases hy : p y with
    | true =>
      rw [List.filter_cons_of_pos hy, List.filter_cons_of_pos hy, List.length_cons, List.getElem?_cons_succ]
      exact ih
    | false =>
      rw [List.filter_cons_of_neg (by simp [hy]), List.filter_cons_of_neg (by simp [hy])]
      exact ih
end Go.Proofs.Ytpfcmfannkbipaa
end

section
set_option linter.unusedVariables false
set_option linter.unusedSimpArgs false
set_option maxRecDepth 20000
namespace Go.Proofs.Ytpfcmfannkbipaa
open Go.RowKit Go.Deep

attribute [local go_sem] run_store_float
theorem sfloat34_any (a b : Nat) (w : World) : Calls Try.prog 70 #[.float .f64 a, .float .f64 b] w fun e w' => e = .returned (.bool (fsame a b)) ∧ w = w' := by
  have fb := f64bits_run
  by_cases h : a = b
  · subst h
    rw [fsame_eq]
    go_enter Try.func70, Try.ntmps70
    go_wp2_with fail
    go_ret
    exact ⟨rfl, rfl⟩
  · have hne : ((a : Int) == (b : Int)) = false := by rw [beq_eq_false_iff_ne]; omega
    rw [fsame_ne h]
    by_cases ha : isNan a
    · rw [decide_eq_true ha]
      go_enter Try.func70, Try.ntmps70
      go_wp2_with fail
      refine (isnan_any _ _).mono ?_
      rw [decide_eq_true ha]
      rintro e w' ⟨rfl, rfl⟩
      go_wp2_with fail
      refine (isnan_any _ _).mono ?_
      rintro e w' ⟨rfl, rfl⟩
      go_wp2_with fail
      go_ret
      exact ⟨rfl, rfl⟩
    · rw [decide_eq_false ha]
      go_enter Try.func70, Try.ntmps70
      go_wp2_with fail
      refine (isnan_any _ _).mono ?_
      rw [decide_eq_false ha]
      rintro e w' ⟨rfl, rfl⟩
      go_wp2_with fail
      go_ret
      exact ⟨rfl, rfl⟩
theorem dn0_eq (x y : Dn) : ((x.2.1 == y.2.1) && ((x.2.2.1 == y.2.2.1) && ((x.2.2.2.1 == y.2.2.2.1) && ((x.2.2.2.2.1 == y.2.2.2.2.1) && (x.2.2.2.2.2 == y.2.2.2.2.2))))) = decide (x.2 = y.2) := by
  obtain ⟨x0, x1, x2, x3, x4, x5⟩ := x
  obtain ⟨y0, y1, y2, y3, y4, y5⟩ := y
  rw [Bool.eq_iff_iff]
  simp [Prod.mk.injEq]
theorem dn0_run (x y : Dn) (w : World) : (binOp .eql 39 (.agg #[.float .f64 0, .int .i64 x.2.1, .int .i64 x.2.2.1, .int .i64 x.2.2.2.1, .int .i64 x.2.2.2.2.1, .int .i64 x.2.2.2.2.2]) (.agg #[.float .f64 0, .int .i64 y.2.1, .int .i64 y.2.2.1, .int .i64 y.2.2.2.1, .int .i64 y.2.2.2.2.1, .int .i64 y.2.2.2.2.2])).run Try.prog w = .ok (.bool (decide (x.2 = y.2))) w := by
  have hz := fo_self 0 zero_num
  rw [← dn0_eq]
  cases h1 : x.2.1 == y.2.1 <;> cases h2 : x.2.2.1 == y.2.2.1 <;> cases h3 : x.2.2.2.1 == y.2.2.2.1 <;> cases h4 : x.2.2.2.2.1 == y.2.2.2.2.1 <;> cases h5 : x.2.2.2.2.2 == y.2.2.2.2.2
  all_goals
    go_simp
    try rfl
abbrev dnV (x : Dn) : Value := .agg #[.float .f64 x.1, .int .i64 x.2.1, .int .i64 x.2.2.1, .int .i64 x.2.2.2.1, .int .i64 x.2.2.2.2.1, .int .i64 x.2.2.2.2.2]
theorem ssame34_any (x y : Dn) (w : World) : Calls Try.prog 26 #[dnV x, dnV y] w fun e w' => e = .returned (.bool (sameD x y)) ∧ Below w.heap.size w w' := by
  have hF := fun W => sfloat34_any x.1 y.1 W
  have hR := dn0_run x y
  have hD : sameD x y = (fsame x.1 y.1 && decide (x.2 = y.2)) := rfl
  rw [hD]
  generalize decide (x.2 = y.2) = B at *
  generalize fsame x.1 y.1 = A at *
  obtain ⟨x0, x1, x2, x3, x4, x5⟩ := x
  obtain ⟨y0, y1, y2, y3, y4, y5⟩ := y
  obtain ⟨hb, hX, hY⟩ := box2 w #[.float .f64 x0, .int .i64 x1, .int .i64 x2, .int .i64 x3, .int .i64 x4, .int .i64 x5] #[.float .f64 y0, .int .i64 y1, .int .i64 y2, .int .i64 y3, .int .i64 y4, .int .i64 y5] 39 39
  clear hD
  unfold dnV
  simp only at *
  have x0 := hX.cell 0
  have x1 := hX.cell 1
  have x2 := hX.cell 2
  have x3 := hX.cell 3
  have x4 := hX.cell 4
  have x5 := hX.cell 5
  simp only [List.getElem?_toArray, List.getElem?_cons_zero, List.getElem?_cons_succ] at x0 x1 x2 x3 x4 x5
  have y0 := hY.cell 0
  have y1 := hY.cell 1
  have y2 := hY.cell 2
  have y3 := hY.cell 3
  have y4 := hY.cell 4
  have y5 := hY.cell 5
  simp only [List.getElem?_toArray, List.getElem?_cons_zero, List.getElem?_cons_succ] at y0 y1 y2 y3 y4 y5
  have HB := hide hb
  have f0 := hX.frozen 0
  have f1 := hY.frozen 0
  clear hb hX hY
  go_enter Try.func26, Try.ntmps26
  go_upto_region 1 with fail
  generalize (World.alloc (World.alloc w _) _) = w1 at *
  go_quiet (fail)
  cases A with
  | false =>
    go_wp2_with fail
    refine (hF _).mono ?_
    rintro e w' ⟨rfl, rfl⟩
    go_wp2_with fail
    go_ret
    exact ⟨rfl, ((below_drewN HB.out _).setCell (by simp only; omega) _).setCell (by simp only; omega) _⟩
  | true =>
    go_wp2_with fail
    refine (hF _).mono ?_
    rintro e w' ⟨rfl, rfl⟩
    go_wp2_with fail
    go_ret
    exact ⟨rfl, ((below_drewN HB.out _).setCell (by simp only; omega) _).setCell (by simp only; omega) _⟩
theorem nats_eq (a b : Nat) : ((a : Int) == (b : Int)) = decide (a = b) := by
  rw [Bool.eq_iff_iff]
  simp; omega
theorem same02_law (t t' : Nat) (s n s' n' : Int) : (((t : Int) == (t' : Int)) && ((s == s') && (n == n')) || (!decide (¬ isNan t) && (!decide (¬ isNan t') && ((s == s') && (n == n'))))) = (fsame t t' && (decide (s = s') && decide (n = n'))) := by
  rw [nats_eq, show (s == s') = decide (s = s') from by rw [Bool.eq_iff_iff]; simp, show (n == n') = decide (n = n') from by rw [Bool.eq_iff_iff]; simp]
  unfold fsame
  rw [decide_not, decide_not, Bool.not_not, Bool.not_not]
  generalize decide (t = t') = a
  generalize decide (s = s') = b
  generalize decide (n = n') = c
  generalize decide (isNan t) = d
  generalize decide (isNan t') = e
  revert a b c d e
  decide
set_option maxHeartbeats 4000000 in
theorem rsame02_any (t t' : Nat) (s n s' n' : Int) (w : World) : Calls Try.prog 71 #[.agg #[.float .f64 t, .int .i64 s, .int .i64 n], .agg #[.float .f64 t', .int .i64 s', .int .i64 n']] w fun e w' => e = .returned (.bool (fsame t t' && (decide (s = s') && decide (n = n')))) ∧ Below w.heap.size w w' := by
  have fb := f64bits_run
  have h1 := fun W => rnumber_any t W
  have h2 := fun W => rnumber_any t' W
  rw [← same02_law]
  obtain ⟨hb, hX, hY⟩ := box2 w #[.float .f64 t, .int .i64 s, .int .i64 n] #[.float .f64 t', .int .i64 s', .int .i64 n'] 35 35
  obtain ⟨b1, e1⟩ : ∃ b, ((t : Int) == (t' : Int)) = b := ⟨_, rfl⟩
  obtain ⟨b2, e2⟩ : ∃ b, (s == s') = b := ⟨_, rfl⟩
  obtain ⟨b3, e3⟩ : ∃ b, (n == n') = b := ⟨_, rfl⟩
  rw [e1, e2, e3]
  generalize decide (¬ isNan t) = b4 at *
  generalize decide (¬ isNan t') = b5 at *
  generalize hW : (World.alloc (World.alloc w _) _) = w1 at *
  obtain ⟨p, hO, h0, hne, hI⟩ := bel_hidden w1 w1.drew (Below.refl _ _).drew
  have x0 := hX.cell 0
  have x1 := hX.cell 1
  have x2 := hX.cell 2
  simp only [List.getElem?_toArray, List.getElem?_cons_zero, List.getElem?_cons_succ] at x0 x1 x2
  have y0 := hY.cell 0
  have y1 := hY.cell 1
  have y2 := hY.cell 2
  simp only [List.getElem?_toArray, List.getElem?_cons_zero, List.getElem?_cons_succ] at y0 y1 y2
  have k0 := fun i : Wo p => keepc (hI i) x0
  have k1 := fun i : Wo p => keepc (hI i) x1
  have k2 := fun i : Wo p => keepc (hI i) x2
  have j0 := fun i : Wo p => keepc (hI i) y0
  have j1 := fun i : Wo p => keepc (hI i) y1
  have j2 := fun i : Wo p => keepc (hI i) y2
  have HBI := hide (fun i : Wo p => below_after hb (hI i))
  have HP := hide hO
  have H0 := hide h0
  have HW := hide hW
  clear hI hO h0 hb x0 x1 x2 y0 y1 y2 hX hY hW
  cases b1 <;> cases b2 <;> cases b3 <;> cases b4 <;> cases b5
  all_goals
    go_enter Try.func71, Try.ntmps71
    go_upto_region 1 with fail
    rw [HW.out]
    refine wp_region_quietC (by kernel_rfl) (by kernel_rfl) H0.out ?_
    repeat (go_big_quiet_step (first
      | (go_at_call 74; with_reducible exact Calls.quietC_same (h1 _))
      | (go_at_call 74; with_reducible exact Calls.quietC_same (h2 _))))
    refine wpQuiet_nil ?_
    intro _ hw'
    obtain ⟨i, rfl⟩ := hw'
    have hi := hide (HBI.out i)
    generalize i.W = W1 at *
    clear k0 k1 k2 j0 j1 j2 HBI HP H0 hne i
    go_wp2
    go_ret
    exact ⟨rfl, hi.out⟩
end Go.Proofs.Ytpfcmfannkbipaa
end
