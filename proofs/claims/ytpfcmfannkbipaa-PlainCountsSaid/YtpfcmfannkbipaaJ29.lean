/- Texts of this claim in one. No condition. -/
import Derived.Maps.RangeWalk
import Derived.Test.YtpfcmfannkbipaaJ28
import Derived.Test.YtpfcmfannkbipaaJ23
import Derived.Test.YtpfcmfannkbipaaJ14
import Derived.Test.YtpfcmfannkbipaaJ15
import Derived.Test.YtpfcmfannkbipaaJ20
import Derived.Deep.RegionHeld3
import Derived.Deep.DeepCutAuto
section
set_option linter.unusedVariables false
set_option maxRecDepth 20000
namespace Go.Proofs.Ytpfcmfannkbipaa
open Go.RowKit Go.Deep Go.Maps

/-- How an event reads. -/
def evD (e : Ev) : DataW Unit := .agg [.lit (.float .f64 e.1), .lit (.int .i64 e.2.1), .lit (.int .i64 e.2.2.1), .lit (.int .i64 e.2.2.2.1), .lit (.int .i64 e.2.2.2.2)]
def evV (e : Ev) : Value := .agg #[.float .f64 e.1, .int .i64 e.2.1, .int .i64 e.2.2.1, .int .i64 e.2.2.2.1, .int .i64 e.2.2.2.2]
def evR (v : Value) : Option (DataW Unit × List MemPlace) := match v with
  | .agg a => match a.toList with
    | [.float .f64 t, .int .i64 s, .int .i64 n, .int .i64 d, .int .i64 p] => some (evD (t, s, n, d, p), [])
    | _ => none
  | _ => none
theorem evR_mk (e : Ev) : evR (evV e) = some (evD e, []) := rfl
theorem evR_inv {v : Value} {y : DataW Unit × List MemPlace} (h : evR v = some y) : ∃ e, v = evV e ∧ y = (evD e, []) := by
  unfold evR at h
  split at h
  · rename_i a
    split at h
    · rename_i t s n d p hl
      refine ⟨(t, s, n, d, p), ?_, (Option.some.inj h).symm⟩
      obtain ⟨l⟩ := a
      simp only at hl
      subst hl
      rfl
    · cases h
  · cases h
theorem evD_inj {a b : Ev} (h : evD a = evD b) : a = b := by
  obtain ⟨a1, a2, a3, a4, a5⟩ := a
  obtain ⟨b1, b2, b3, b4, b5⟩ := b
  unfold evD at h
  simp only [DataW.agg.injEq, List.cons.injEq, DataW.lit.injEq, Lit.float.injEq, Lit.int.injEq, true_and, and_true] at h
  obtain ⟨rfl, rfl, rfl, rfl, rfl⟩ := h
  rfl
def kI (n : Int) : Lit := .int .i64 n
theorem kI_inj {a b : Int} (h : kI a = kI b) : a = b := by
  unfold kI at h
  cases h
  rfl
/-- A map of events is a list of numbers and events. -/
structure Rep (D : DataW Unit) (L : List (Int × Ev)) : Prop where
  tidy : Tidy D
  hasE : ∀ m : Int, has D (kI m) = L.any fun p => decide (p.1 = m)
  atE : ∀ p ∈ L, ∀ z, D.atKey (kI p.1) z = evD p.2
  sz : size D = L.length
  nd : L.Pairwise fun p q => p.1 ≠ q.1
theorem Rep.nil : Rep (.map []) [] := ⟨tidy_empty, fun _ => rfl, fun _ h => by simp at h, rfl, List.Pairwise.nil⟩
theorem Rep.perm {D : DataW Unit} {L M : List (Int × Ev)} (h : Rep D L) (hp : L.Perm M) : Rep D M := by
  refine ⟨h.tidy, fun m => ?_, fun p hm => h.atE p (hp.mem_iff.2 hm), h.sz.trans hp.length_eq, (List.Perm.pairwise_iff (fun {a b} hab e => hab e.symm) hp).1 h.nd⟩
  rw [h.hasE m, Bool.eq_iff_iff]
  simp only [List.any_eq_true]
  exact ⟨fun ⟨p, h1, h2⟩ => ⟨p, hp.mem_iff.1 h1, h2⟩, fun ⟨p, h1, h2⟩ => ⟨p, hp.mem_iff.2 h1, h2⟩⟩
theorem isKey_kI (n : Int) : WideAt.IsKeyLit (kI n) := trivial
/-- One more waits. -/
theorem Rep.put {D : DataW Unit} {L : List (Int × Ev)} (h : Rep D L) {n : Int} {e : Ev} (hn : ∀ p ∈ L, p.1 ≠ n) : Rep (D.put (kI n) (evD e)) ((n, e) :: L) := by
  have hno : has D (kI n) = false := by
    rw [h.hasE n, List.any_eq_false]
    intro p hp
    simpa using hn p hp
  refine ⟨h.tidy.put (isKey_kI n) _, fun m => ?_, fun p hp z => ?_, ?_, List.Pairwise.cons (fun p hp => Ne.symm (hn p hp)) h.nd⟩
  · by_cases e1 : m = n
    · subst e1
      rw [has_put_same h.tidy.isMap (isKey_kI m)]
      simp
    · rw [has_put_other (fun e2 => e1 (kI_inj e2)), h.hasE m, List.any_cons]
      simp [Ne.symm e1]
  · rcases List.mem_cons.1 hp with rfl | hp
    · exact atKey_put_same h.tidy.isMap (isKey_kI n) _ _
    · rw [atKey_put_other (fun e2 => hn p hp (kI_inj e2))]
      exact h.atE p hp z
  · rw [size_put h.tidy, hno, h.sz]
    simp
/-- One is taken. -/
theorem Rep.del {D : DataW Unit} {L : List (Int × Ev)} {n : Int} {e : Ev} (h : Rep D ((n, e) :: L)) : Rep (D.del (kI n)) L := by
  have hn : ∀ p ∈ L, p.1 ≠ n := fun p hp => Ne.symm (List.rel_of_pairwise_cons h.nd hp)
  have hyes : has D (kI n) = true := by rw [h.hasE n]; simp
  refine ⟨h.tidy.del _, fun m => ?_, fun p hp z => ?_, ?_, h.nd.tail⟩
  · by_cases e1 : m = n
    · subst e1
      rw [has_del_same]
      symm
      rw [List.any_eq_false]
      intro p hp
      simpa using hn p hp
    · rw [has_del_other (fun e2 => e1 (kI_inj e2)), h.hasE m, List.any_cons]
      simp [Ne.symm e1]
  · rw [atKey_del_other (fun e2 => hn p hp (kI_inj e2))]
    exact h.atE p (by simp [hp]) z
  · have := size_del (k := kI n) h.tidy
    rw [hyes, h.sz, if_pos rfl] at this
    simpa using this
theorem Rep.del_none {D : DataW Unit} {L : List (Int × Ev)} {n : Int} (h : Rep D L) (hn : ∀ p ∈ L, p.1 ≠ n) : D.del (kI n) = D := by
  refine del_of_not_has ?_
  rw [h.hasE n, List.any_eq_false]
  intro p hp
  simpa using hn p hp
/-- What an entry that comes is. -/
theorem Rep.entry {D : DataW Unit} {L : List (Int × Ev)} (h : Rep D L) {n : Int} {e : Ev} (hh : has D (kI n) = true) (hat : ∀ z, D.atKey (kI n) z = evD e) : (n, e) ∈ L := by
  rw [h.hasE n, List.any_eq_true] at hh
  obtain ⟨p, hp, he⟩ := hh
  have hpn : p.1 = n := by simpa using he
  have h1 := h.atE p hp .nil
  rw [hpn, hat .nil] at h1
  have := evD_inj h1
  obtain ⟨a, b⟩ := p
  simp only at hpn this
  subst hpn this
  exact hp

/-! The least of those that have come. -/
/-- Ahead of: by the events' order, then by numbers. -/
def ahead (p q : Int × Ev) : Prop := cmpE p.2 q.2 < 0 ∨ cmpE p.2 q.2 = 0 ∧ p.1 ≤ q.1
theorem ahead_trans {p q r : Int × Ev} (h1 : ahead p q) (h2 : ahead q r) : ahead p r := by
  have t := cmpE_trans p.2 q.2 r.2
  unfold ahead at *
  rcases h1 with h1 | ⟨h1, h1'⟩ <;> rcases h2 with h2 | ⟨h2, h2'⟩
  · exact .inl (t.2.1 h1 (by omega))
  · exact .inl (t.2.1 h1 (by omega))
  · exact .inl (t.2.2 (by omega) h2)
  · have h3 := t.1 (by omega) (by omega)
    rcases Int.lt_or_eq_of_le h3 with h4 | h4
    · exact .inl h4
    · exact .inr ⟨h4, by omega⟩
theorem ahead_self (p : Int × Ev) : ahead p p := .inr ⟨cmpE_self _, Int.le_refl _⟩
theorem ahead_anti {p q : Int × Ev} (h1 : ahead p q) (h2 : ahead q p) : p.1 = q.1 := by
  have := cmpE_neg p.2 q.2
  unfold ahead at *
  omega
/-- The best of those that are no longer to come (none: -1). -/
def BestOf (L : List (Int × Ev)) (left : Lit → Bool) (b : Int) (f : Ev) : Prop :=
  (b = -1 ∧ f = (0, 0, 0, 0, 0) ∧ ∀ p ∈ L, left (kI p.1) = true) ∨ (b = 0 → True) ∧ ∃ p ∈ L, left (kI p.1) = false ∧ b = p.1 ∧ f = p.2 ∧ ∀ q ∈ L, left (kI q.1) = false → ahead p q
theorem sameKey_kI (a b : Int) : (kI a).sameKey (kI b) = decide (a = b) := by
  by_cases h : a = b
  · subst h
    unfold kI Lit.sameKey
    simp
  · rw [sameKey_ne (fun e => h (kI_inj e))]
    simp [h]
theorem best_start {L : List (Int × Ev)} {D : DataW Unit} (h : Rep D L) : BestOf L (has D) (-1) (0, 0, 0, 0, 0) := by
  refine .inl ⟨rfl, rfl, fun p hp => ?_⟩
  rw [h.hasE, List.any_eq_true]
  exact ⟨p, hp, by simp⟩
/-- What the look at an entry does. -/
def takesIt (n : Int) (e : Ev) (b : Int) (f : Ev) : Prop := b < 0 ∨ cmpE e f < 0 ∨ cmpE e f = 0 ∧ n < b
theorem best_step {L : List (Int × Ev)} {left : Lit → Bool} {b : Int} {f : Ev} {n : Int} {e : Ev} (hnn : ∀ p ∈ L, 0 ≤ p.1) (hnd : L.Pairwise fun p q => p.1 ≠ q.1) (hm : (n, e) ∈ L) (h : BestOf L left b f) :
    (takesIt n e b f → BestOf L (fun z => left z && !z.sameKey (kI n)) n e) ∧ (¬ takesIt n e b f → BestOf L (fun z => left z && !z.sameKey (kI n)) b f) := by
  have hleft : ∀ q : Int × Ev, (left (kI q.1) && !(kI q.1).sameKey (kI n)) = false ↔ left (kI q.1) = false ∨ q.1 = n := by
    intro q
    rw [sameKey_kI]
    cases left (kI q.1) <;> simp
  have huni : ∀ q ∈ L, q.1 = n → q = (n, e) := by
    intro q hq hqn
    clear h hleft
    induction L with
    | nil => cases hq
    | cons x r ih =>
      rcases List.mem_cons.1 hq with rfl | hq'
      · rcases List.mem_cons.1 hm with rfl | hm'
        · rfl
        · exact absurd hqn (List.rel_of_pairwise_cons hnd hm')
      · rcases List.mem_cons.1 hm with rfl | hm'
        · exact absurd hqn.symm (List.rel_of_pairwise_cons hnd hq')
        · exact ih (fun p hp => hnn p (by simp [hp])) hnd.tail hm' hq'
  constructor
  · intro ht
    refine .inr ⟨fun _ => trivial, (n, e), hm, (hleft (n, e)).2 (.inr rfl), rfl, rfl, fun q hq hl => ?_⟩
    rcases (hleft q).1 hl with hl | hl
    · rcases h with ⟨_, _, hall⟩ | ⟨_, p, hp, hpl, rfl, rfl, hall⟩
      · rw [hall q hq] at hl; cases hl
      · have h1 := hall q hq hl
        have h2 : ahead (n, e) p := by
          rcases ht with ht | ht | ht
          · have := hnn p hp; omega
          · exact .inl ht
          · exact .inr ⟨ht.1, by simp only; omega⟩
        exact ahead_trans h2 h1
    · rw [huni q hq hl]; exact ahead_self _
  · intro ht
    rcases h with ⟨rfl, _, _⟩ | ⟨_, p, hp, hpl, rfl, rfl, hall⟩
    · exact absurd (.inl (by decide)) ht
    · refine .inr ⟨fun _ => trivial, p, hp, (hleft p).2 (.inl hpl), rfl, rfl, fun q hq hl => ?_⟩
      rcases (hleft q).1 hl with hl | hl
      · exact hall q hq hl
      · rw [huni q hq hl]
        have hneg := cmpE_neg e p.2
        unfold takesIt at ht
        unfold ahead
        simp only
        omega
/-- All have come: the first of a list in order. -/
theorem best_end {p : Int × Ev} {r : List (Int × Ev)} {left : Lit → Bool} {b : Int} {f : Ev} (h : BestOf (p :: r) left b f) (hl : ∀ z, left z = false) (hs : ∀ q ∈ r, ahead p q) (hnd : (p :: r).Pairwise fun p q => p.1 ≠ q.1) : b = p.1 ∧ f = p.2 := by
  rcases h with ⟨_, _, h⟩ | ⟨_, q, hq, _, rfl, rfl, h⟩
  · have := h p (by simp)
    rw [hl] at this
    cases this
  · rcases List.mem_cons.1 hq with rfl | hq'
    · exact ⟨rfl, rfl⟩
    · have h1 := h p (by simp) (hl _)
      exact absurd (ahead_anti (hs q hq') h1) (List.rel_of_pairwise_cons hnd hq')
theorem best_none {left : Lit → Bool} {b : Int} {f : Ev} (h : BestOf [] left b f) : b = -1 ∧ f = (0, 0, 0, 0, 0) := by
  rcases h with ⟨h1, h2, _⟩ | ⟨_, q, hq, _⟩
  · exact ⟨h1, h2⟩
  · cases hq
end Go.Proofs.Ytpfcmfannkbipaa
end

section
set_option linter.unusedVariables false
set_option maxRecDepth 20000
namespace Go.Proofs.Ytpfcmfannkbipaa
open Go.RowKit Go.Deep

/-! What waits, in order. -/
theorem insP_mem (e x : Ev) : ∀ L : List Ev, x ∈ insP e L ↔ x = e ∨ x ∈ L
  | [] => by simp [insP]
  | y :: r => by
    unfold insP
    split
    · rw [List.mem_cons, insP_mem e x r, List.mem_cons]
      exact ⟨fun h => h.elim (fun h => .inr (.inl h)) (fun h => h.elim .inl fun h => .inr (.inr h)), fun h => h.elim (fun h => .inr (.inl h)) (fun h => h.elim .inl fun h => .inr (.inr h))⟩
    · rw [List.mem_cons]
theorem insP_len (e : Ev) : ∀ L : List Ev, (insP e L).length = L.length + 1
  | [] => rfl
  | y :: r => by
    unfold insP
    split
    · simp [insP_len e r]
    · simp
def SortE (L : List Ev) : Prop := L.Pairwise fun x y => cmpE x y ≤ 0
theorem insP_sort (e : Ev) : ∀ L : List Ev, SortE L → SortE (insP e L)
  | [], _ => List.pairwise_singleton _ _
  | y :: r, h => by
    have h0 : ∀ z ∈ r, cmpE y z ≤ 0 := fun z hz => List.rel_of_pairwise_cons h hz
    unfold insP
    split
    · rename_i hle
      refine List.Pairwise.cons (fun z hz => ?_) (insP_sort e r h.tail)
      rcases (insP_mem e z r).1 hz with rfl | hz
      · exact hle
      · exact h0 z hz
    · rename_i hgt
      have hlt : cmpE e y ≤ 0 := by have := cmpE_neg e y; omega
      refine List.Pairwise.cons (fun z hz => ?_) h
      rcases List.mem_cons.1 hz with rfl | hz
      · exact hlt
      · exact (cmpE_trans e y z).1 hlt (h0 z hz)
theorem insAll_mem (x : Ev) : ∀ (M L : List Ev), x ∈ M.foldl (fun W y => insP y W) L ↔ x ∈ M ∨ x ∈ L
  | [], L => by simp
  | y :: M, L => by
    rw [List.foldl_cons, insAll_mem x M, insP_mem, List.mem_cons]
    exact ⟨fun h => h.elim (fun h => .inl (.inr h)) (fun h => h.elim (fun h => .inl (.inl h)) .inr), fun h => h.elim (fun h => h.elim (fun h => .inr (.inl h)) .inl) (fun h => .inr (.inr h))⟩
theorem insAll_len : ∀ (M L : List Ev), (M.foldl (fun W y => insP y W) L).length = L.length + M.length
  | [], L => rfl
  | y :: M, L => by rw [List.foldl_cons, insAll_len M, insP_len, List.length_cons]; omega
theorem insAll_sort : ∀ (M L : List Ev), SortE L → SortE (M.foldl (fun W y => insP y W) L)
  | [], _, h => h
  | y :: M, L, h => by rw [List.foldl_cons]; exact insAll_sort M _ (insP_sort y L h)

/-! .. and numbered. -/
abbrev NE := Int × Ev
def insN (p : NE) : List NE → List NE
  | [] => [p]
  | x :: r => if cmpE x.2 p.2 ≤ 0 then x :: insN p r else p :: x :: r
theorem insN_map (p : NE) : ∀ L : List NE, (insN p L).map Prod.snd = insP p.2 (L.map Prod.snd)
  | [] => rfl
  | x :: r => by
    unfold insN
    rw [List.map_cons, insP]
    split
    · rw [List.map_cons, insN_map p r]
    · rfl
theorem insN_perm (p : NE) : ∀ L : List NE, (insN p L).Perm (p :: L)
  | [] => List.Perm.refl _
  | x :: r => by
    unfold insN
    split
    · exact ((insN_perm p r).cons x).trans (List.Perm.swap p x r)
    · exact List.Perm.refl _
theorem insN_sort (p : NE) : ∀ L : List NE, L.Pairwise ahead → (∀ x ∈ L, x.1 < p.1) → (insN p L).Pairwise ahead
  | [], _, _ => List.pairwise_singleton _ _
  | x :: r, h, hn => by
    have h0 : ∀ z ∈ r, ahead x z := fun z hz => List.rel_of_pairwise_cons h hz
    have hx := hn x (by simp)
    unfold insN
    split
    · rename_i hle
      refine List.Pairwise.cons (fun z hz => ?_) (insN_sort p r h.tail fun z hz => hn z (by simp [hz]))
      rcases List.mem_cons.1 ((insN_perm p r).mem_iff.1 hz) with rfl | hz
      · unfold ahead
        omega
      · exact h0 z hz
    · rename_i hgt
      have hlt : ahead p x := by
        have := cmpE_neg p.2 x.2
        unfold ahead
        omega
      refine List.Pairwise.cons (fun z hz => ?_) h
      rcases List.mem_cons.1 hz with rfl | hz
      · exact hlt
      · exact ahead_trans hlt (h0 z hz)
/-- Events come, numbered from n on. -/
def insNs : Int → List Ev → List NE → List NE
  | _, [], L => L
  | n, e :: M, L => insNs (n + 1) M (insN (n, e) L)
theorem insNs_map : ∀ (M : List Ev) (n : Int) (L : List NE), (insNs n M L).map Prod.snd = M.foldl (fun W y => insP y W) (L.map Prod.snd)
  | [], _, _ => rfl
  | e :: M, n, L => by
    unfold insNs
    rw [insNs_map M, insN_map, List.foldl_cons]
/-- What waits, numbered: in order, the numbers from 0 on and below the next. -/
structure NumOk (L : List NE) (nx : Int) : Prop where
  sort : L.Pairwise ahead
  lo : ∀ p ∈ L, 0 ≤ p.1 ∧ p.1 < nx
  nx : 0 ≤ nx
  nd : L.Pairwise fun p q => p.1 ≠ q.1
theorem NumOk.nil : NumOk [] 0 := ⟨List.Pairwise.nil, fun _ h => (by cases h), Int.le_refl _, List.Pairwise.nil⟩
theorem NumOk.ins {L : List NE} {nx : Int} (h : NumOk L nx) (e : Ev) : NumOk (insN (nx, e) L) (nx + 1) := by
  have hp := insN_perm (nx, e) L
  refine ⟨insN_sort _ L h.sort fun x hx => (h.lo x hx).2, fun p hm => ?_, by have := h.nx; omega, ?_⟩
  · rcases List.mem_cons.1 (hp.mem_iff.1 hm) with rfl | hm
    · have := h.nx
      exact ⟨this, by simp only; omega⟩
    · have := h.lo p hm
      omega
  · refine (List.Perm.pairwise_iff (fun {a b} hab e => hab e.symm) hp).2 (List.Pairwise.cons (fun p hm => ?_) h.nd)
    have := h.lo p hm
    simp only
    omega
theorem NumOk.tail {p : NE} {L : List NE} {nx : Int} (h : NumOk (p :: L) nx) : NumOk L nx := ⟨h.sort.tail, fun q hq => h.lo q (by simp [hq]), h.nx, h.nd.tail⟩
theorem NumOk.all : ∀ (M : List Ev) {L : List NE} {nx : Int}, NumOk L nx → NumOk (insNs nx M L) (nx + M.length)
  | [], L, nx, h => by simpa [insNs] using h
  | e :: M, L, nx, h => by
    have := NumOk.all M (h.ins e)
    unfold insNs
    rw [List.length_cons, show nx + ((M.length + 1 : Nat) : Int) = nx + 1 + (M.length : Int) by omega]
    exact this
end Go.Proofs.Ytpfcmfannkbipaa
end

section
set_option linter.unusedVariables false
set_option linter.unusedSimpArgs false
set_option maxRecDepth 20000
namespace Go.Proofs.Ytpfcmfannkbipaa
open Go.RowKit Go.Deep

attribute [local go_sem] run_store_float
def smP : List Ins4 := [(13, 4, 5, 0), (3, 4, 4, 0), (14, 5, 4, 0), (12, 1, 5, 4)]
/-- The small model, its rows from the block g on. -/
def smM (g : Nat) : Mdl := ⟨0, 4621819117588971520, ⟨some ⟨g + 1, 0, none⟩, 1, [4602678819172646912]⟩, ⟨some ⟨g + 1 + 1, 0, none⟩, 1, [⟨some ⟨g, 0, none⟩, 4, smP⟩]⟩,
  ⟨some ⟨g + 1 + 1 + 1 + 1, 0, none⟩, 1, [(0, ⟨some ⟨g + 1 + 1 + 1, 0, none⟩, 1, [1]⟩)]⟩, ⟨some ⟨g + 1 + 1 + 1 + 1 + 1, 0, none⟩, 1, [(4607182418800017408, 0, 2)]⟩⟩
def smE : Ev := (4607182418800017408, -1, 0, 0, 2)
def smS : Ev := (4609434218613702656, 0, 0, 0, 3)
theorem sm_chk (g : Nat) : chkB (smM g) = true := by
  have h : ∀ g, chkB (smM g) = chkB (smM 0) := fun g => rfl
  rw [h]
  decide +kernel
theorem sm_beg (g : Nat) : begR (smM g) = [smE] := by
  unfold begR
  rw [if_pos (sm_chk g)]
  show begV 4621819117588971520 0 [(4607182418800017408, 0, 2)] = [smE]
  decide +kernel
theorem sm_first (g : Nat) : firE (smM g) 0 = 0 ∧ firR (smM g) 0 = ([1], 0, 0) := by
  have h : firE (smM g) 0 = 0 := by unfold firE; rw [if_pos (sm_chk g)]; rfl
  refine ⟨h, ?_⟩
  unfold firR
  rw [if_pos h]
  rfl
theorem sm_may (g : Nat) : hE (smM g) 0 ([1], 0, 0) smE = 0 := by
  unfold hE
  rw [if_pos (sm_chk g)]
  have h : mayB (smM g) 0 ([1], 0, 0) smE = true := by
    have e : mayB (smM g) 0 ([1], 0, 0) smE = mayB (smM 0) 0 ([1], 0, 0) smE := rfl
    rw [e]
    decide +kernel
  rw [if_pos h]
theorem sm_handle (g : Nat) : hR (smM g) 0 ([1], 0, 0) smE = (([3], 1, 0), [smS], 0) := by
  unfold hR
  rw [if_pos (sm_may g)]
  have hO0 : hO (smM g) 0 ([1], 0, 0) smE = ([3], [(0, 0, 3)], 0, 0) := by
    show outV smP [1] 2 0 1 0 0 = _
    decide +kernel
  unfold hV
  rw [hO0]
  show (if (0 : Int) ≠ 0 then _ else if [((0, 0, 3) : Snt)].all (sndOk [4602678819172646912] 4607182418800017408) = true then (([3], 0 + 1, 0), sndV [4602678819172646912] 4607182418800017408 4621819117588971520 0 0 0 [((0, 0, 3) : Snt)], 0) else _) = _
  rw [if_neg (by decide), if_pos (by decide +kernel)]
  have h2 : sndV [4602678819172646912] 4607182418800017408 4621819117588971520 0 0 0 [((0, 0, 3) : Snt)] = [smS] := by decide +kernel
  rw [h2]
  rfl
def SmTo (w : World) (e : Ending) (w' : World) : Prop := e = .returned (smM (w.heap.size + 1)).val ∧ (smM (w.heap.size + 1)).At w' ∧ Below w.heap.size w w'
theorem at_one {α : Type} {d : Dec α} {size : Nat} {w : World} {g : Nat} {x : α} (h : d w ⟨g, 0, none⟩ x) : Sl.At d size w ⟨some ⟨g, 0, none⟩, 1, [x]⟩ := by
  refine ⟨fun i y hy => ⟨_, rfl, ?_⟩, Nat.le_refl 1, by simp only; omega⟩
  rcases i with _ | i
  · have e : x = y := by simpa using hy
    subst e
    rw [add_lit]
    simpa using h
  · simp at hy
theorem sm_at {w : World} {g : Nat} (b0 : Blk w g 142 #[.int .i64 13, .int .i64 4, .int .i64 5, .int .i64 0, .int .i64 3, .int .i64 4, .int .i64 4, .int .i64 0, .int .i64 14, .int .i64 5, .int .i64 4, .int .i64 0, .int .i64 12, .int .i64 1, .int .i64 5, .int .i64 4])
    (b1 : Blk w (g + 1) 27 #[.float .f64 4602678819172646912]) (b2 : Blk w (g + 1 + 1) 118 #[.slice (some ⟨g, 0, none⟩) 4 4]) (b3 : Blk w (g + 1 + 1 + 1) 3 #[.int .i64 1])
    (b4 : Blk w (g + 1 + 1 + 1 + 1) 120 #[.int .i64 0, .slice (some ⟨g + 1 + 1 + 1, 0, none⟩) 1 1]) (b5 : Blk w (g + 1 + 1 + 1 + 1 + 1) 125 #[.float .f64 4607182418800017408, .int .i64 0, .int .i64 2]) : (smM g).At w := by
  have hi : ∀ n : Int, 0 ≤ n → n ≤ 100 → I64 n := fun n h1 h2 => ⟨by omega, by omega⟩
  refine ⟨hi 0 (by decide) (by decide), (by decide : 4621819117588971520 < 18446744073709551616), at_one ⟨b1.cell 0, by decide⟩, at_one ⟨b2.cell 0, ?_⟩, at_one ⟨b4.cell 0, b4.cell 1, hi 0 (by decide) (by decide), at_one ⟨b3.cell 0, hi _ (by decide) (by decide)⟩⟩, at_one ⟨b5.cell 0, b5.cell 1, b5.cell 2, by decide, hi _ (by decide) (by decide), hi _ (by decide) (by decide)⟩⟩
  refine ⟨fun i x hx => ⟨_, rfl, ?_⟩, Nat.le_refl 4, by simp only; omega⟩
  have hi4 : i < 4 := (List.getElem?_eq_some_iff.1 hx).1
  rw [add_lit]
  rcases (by omega : i = 0 ∨ i = 1 ∨ i = 2 ∨ i = 3) with rfl | rfl | rfl | rfl
  · obtain rfl : ((13, 4, 5, 0) : Ins4) = x := Option.some.inj hx
    exact ⟨b0.cell 0, b0.cell 1, b0.cell 2, b0.cell 3, hi _ (by decide) (by decide), hi _ (by decide) (by decide), hi _ (by decide) (by decide), hi _ (by decide) (by decide)⟩
  · obtain rfl : ((3, 4, 4, 0) : Ins4) = x := Option.some.inj hx
    exact ⟨b0.cell 4, b0.cell 5, b0.cell 6, b0.cell 7, hi _ (by decide) (by decide), hi _ (by decide) (by decide), hi _ (by decide) (by decide), hi _ (by decide) (by decide)⟩
  · obtain rfl : ((14, 5, 4, 0) : Ins4) = x := Option.some.inj hx
    exact ⟨b0.cell 8, b0.cell 9, b0.cell 10, b0.cell 11, hi _ (by decide) (by decide), hi _ (by decide) (by decide), hi _ (by decide) (by decide), hi _ (by decide) (by decide)⟩
  · obtain rfl : ((12, 1, 5, 4) : Ins4) = x := Option.some.inj hx
    exact ⟨b0.cell 12, b0.cell 13, b0.cell 14, b0.cell 15, hi _ (by decide) (by decide), hi _ (by decide) (by decide), hi _ (by decide) (by decide), hi _ (by decide) (by decide)⟩
set_option maxHeartbeats 1000000 in
theorem small_any (w : World) : Calls Try.prog 75 #[] w (SmTo w) := by
  have hP := fun W (h1 : (smM (w.heap.size + 1)).At W) (h2 : Below w.heap.size w W) => (show SmTo w (.returned (.agg #[.int .i64 0, .float .f64 4621819117588971520, .slice (some ⟨w.heap.size + 1 + 1, 0, none⟩) 1 1, .slice (some ⟨w.heap.size + 1 + 1 + 1, 0, none⟩) 1 1, .slice (some ⟨w.heap.size + 1 + 1 + 1 + 1 + 1, 0, none⟩) 1 1, .slice (some ⟨w.heap.size + 1 + 1 + 1 + 1 + 1 + 1, 0, none⟩) 1 1])) W from ⟨rfl, h1, h2⟩)
  generalize SmTo w = Post at *
  have HP := hide hP
  clear hP
  go_enter Try.func75, Try.ntmps75
  go_wp2_with fail
  refine bodyPost_ret (v := .agg #[.int .i64 0, .float .f64 4621819117588971520, .slice (some ⟨w.heap.size + 1 + 1, 0, none⟩) 1 1, .slice (some ⟨w.heap.size + 1 + 1 + 1, 0, none⟩) 1 1, .slice (some ⟨w.heap.size + 1 + 1 + 1 + 1 + 1, 0, none⟩) 1 1, .slice (some ⟨w.heap.size + 1 + 1 + 1 + 1 + 1 + 1, 0, none⟩) 1 1]) (by simp [results, Try.results75, go_sem]) rfl ?_
  have hb := allocs_below [(#[.int .i64 0, .float .f64 4621819117588971520, .slice (some ⟨w.heap.size + 1 + 1, 0, none⟩) 1 1, .slice (some ⟨w.heap.size + 1 + 1 + 1, 0, none⟩) 1 1, .slice (some ⟨w.heap.size + 1 + 1 + 1 + 1 + 1, 0, none⟩) 1 1, .slice (some ⟨w.heap.size + 1 + 1 + 1 + 1 + 1 + 1, 0, none⟩) 1 1], 58), (#[.int .i64 13, .int .i64 4, .int .i64 5, .int .i64 0, .int .i64 3, .int .i64 4, .int .i64 4, .int .i64 0, .int .i64 14, .int .i64 5, .int .i64 4, .int .i64 0, .int .i64 12, .int .i64 1, .int .i64 5, .int .i64 4], 142), (#[.float .f64 4602678819172646912], 27), (#[.slice (some ⟨w.heap.size + 1, 0, none⟩) 4 4], 118), (#[.int .i64 1], 3), (#[.int .i64 0, .slice (some ⟨w.heap.size + 1 + 1 + 1 + 1, 0, none⟩) 1 1], 120), (#[.float .f64 4607182418800017408, .int .i64 0, .int .i64 2], 125)] w
  have hB := allocs_blk [(#[.int .i64 0, .float .f64 4621819117588971520, .slice (some ⟨w.heap.size + 1 + 1, 0, none⟩) 1 1, .slice (some ⟨w.heap.size + 1 + 1 + 1, 0, none⟩) 1 1, .slice (some ⟨w.heap.size + 1 + 1 + 1 + 1 + 1, 0, none⟩) 1 1, .slice (some ⟨w.heap.size + 1 + 1 + 1 + 1 + 1 + 1, 0, none⟩) 1 1], 58), (#[.int .i64 13, .int .i64 4, .int .i64 5, .int .i64 0, .int .i64 3, .int .i64 4, .int .i64 4, .int .i64 0, .int .i64 14, .int .i64 5, .int .i64 4, .int .i64 0, .int .i64 12, .int .i64 1, .int .i64 5, .int .i64 4], 142), (#[.float .f64 4602678819172646912], 27), (#[.slice (some ⟨w.heap.size + 1, 0, none⟩) 4 4], 118), (#[.int .i64 1], 3), (#[.int .i64 0, .slice (some ⟨w.heap.size + 1 + 1 + 1 + 1, 0, none⟩) 1 1], 120), (#[.float .f64 4607182418800017408, .int .i64 0, .int .i64 2], 125)] w
  exact HP.out _ (sm_at (hB 1 _ rfl) (hB 2 _ rfl) (hB 3 _ rfl) (hB 4 _ rfl) (hB 5 _ rfl) (hB 6 _ rfl)) hb
end Go.Proofs.Ytpfcmfannkbipaa
end

section
set_option linter.unusedVariables false
set_option linter.unusedSimpArgs false
set_option maxRecDepth 20000
namespace Go.Proofs.Ytpfcmfannkbipaa
open Go.RowKit Go.Deep

attribute [local go_sem] run_store_float
/-- An event's cells at a place. -/
def EvC (W : World) (g : Nat) (x : Ev) : Prop := W.cell? ⟨g, 0, none⟩ = some (.float .f64 x.1) ∧ W.cell? ⟨g, 1, none⟩ = some (.int .i64 x.2.1) ∧ W.cell? ⟨g, 2, none⟩ = some (.int .i64 x.2.2.1) ∧ W.cell? ⟨g, 3, none⟩ = some (.int .i64 x.2.2.2.1) ∧ W.cell? ⟨g, 4, none⟩ = some (.int .i64 x.2.2.2.2)
theorem EvC.keep {W W' : World} {g : Nat} {x : Ev} (h : EvC W g x) (hb : Below W.heap.size W W') : EvC W' g x := ⟨keepc hb h.1, keepc hb h.2.1, keepc hb h.2.2.1, keepc hb h.2.2.2.1, keepc hb h.2.2.2.2⟩
theorem own_one_ev {W : World} {B : Nat} {v : Value} {x : Ev} (h : OwnR 37 5 encEv W B v [x]) : ∃ g c, v = .slice (some ⟨g, 0, none⟩) 1 c ∧ 1 ≤ c ∧ c ≤ 9223372036854775807 ∧ EvC W g x := by
  obtain ⟨s, rfl, hL, hc, hf⟩ := h.form
  obtain ⟨g, hA, _, _, hcell⟩ := hf (by simp)
  obtain ⟨A, c, L⟩ := s
  simp only at hL hA hc
  subst hL hA
  exact ⟨g, c, rfl, hc.1, hc.2, hcell 0 _ rfl, hcell 1 _ rfl, hcell 2 _ rfl, hcell 3 _ rfl, hcell 4 _ rfl⟩
theorem own_one_int {W : World} {B : Nat} {v : Value} {x : Int} (h : OwnR 3 1 encInt W B v [x]) : ∃ g c, v = .slice (some ⟨g, 0, none⟩) 1 c ∧ 1 ≤ c ∧ c ≤ 9223372036854775807 ∧ W.cell? ⟨g, 0, none⟩ = some (.int .i64 x) := by
  obtain ⟨s, rfl, hL, hc, hf⟩ := h.form
  obtain ⟨g, hA, _, _, hcell⟩ := hf (by simp)
  obtain ⟨A, c, L⟩ := s
  simp only at hL hA hc
  subst hL hA
  exact ⟨g, c, rfl, hc.1, hc.2, hcell 0 _ rfl⟩
def SmB (w : World) (e : Ending) (w' : World) : Prop := ∃ g c : Nat, e = .returned (.tuple #[.slice (some ⟨g, 0, none⟩) 1 c, .int .i64 0]) ∧ 1 ≤ c ∧ c ≤ 9223372036854775807 ∧ EvC w' g smE ∧ Below w.heap.size w w'
theorem sm_begin (g : Nat) (w : World) (h : (smM g).At w) : Calls Try.prog 50 #[(smM g).val] w (SmB w) := by
  refine (begin8_any _ w h).mono ?_
  rintro e w' ⟨q, rfl, hL, ho, hb⟩
  rw [sm_beg] at hL
  rw [hL] at ho
  obtain ⟨g', c, hv, h1, h2, h3⟩ := own_one_ev ho
  exact ⟨g', c, by rw [hv, show chkE (smM g) = 0 from if_pos (sm_chk g)], h1, h2, h3, hb⟩
def SmF (w : World) (e : Ending) (w' : World) : Prop := ∃ g c : Nat, e = .returned (.tuple #[.agg #[.slice (some ⟨g, 0, none⟩) 1 c, .int .i64 0, .int .i64 0], .int .i64 0]) ∧ 1 ≤ c ∧ c ≤ 9223372036854775807 ∧ w'.cell? ⟨g, 0, none⟩ = some (.int .i64 1) ∧ Below w.heap.size w w'
theorem sm_fst (g : Nat) (w : World) (h : (smM g).At w) : Calls Try.prog 51 #[(smM g).val, .int .i64 0] w (SmF w) := by
  refine (first_any _ 0 w h).mono ?_
  rintro e w' ⟨A, k, rfl, ho, hb⟩
  rw [(sm_first g).2] at ho ⊢
  obtain ⟨g', c, hv, h1, h2, h3⟩ := own_one_int ho
  exact ⟨g', c, by simp only at hv ⊢; rw [hv, (sm_first g).1], h1, h2, h3, hb⟩
def SmH (w : World) (e : Ending) (w' : World) : Prop := ∃ g c g' c' : Nat, e = .returned (.tuple #[.agg #[.slice (some ⟨g, 0, none⟩) 1 c, .int .i64 1, .int .i64 0], .slice (some ⟨g', 0, none⟩) 1 c', .int .i64 0, .int .i64 0]) ∧
  (1 ≤ c ∧ c ≤ 9223372036854775807 ∧ w.heap.size ≤ g ∧ w'.cell? ⟨g, 0, none⟩ = some (.int .i64 3)) ∧ (1 ≤ c' ∧ c' ≤ 9223372036854775807 ∧ w.heap.size ≤ g' ∧ EvC w' g' smS) ∧ Below w.heap.size w w'
theorem sm_han (g gs cs : Nat) (w : World) (h : (smM g).At w) (h1 : 1 ≤ cs) (h2 : cs ≤ 9223372036854775807) (hc : w.cell? ⟨gs, 0, none⟩ = some (.int .i64 1)) :
    Calls Try.prog 41 #[(smM g).val, .int .i64 0, .agg #[.slice (some ⟨gs, 0, none⟩) 1 cs, .int .i64 0, .int .i64 0], .agg #[.float .f64 4607182418800017408, .int .i64 (-1), .int .i64 0, .int .i64 0, .int .i64 2]] w (SmH w) := by
  have hi : ∀ n : Int, -1 ≤ n → n ≤ 100 → I64 n := fun n h1 h2 => ⟨by omega, by omega⟩
  have hs : St.At w ⟨⟨some ⟨gs, 0, none⟩, cs, [1]⟩, 0, 0⟩ := by
    refine ⟨⟨fun i x hx => ⟨_, rfl, ?_⟩, h1, h2⟩, hi 0 (by decide) (by decide), hi 0 (by decide) (by decide)⟩
    rcases i with _ | i
    · have e : 1 = x := by simpa using hx
      subst e
      rw [add_lit]
      exact ⟨by simpa using hc, hi 1 (by decide) (by decide)⟩
    · simp at hx
  refine (handle_any (smM g) 0 ⟨⟨some ⟨gs, 0, none⟩, cs, [1]⟩, 0, 0⟩ smE w h hs ⟨(by decide : 4607182418800017408 < 18446744073709551616), hi (-1) (by decide) (by decide), hi 0 (by decide) (by decide), hi 0 (by decide) (by decide), hi 2 (by decide) (by decide)⟩).mono ?_
  rintro e w' ⟨c, q, rfl, hpl, hqL, ho1, ho2, hb⟩
  simp only [St.pl] at hpl hqL
  rw [show ((⟨⟨some ⟨gs, 0, none⟩, cs, [1]⟩, 0, 0⟩ : St).pl) = ([1], 0, 0) from rfl, sm_may, sm_handle]
  rw [sm_handle] at hpl hqL
  obtain ⟨wd, a, b⟩ := c
  simp only [Prod.mk.injEq] at hpl
  obtain ⟨p1, rfl, rfl⟩ := hpl
  simp only at hqL p1
  rw [p1] at ho1
  rw [hqL] at ho2
  have hk1 := fun k hk => ho1.base k hk
  have hk2 := fun k hk => ho2.base k hk
  obtain ⟨g1, c1, hv1, a1, a2, a3⟩ := own_one_int ho1
  obtain ⟨g2, c2, hv2, b1, b2, b3⟩ := own_one_ev ho2
  refine ⟨g1, c1, g2, c2, ?_, ⟨a1, a2, hk1 g1 (by rw [hv1]; rfl), a3⟩, ⟨b1, b2, hk2 g2 (by rw [hv2]; rfl), b3⟩, hb⟩
  simp only [St.val, hv1, hv2]
end Go.Proofs.Ytpfcmfannkbipaa
end

section
set_option linter.unusedVariables false
set_option linter.unusedSimpArgs false
set_option maxRecDepth 20000
namespace Go.Proofs.Ytpfcmfannkbipaa
open Go.RowKit Go.Deep

attribute [local go_sem] run_store_float
def AwC (w : World) (x y z u : Value) (W : World) : Prop := ∃ gx g c g' c' : Nat, x = .pointer (some ⟨gx, 0, none⟩) ∧ y = .slice (some ⟨g', 0, none⟩) 1 c' ∧ z = .int .i64 0 ∧ u = .int .i64 0 ∧
  Blk W gx 61 #[.slice (some ⟨g, 0, none⟩) 1 c, .int .i64 1, .int .i64 0] ∧ (1 ≤ c ∧ c ≤ 9223372036854775807 ∧ W.cell? ⟨g, 0, none⟩ = some (.int .i64 3)) ∧ (1 ≤ c' ∧ c' ≤ 9223372036854775807 ∧ EvC W g' smS) ∧ Below w.heap.size w W
theorem awC_late {w wR : World} {g c g' c' : Nat} (hb : Below w.heap.size w wR) (h1 : 1 ≤ c ∧ c ≤ 9223372036854775807 ∧ wR.cell? ⟨g, 0, none⟩ = some (.int .i64 3)) (h2 : 1 ≤ c' ∧ c' ≤ 9223372036854775807 ∧ EvC wR g' smS) :
    AwC w (.pointer (some ⟨wR.heap.size, 0, none⟩)) (.slice (some ⟨g', 0, none⟩) 1 c') (.int .i64 0) (.int .i64 0) (wR.alloc (.cells #[.slice (some ⟨g, 0, none⟩) 1 c, .int .i64 1, .int .i64 0] 61)) := by
  have ha := (Below.refl wR.heap.size wR).alloc (Nat.le_refl _) (.cells #[.slice (some ⟨g, 0, none⟩) 1 c, .int .i64 1, .int .i64 0] 61)
  exact ⟨_, g, c, g', c', rfl, rfl, rfl, rfl, Blk.new _ _ _, ⟨h1.1, h1.2.1, keepc ha h1.2.2⟩, ⟨h2.1, h2.2.1, h2.2.2.keep ha⟩, below_after hb ha⟩
theorem awC_first {w wR : World} {gx g c g' c' : Nat} {cs : Array Value} (hcs : cs.size = 3) (hX : Blk wR gx 61 cs) (hg : w.heap.size ≤ gx) (hb : Below w.heap.size w wR) (h1 : 1 ≤ c ∧ c ≤ 9223372036854775807 ∧ wR.cell? ⟨g, 0, none⟩ = some (.int .i64 3)) (h2 : 1 ≤ c' ∧ c' ≤ 9223372036854775807 ∧ EvC wR g' smS) (n1 : gx ≠ g) (n2 : gx ≠ g') :
    AwC w (.pointer (some ⟨gx, 0, none⟩)) (.slice (some ⟨g', 0, none⟩) 1 c') (.int .i64 0) (.int .i64 0) (((wR.setCell ⟨gx, 0, none⟩ (.slice (some ⟨g, 0, none⟩) 1 c)).setCell ⟨gx, 1, none⟩ (.int .i64 1)).setCell ⟨gx, 2, none⟩ (.int .i64 0)) := by
  refine ⟨gx, g, c, g', c', rfl, rfl, rfl, rfl, ?_, ⟨h1.1, h1.2.1, (far3 n1).trans h1.2.2⟩, ⟨h2.1, h2.2.1, ?_⟩, ((hb.setCell hg _).setCell hg _).setCell hg _⟩
  · have := ((hX.set_ 0 (.slice (some ⟨g, 0, none⟩) 1 c)).set_ 1 (.int .i64 1)).set_ 2 (.int .i64 0)
    obtain ⟨l⟩ := cs
    match l, hcs with
    | [c0, c1, c2], _ => simpa using this
  · obtain ⟨e0, e1, e2, e3, e4⟩ := h2.2.2
    exact ⟨(far3 n2).trans e0, (far3 n2).trans e1, (far3 n2).trans e2, (far3 n2).trans e3, (far3 n2).trans e4⟩
set_option maxHeartbeats 4000000 in
theorem awake08 (w : World) : Calls Try.prog 40 #[] w fun e w' => e = .returned (.bool true) ∧ Below w.heap.size w w' := by
  go_enter Try.func40, Try.ntmps40
  go_wp2_with fail
  refine (small_any _).mono ?_
  rintro e w1 ⟨rfl, hA1, hb1⟩
  go_wp2_with fail
  refine (sm_begin _ _ hA1).mono ?_
  rintro e w2 ⟨gl, cl, rfl, l1, l2, l3, hb2⟩
  clear hA1
  go_wp2_with fail
  refine (small_any _).mono ?_
  rintro e w3 ⟨rfl, hA3, hb3⟩
  go_wp2_with fail
  refine (sm_fst _ _ hA3).mono ?_
  rintro e w4 ⟨gs, cs, rfl, s1, s2, s3, hb4⟩
  clear hA3
  replace l3 := (l3.keep hb3).keep hb4
  have hb := below_after (below_after (below_after hb1 hb2) hb3) hb4
  clear hb1 hb2 hb3 hb4
  have ha := (Below.refl w4.heap.size w4).alloc (Nat.le_refl _) (.cells #[.slice (some ⟨gs, 0, none⟩) 1 cs, .int .i64 0, .int .i64 0] 61)
  have hX := Blk.new w4 61 #[.slice (some ⟨gs, 0, none⟩) 1 cs, .int .i64 0, .int .i64 0]
  replace l3 := l3.keep ha
  replace s3 := keepc ha s3
  replace hb := below_after hb ha
  clear ha
  go_upto_region 5 with fail
  generalize w4.alloc _ = W at *
  generalize w4.heap.size = gx0 at *
  have hD : Below W.heap.size W W.drew := (Below.refl _ _).drew
  obtain ⟨l30, l31, l32, l33, l34⟩ := l3
  have HSS : Hid (∀ W', Below W.heap.size W W' → (W'.cell? ⟨gx0, 0, none⟩ = some (.slice (some ⟨gs, 0, none⟩) 1 cs) ∧ W'.cell? ⟨gx0, 1, none⟩ = some (.int .i64 0) ∧ W'.cell? ⟨gx0, 2, none⟩ = some (.int .i64 0) ∧
      W'.cell? ⟨gl, 0, none⟩ = some (.float .f64 4607182418800017408) ∧ W'.cell? ⟨gl, 1, none⟩ = some (.int .i64 (-1)) ∧ W'.cell? ⟨gl, 2, none⟩ = some (.int .i64 0) ∧ W'.cell? ⟨gl, 3, none⟩ = some (.int .i64 0) ∧ W'.cell? ⟨gl, 4, none⟩ = some (.int .i64 2) ∧ W'.cell? ⟨gs, 0, none⟩ = some (.int .i64 1) ∧ Below W.heap.size W W')) :=
    hide fun W' h => ⟨keepc h (hX.cell 0), keepc h (hX.cell 1), keepc h (hX.cell 2), keepc h l30, keepc h l31, keepc h l32, keepc h l33, keepc h l34, keepc h s3, h⟩
  have HB := hide hb
  have HW := hide hb.size
  clear hb hX l30 l31 l32 l33 l34 s3
  obtain ⟨c0, c1, c2, c3, c4, c5, c6, c7, c8, _⟩ := HSS.out W (Below.refl _ _)
  go_cut [5, 6, 7, 8] (fun x y z u wx => AwC w x y z u wx)
  case first =>
    go_region_held3 (fun W' => W'.cell? ⟨gx0, 0, none⟩ = some (.slice (some ⟨gs, 0, none⟩) 1 cs) ∧ W'.cell? ⟨gx0, 1, none⟩ = some (.int .i64 0) ∧ W'.cell? ⟨gx0, 2, none⟩ = some (.int .i64 0) ∧
      W'.cell? ⟨gl, 0, none⟩ = some (.float .f64 4607182418800017408) ∧ W'.cell? ⟨gl, 1, none⟩ = some (.int .i64 (-1)) ∧ W'.cell? ⟨gl, 2, none⟩ = some (.int .i64 0) ∧ W'.cell? ⟨gl, 3, none⟩ = some (.int .i64 0) ∧ W'.cell? ⟨gl, 4, none⟩ = some (.int .i64 2) ∧ W'.cell? ⟨gs, 0, none⟩ = some (.int .i64 1) ∧ Below W.heap.size W W')
      (first
        | exact HSS.out _ hD
        | (go_split_ands; exact HSS.out _ (below_after (by assumption) hbR))
        | (go_split_ands; exact HSS.out _ (below_after (by assumption) hbS))
        | (go_split_ands; with_reducible exact HSS.out _ (Below.alloc (by assumption) (Below.size (by assumption)) _))
        | (go_split_ands; with_reducible exact HSS.out _ (Below.swap (by assumption) hsR hsR))
        | (go_split_ands; exact HSS.out _ (Below.setCell (Below.setCell (Below.setCell (by assumption) (by first | exact hbS.size | simp) _) (by first | exact hbS.size | simp) _) (by first | exact hbS.size | simp) _)))
      (first
        | (go_at_call 75; go_split_ands; refine (small_any _).mono ?_; rintro e wS ⟨rfl, hAS, hbS⟩; try (have hzz : (World.drew (W.alloc (.cells #[.slice none 0 0, .int .i64 0, .int .i64 0] 61))).heap.size = W.heap.size + 1 := Array.size_push ..; rw [hzz] at hAS; clear hzz); have hsS := Nat.le_trans (Below.size (by assumption : Below W.heap.size W _)) hbS.size; try (have hG : Blk wS W.heap.size 61 #[.slice none 0 0, .int .i64 0, .int .i64 0] := Blk.below (by first | exact (Blk.new W _ _).drew | exact Blk.new W.drew _ _) hbS (by simp)))
        | (go_at_call 41; go_split_ands; refine (sm_han _ _ _ _ (by first | exact hAS | exact hAS.below ((Below.refl _ _).alloc (Nat.le_refl _) _)) s1 s2 (by assumption)).mono ?_; rintro e wR ⟨rg, rc, rg', rc', rfl, hr1, hr2, hbR⟩; replace hr1 := hide hr1; replace hr2 := hide hr2; have hWR := below_after HB.out (below_after (by assumption : Below W.heap.size W _) hbR); have hsR := Nat.le_trans (Below.size (by assumption : Below W.heap.size W _)) hbR.size;
            try (have hG2 := Blk.below (by first | assumption | exact Blk.new wS 61 #[.slice none 0 0, .int .i64 0, .int .i64 0]) hbR (by first | exact Blk.lt (by assumption) | simp); have g0 := hG2.cell 0; have g1 := hG2.cell 1; have g2 := hG2.cell 2; have u0 := hG2.frozen 0; have u1 := hG2.frozen 1; have u2 := hG2.frozen 2; simp only [List.getElem?_toArray, List.getElem?_cons_zero, List.getElem?_cons_succ] at g0 g1 g2)))
    all_goals go_split_ands
    all_goals (try go_wp2_with fail)
    all_goals go_meet
    all_goals have hWS := HW.out
    all_goals first
      | with_reducible exact awC_late hWR ⟨hr1.out.1, hr1.out.2.1, hr1.out.2.2.2⟩ ⟨hr2.out.1, hr2.out.2.1, hr2.out.2.2.2⟩
      | (have hzz : (wS.alloc (.cells #[.slice none 0 0, .int .i64 0, .int .i64 0] 61)).heap.size = wS.heap.size + 1 := Array.size_push ..
         have hzS : W.heap.size ≤ wS.heap.size := hbS.size
         have k1 := hr1.out.2.2.1
         have k2 := hr2.out.2.2.1
         rw [hzz] at k1 k2
         with_reducible exact awC_first rfl (gx := wS.heap.size) hG2 (by omega) hWR ⟨hr1.out.1, hr1.out.2.1, hr1.out.2.2.2⟩ ⟨hr2.out.1, hr2.out.2.1, hr2.out.2.2.2⟩ (by omega) (by omega))
      | (have hzz : (World.drew (W.alloc (.cells #[.slice none 0 0, .int .i64 0, .int .i64 0] 61))).heap.size = W.heap.size + 1 := Array.size_push ..
         have k1 := hr1.out.2.2.1
         have k2 := hr2.out.2.2.1
         have hzS := hbS.size
         rw [hzz] at hzS
         with_reducible exact awC_first rfl (gx := W.heap.size) hG2 (by omega) hWR ⟨hr1.out.1, hr1.out.2.1, hr1.out.2.2.2⟩ ⟨hr2.out.1, hr2.out.2.1, hr2.out.2.2.2⟩ (by omega) (by omega))
  case rest =>
    obtain ⟨gx, g, c, g', c', rfl, rfl, rfl, rfl, hX, ⟨a1, a2, a3⟩, ⟨b1, b2, b3⟩, hb⟩ := hcut
    obtain ⟨e0, e1, e2, e3, e4⟩ := b3
    have x0 := hX.cell 0
    have x1 := hX.cell 1
    have x2 := hX.cell 2
    simp only [List.getElem?_toArray, List.getElem?_cons_zero, List.getElem?_cons_succ] at x0 x1 x2
    have ho := fo_self 4609434218613702656 (by decide)
    have HE := hide hb
    clear hX hb HB HW HSS hD c0 c1 c2 c3 c4 c5 c6 c7 c8
    simp only [smS] at e0 e1 e2 e3 e4
    go_wp2_with fail
    go_ret
    exact ⟨rfl, HE.out⟩
end Go.Proofs.Ytpfcmfannkbipaa
end
