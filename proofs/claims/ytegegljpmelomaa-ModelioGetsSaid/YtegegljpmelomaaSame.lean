/- The walks of model.Same: when two models are the same. No condition. -/
import Derived.Test.YtegegljpmelomaaChk
import Derived.Laws.StructEq
set_option linter.unusedVariables false
set_option maxRecDepth 20000
namespace Go.Proofs.Ytegegljpmelomaa
open Go.RowKit Go.Deep

attribute [local go_sem] run_store_float
/-- The same float? -/
def fsame (a b : Nat) : Bool := decide (a = b) || (decide (isNan a) && decide (isNan b))
def eqL {α β : Type} (f : α → β → Bool) (a : List α) (b : List β) : Bool := decide (a.length = b.length) && (a.zip b).all (fun p => f p.1 p.2)
theorem eqL_len {α β : Type} {f : α → β → Bool} {a : List α} {b : List β} (h : a.length ≠ b.length) : eqL f a b = false := by
  unfold eqL
  rw [decide_eq_false h]
  rfl
theorem zip_at {α β : Type} {a : List α} {b : List β} {k : Nat} {x : α} {y : β} (hx : a[k]? = some x) (hy : b[k]? = some y) : (a.zip b)[k]? = some (x, y) := by
  rw [List.getElem?_zip_eq_some]
  exact ⟨hx, hy⟩
theorem eqL_no {α β : Type} {f : α → β → Bool} {a : List α} {b : List β} {k : Nat} {x : α} {y : β} (hx : a[k]? = some x) (hy : b[k]? = some y) (hf : f x y = false) : eqL f a b = false := by
  unfold eqL
  rw [all_fail (fun p : α × β => f p.1 p.2) (a.zip b) k (x, y) (zip_at hx hy) hf]
  simp
theorem eqL_yes {α β : Type} {f : α → β → Bool} {a : List α} {b : List β} (h : a.length = b.length) (hf : ((a.zip b).take a.length).all (fun p => f p.1 p.2) = true) : eqL f a b = true := by
  unfold eqL
  rw [decide_eq_true h]
  rw [List.take_of_length_le (by rw [List.length_zip]; omega)] at hf
  rw [hf]
  rfl
theorem eqL_step {α β : Type} {f : α → β → Bool} {a : List α} {b : List β} {k : Nat} {x : α} {y : β} (hx : a[k]? = some x) (hy : b[k]? = some y) (h : ((a.zip b).take k).all (fun p => f p.1 p.2) = true) (hf : f x y = true) : ((a.zip b).take (k + 1)).all (fun p => f p.1 p.2) = true := by
  rw [all_take_succ _ _ k (x, y) (zip_at hx hy), h]
  exact hf
theorem at_len {α β : Type} {a : List α} {b : List β} (h : a.length = b.length) {k : Nat} (hk : k < a.length) : ∃ x y, a[k]? = some x ∧ b[k]? = some y :=
  ⟨_, _, List.getElem?_eq_getElem hk, List.getElem?_eq_getElem (h ▸ hk)⟩
theorem fsame_eq (a : Nat) : fsame a a = true := by simp [fsame]
theorem fsame_ne {a b : Nat} (h : ¬ a = b) : fsame a b = (decide (isNan a) && decide (isNan b)) := by
  unfold fsame
  rw [decide_eq_false h]
  rfl
theorem float_any (a b : Nat) (w : World) : Calls Try.prog 35 #[.float .f64 a, .float .f64 b] w fun e w' => e = .returned (.bool (fsame a b)) ∧ w = w' := by
  have fb := f64bits_run
  by_cases h : a = b
  · subst h
    rw [fsame_eq]
    go_enter Try.func35, Try.ntmps35
    go_wp2_with fail
    go_ret
    exact ⟨rfl, rfl⟩
  · have hne : ((a : Int) == (b : Int)) = false := by rw [beq_eq_false_iff_ne]; omega
    rw [fsame_ne h]
    by_cases ha : isNan a
    · rw [decide_eq_true ha]
      go_enter Try.func35, Try.ntmps35
      go_wp2_with fail
      refine (isnan_any _ _).mono ?_
      rw [decide_eq_true ha]
      rintro e w' ⟨rfl, rfl⟩
      go_wp2_with fail
      refine (isnan_any _ _).mono ?_
      rintro e w' ⟨rfl, rfl⟩
      go_wp2_with fail
      go_ret
      exact ⟨rfl, rfl⟩
    · rw [decide_eq_false ha]
      go_enter Try.func35, Try.ntmps35
      go_wp2_with fail
      refine (isnan_any _ _).mono ?_
      rw [decide_eq_false ha]
      rintro e w' ⟨rfl, rfl⟩
      go_wp2_with fail
      go_ret
      exact ⟨rfl, rfl⟩
theorem rfloat_any (a b : Nat) (w : World) : Calls Try.prog 43 #[.float .f64 a, .float .f64 b] w fun e w' => e = .returned (.bool (fsame a b)) ∧ w = w' := by
  have fb := f64bits_run
  have hne : ((none : Option Ordering) != some .eq) = true := rfl
  have hee : ((some .eq : Option Ordering) != some .eq) = false := rfl
  by_cases ha : isNan a
  · have oa := fo_nan a a (.inl ha)
    by_cases hb : isNan b
    · have ob := fo_nan b b (.inl hb)
      have HF := hide (show fsame a b = true by simp [fsame, ha, hb])
      clear ha hb
      go_enter Try.func43, Try.ntmps43
      go_wp2_with fail
      go_ret
      exact ⟨ret_bool HF.out.symm, rfl⟩
    · have ob := fo_self b hb
      have HF := hide (show fsame a b = false by
        rw [fsame_ne (fun e => hb (by rw [← e]; exact ha))]
        simp [hb])
      clear ha hb
      go_enter Try.func43, Try.ntmps43
      go_wp2_with fail
      go_ret
      exact ⟨ret_bool HF.out.symm, rfl⟩
  · have oa := fo_self a ha
    by_cases hb : isNan b
    · have ob := fo_nan b b (.inl hb)
      have HF := hide (show fsame a b = false by
        rw [fsame_ne (fun e => ha (by rw [e]; exact hb))]
        simp [ha])
      clear ha hb
      go_enter Try.func43, Try.ntmps43
      go_wp2_with fail
      go_ret
      exact ⟨ret_bool HF.out.symm, rfl⟩
    · have ob := fo_self b hb
      have HF := hide (show fsame a b = decide (a = b) by simp [fsame, ha])
      clear ha hb
      go_enter Try.func43, Try.ntmps43
      go_wp2_with fail
      go_ret
      exact ⟨ret_bool (by rw [HF.out, Bool.eq_iff_iff]; simp; omega), rfl⟩

/-! Rows of floats. -/
def initSame (x y : Init3) : Bool := fsame x.1 y.1 && decide (x.2.1 = y.2.1) && decide (x.2.2 = y.2.2)
def EqRel {α β : Type} (w : World) (f : α → β → Bool) (a : List α) (b : List β) (i : Value) (wr : World) : Prop :=
  ∃ k : Nat, k ≤ a.length ∧ i = .int .i64 k ∧ ((a.zip b).take k).all (fun p => f p.1 p.2) = true ∧ Below w.heap.size w wr
theorem eqf_fl (s t : Sl Nat) (w : World) (hs : s.At FlAt 1 w) (ht : t.At FlAt 1 w) : Calls Try.prog 36 #[s.val, t.val, .func (.func 35) #[] #[]] w fun e w' => e = .returned (.bool (eqL fsame s.L t.L)) ∧ Below w.heap.size w w' := by
  obtain ⟨A, c, L⟩ := s
  obtain ⟨A', c', L'⟩ := t
  obtain ⟨hr, hn, hc⟩ := hs
  obtain ⟨hr', hn', hc'⟩ := ht
  simp only [Sl.val] at *
  by_cases hlen : L.length = L'.length
  · have HL := hide hlen
    rw [← hlen] at hn'
    rw [← hlen]
    clear hlen
    go_enter Try.func36, Try.ntmps36
    go_wp2_with fail
    go_loopw [17] (fun i wr => EqRel w fsame L L' i wr) (fun i _ => L.length - (intOf i).toNat)
    case atStart => exact ⟨0, Nat.zero_le _, rfl, by simp, Below.refl _ _⟩
    case round =>
      obtain ⟨k, hk, rfl, hall, hb⟩ := hrel
      by_cases hlt : k < L.length
      · obtain ⟨x, y, hx, hy⟩ := at_len HL.out hlt
        obtain ⟨a, rfl, h0, _⟩ := (hr.below FlAt.keeps hb) k _ hx
        obtain ⟨a', rfl, g0, _⟩ := (hr'.below FlAt.keeps hb) k _ hy
        have HY := hide (fun h => eqL_step (f := fsame) hx hy hall h)
        have HN := hide (fun h => eqL_no (f := fsame) hx hy h)
        clear hall hx hy
        rw [Nat.mul_one] at h0 g0
        cases hq : fsame x y
        · have HQ := hide hq
          go_wp2_with fail
          refine (float_any _ _ _).mono ?_
          rw [hq]
          clear hq
          rintro e w' ⟨rfl, rfl⟩
          go_wp2_with fail
          go_ret
          exact ⟨ret_bool (HN.out HQ.out).symm, hb⟩
        · have HQ := hide hq
          go_wp2_with fail
          refine (float_any _ _ _).mono ?_
          rw [hq]
          clear hq
          rintro e w' ⟨rfl, rfl⟩
          go_wp2_with fail
          go_roundw
          case rel => exact ⟨k + 1, by omega, by go_num, HY.out HQ.out, hb⟩
          case measure => simp [intOf]; omega
      · obtain rfl : k = L.length := by omega
        have HF := hide (eqL_yes (f := fsame) HL.out hall)
        clear hall
        go_wp2_with fail
        go_ret
        exact ⟨ret_bool HF.out.symm, hb⟩
  · have hne : ((L.length : Int) == (L'.length : Int)) = false := by rw [beq_eq_false_iff_ne]; omega
    have hne2 : ((L.length : Int) != (L'.length : Int)) = true := by rw [bne_iff_ne]; omega
    have HF := hide (eqL_len (f := fsame) hlen)
    go_enter Try.func36, Try.ntmps36
    go_wp2_with fail
    go_ret
    exact ⟨ret_bool HF.out.symm, Below.refl _ _⟩

def progSame (s t : Sl Ins4) : Bool := eqL (fun x y => decide (x = y)) s.L t.L
def lpSame (x y : LP2) : Bool := decide (x.1 = y.1) && eqL (fun a b => decide (a = b)) x.2.L y.2.L
def insV (x : Ins4) : Value := .agg #[.int .i64 x.1, .int .i64 x.2.1, .int .i64 x.2.2.1, .int .i64 x.2.2.2]
theorem ins_beq (x y : Ins4) : decide (x = y) = (x.1 == y.1 && (x.2.1 == y.2.1 && (x.2.2.1 == y.2.2.1 && x.2.2.2 == y.2.2.2))) := by
  obtain ⟨a, b, c, d⟩ := x
  obtain ⟨a', b', c', d'⟩ := y
  rw [Bool.eq_iff_iff]
  simp [Prod.mk.injEq]
theorem ins_neq_run (x y : Ins4) (w : World) : (binOp .neq 34 (.agg #[.int .i64 x.1, .int .i64 x.2.1, .int .i64 x.2.2.1, .int .i64 x.2.2.2]) (.agg #[.int .i64 y.1, .int .i64 y.2.1, .int .i64 y.2.2.1, .int .i64 y.2.2.2])).run Try.prog w = .ok (.bool (!decide (x = y))) w := by
  rw [ins_beq]
  cases h1 : x.1 == y.1 <;> cases h2 : x.2.1 == y.2.1 <;> cases h3 : x.2.2.1 == y.2.2.1 <;> cases h4 : x.2.2.2 == y.2.2.2
  all_goals
    go_simp
    try rfl
theorem eqins_any (s t : Sl Ins4) (w : World) (hs : s.At InsAt 4 w) (ht : t.At InsAt 4 w) : Calls Try.prog 40 #[s.val, t.val] w fun e w' => e = .returned (.bool (eqL (fun x y => decide (x = y)) s.L t.L)) ∧ Below w.heap.size w w' := by
  obtain ⟨A, c, L⟩ := s
  obtain ⟨A', c', L'⟩ := t
  obtain ⟨hr, hn, hc⟩ := hs
  obtain ⟨hr', hn', hc'⟩ := ht
  simp only [Sl.val] at *
  by_cases hlen : L.length = L'.length
  · have HL := hide hlen
    rw [← hlen] at hn'
    rw [← hlen]
    clear hlen
    go_enter Try.func40, Try.ntmps40
    go_wp2_with fail
    go_loopw [13] (fun i wr => EqRel w (fun x y => decide (x = y)) L L' i wr) (fun i _ => L.length - (intOf i).toNat)
    case atStart => exact ⟨0, Nat.zero_le _, rfl, by simp, Below.refl _ _⟩
    case round =>
      obtain ⟨k, hk, rfl, hall, hb⟩ := hrel
      by_cases hlt : k < L.length
      · obtain ⟨x, y, hx, hy⟩ := at_len HL.out hlt
        obtain ⟨a, rfl, h0, h1, h2, h3, _⟩ := (hr.below InsAt.keeps hb) k _ hx
        obtain ⟨a', rfl, g0, g1, g2, g3, _⟩ := (hr'.below InsAt.keeps hb) k _ hy
        have HY := hide (fun h => eqL_step (f := (fun x y => decide (x = y))) hx hy hall h)
        have HN := hide (fun h => eqL_no (f := (fun x y => decide (x = y))) hx hy h)
        clear hall hx hy
        by_cases hq : x = y
        · subst hq
          have HQ := hide (show (fun x y : Ins4 => decide (x = y)) x x = true by simp)
          have hne := fun w => (ins_neq_run x x w).trans (by simp : _ = Result.ok (Value.bool false) w)
          go_wp2_with fail
          go_quiet (fail)
          go_wp2_with fail
          go_roundw
          case rel => exact ⟨k + 1, by omega, by go_num, HY.out HQ.out, below_drewN hb _⟩
          case measure => simp [intOf]; omega
        · have HQ := hide (show (fun x y : Ins4 => decide (x = y)) x y = false by simp [hq])
          have hne := fun w => (ins_neq_run x y w).trans (by rw [decide_eq_false hq]; rfl : _ = Result.ok (Value.bool true) w)
          clear hq
          go_wp2_with fail
          go_quiet (fail)
          go_wp2_with fail
          go_ret
          exact ⟨ret_bool (HN.out HQ.out).symm, below_drewN hb _⟩
      · obtain rfl : k = L.length := by omega
        have HF := hide (eqL_yes (f := (fun x y => decide (x = y))) HL.out hall)
        clear hall
        go_wp2_with fail
        go_ret
        exact ⟨ret_bool HF.out.symm, hb⟩
  · have hne : ((L.length : Int) == (L'.length : Int)) = false := by rw [beq_eq_false_iff_ne]; omega
    have hne2 : ((L.length : Int) != (L'.length : Int)) = true := by rw [bne_iff_ne]; omega
    have HF := hide (eqL_len (f := (fun x y => decide (x = y))) hlen)
    go_enter Try.func40, Try.ntmps40
    go_wp2_with fail
    go_ret
    exact ⟨ret_bool HF.out.symm, Below.refl _ _⟩
theorem eqint_any (s t : Sl Int) (w : World) (hs : s.At IntAt 1 w) (ht : t.At IntAt 1 w) : Calls Try.prog 80 #[s.val, t.val] w fun e w' => e = .returned (.bool (eqL (fun x y => decide (x = y)) s.L t.L)) ∧ Below w.heap.size w w' := by
  obtain ⟨A, c, L⟩ := s
  obtain ⟨A', c', L'⟩ := t
  obtain ⟨hr, hn, hc⟩ := hs
  obtain ⟨hr', hn', hc'⟩ := ht
  simp only [Sl.val] at *
  by_cases hlen : L.length = L'.length
  · have HL := hide hlen
    rw [← hlen] at hn'
    rw [← hlen]
    clear hlen
    go_enter Try.func80, Try.ntmps80
    go_wp2_with fail
    go_loopw [13] (fun i wr => EqRel w (fun x y => decide (x = y)) L L' i wr) (fun i _ => L.length - (intOf i).toNat)
    case atStart => exact ⟨0, Nat.zero_le _, rfl, by simp, Below.refl _ _⟩
    case round =>
      obtain ⟨k, hk, rfl, hall, hb⟩ := hrel
      by_cases hlt : k < L.length
      · obtain ⟨x, y, hx, hy⟩ := at_len HL.out hlt
        obtain ⟨a, rfl, h0, _⟩ := (hr.below IntAt.keeps hb) k _ hx
        obtain ⟨a', rfl, g0, _⟩ := (hr'.below IntAt.keeps hb) k _ hy
        have HY := hide (fun h => eqL_step (f := (fun x y => decide (x = y))) hx hy hall h)
        have HN := hide (fun h => eqL_no (f := (fun x y => decide (x = y))) hx hy h)
        clear hall hx hy
        rw [Nat.mul_one] at h0 g0
        have kI : (k : Int) < (L.length : Int) := by omega
        by_cases hq : x = y
        · subst hq
          have HQ := hide (show (fun x y : Int => decide (x = y)) x x = true by simp)
          go_wp2_with fail
          go_quiet (fail)
          go_wp2_with fail
          go_roundw
          case rel => exact ⟨k + 1, by omega, by go_num, HY.out HQ.out, below_drewN hb _⟩
          case measure => simp [intOf]; omega
        · have HQ := hide (show (fun x y : Int => decide (x = y)) x y = false by simp [hq])
          have hne : (x != y) = true := by rw [bne_iff_ne]; exact hq
          clear hq
          go_wp2_with fail
          go_quiet (fail)
          go_wp2_with fail
          go_ret
          exact ⟨ret_bool (HN.out HQ.out).symm, below_drewN hb _⟩
      · obtain rfl : k = L.length := by omega
        have HF := hide (eqL_yes (f := (fun x y => decide (x = y))) HL.out hall)
        clear hall
        go_wp2_with fail
        go_ret
        exact ⟨ret_bool HF.out.symm, hb⟩
  · have hne : ((L.length : Int) == (L'.length : Int)) = false := by rw [beq_eq_false_iff_ne]; omega
    have hne2 : ((L.length : Int) != (L'.length : Int)) = true := by rw [bne_iff_ne]; omega
    have HF := hide (eqL_len (f := (fun x y => decide (x = y))) hlen)
    go_enter Try.func80, Try.ntmps80
    go_wp2_with fail
    go_ret
    exact ⟨ret_bool HF.out.symm, Below.refl _ _⟩
theorem eqf_prog (s t : Sl (Sl Ins4)) (w : World) (hs : s.At (SlAt InsAt 4) 1 w) (ht : t.At (SlAt InsAt 4) 1 w) : Calls Try.prog 39 #[s.val, t.val, .func (.func 40) #[] #[]] w fun e w' => e = .returned (.bool (eqL progSame s.L t.L)) ∧ Below w.heap.size w w' := by
  obtain ⟨A, c, L⟩ := s
  obtain ⟨A', c', L'⟩ := t
  obtain ⟨hr, hn, hc⟩ := hs
  obtain ⟨hr', hn', hc'⟩ := ht
  simp only [Sl.val] at *
  by_cases hlen : L.length = L'.length
  · have HL := hide hlen
    rw [← hlen] at hn'
    rw [← hlen]
    clear hlen
    go_enter Try.func39, Try.ntmps39
    go_wp2_with fail
    go_loopw [17] (fun i wr => EqRel w progSame L L' i wr) (fun i _ => L.length - (intOf i).toNat)
    case atStart => exact ⟨0, Nat.zero_le _, rfl, by simp, Below.refl _ _⟩
    case round =>
      obtain ⟨k, hk, rfl, hall, hb⟩ := hrel
      by_cases hlt : k < L.length
      · obtain ⟨x, y, hx, hy⟩ := at_len HL.out hlt
        obtain ⟨a, rfl, h0, h1⟩ := (hr.below (SlAt.keeps InsAt.keeps 4) hb) k _ hx
        obtain ⟨a', rfl, g0, g1⟩ := (hr'.below (SlAt.keeps InsAt.keeps 4) hb) k _ hy
        have HY := hide (fun h => eqL_step (f := progSame) hx hy hall h)
        have HN := hide (fun h => eqL_no (f := progSame) hx hy h)
        clear hall hx hy
        rw [Nat.mul_one] at h0 g0
        have hcl := eqins_any x y wr h1 g1
        clear h1 g1
        obtain ⟨xA, xc, xl⟩ := x
        obtain ⟨yA, yc, yl⟩ := y
        simp only [Sl.val] at *
        generalize hq : eqL (fun x y : Ins4 => decide (x = y)) xl yl = q at *
        cases q
        · have HQ : Hid (progSame ⟨xA, xc, xl⟩ ⟨yA, yc, yl⟩ = false) := hide hq
          clear hq
          go_wp2_with fail
          refine hcl.mono ?_
          rintro e w2 ⟨rfl, hb2⟩
          have hb3 := below_after hb hb2
          go_wp2_with fail
          go_ret
          exact ⟨ret_bool (HN.out HQ.out).symm, hb3⟩
        · have HQ : Hid (progSame ⟨xA, xc, xl⟩ ⟨yA, yc, yl⟩ = true) := hide hq
          clear hq
          go_wp2_with fail
          refine hcl.mono ?_
          rintro e w2 ⟨rfl, hb2⟩
          have hb3 := below_after hb hb2
          go_wp2_with fail
          go_roundw
          case rel => exact ⟨k + 1, by omega, by go_num, HY.out HQ.out, hb3⟩
          case measure => simp [intOf]; omega
      · obtain rfl : k = L.length := by omega
        have HF := hide (eqL_yes (f := progSame) HL.out hall)
        clear hall
        go_wp2_with fail
        go_ret
        exact ⟨ret_bool HF.out.symm, hb⟩
  · have hne : ((L.length : Int) == (L'.length : Int)) = false := by rw [beq_eq_false_iff_ne]; omega
    have hne2 : ((L.length : Int) != (L'.length : Int)) = true := by rw [bne_iff_ne]; omega
    have HF := hide (eqL_len (f := progSame) hlen)
    go_enter Try.func39, Try.ntmps39
    go_wp2_with fail
    go_ret
    exact ⟨ret_bool HF.out.symm, Below.refl _ _⟩
theorem sameinit_any (x y : Init3) (w : World) : Calls Try.prog 38 #[.agg #[.float .f64 x.1, .int .i64 x.2.1, .int .i64 x.2.2], .agg #[.float .f64 y.1, .int .i64 y.2.1, .int .i64 y.2.2]] w fun e w' => e = .returned (.bool (initSame x y)) ∧ Below w.heap.size w w' := by
  have hb0 := ((Below.refl w.heap.size w).alloc (Nat.le_refl _) (.cells #[.float .f64 x.1, .int .i64 x.2.1, .int .i64 x.2.2] 43)).alloc (by simp) (.cells #[.float .f64 y.1, .int .i64 y.2.1, .int .i64 y.2.2] 43)
  have hI : initSame x y = (fsame x.1 y.1 && (decide (x.2.1 = y.2.1) && decide (x.2.2 = y.2.2))) := by unfold initSame; rw [Bool.and_assoc]
  cases hq : fsame x.1 y.1
  · have HI := hide (show initSame x y = false by rw [hI, hq]; rfl)
    clear hI
    go_enter Try.func38, Try.ntmps38
    go_wp2_with fail
    refine (float_any _ _ _).mono ?_
    rw [hq]
    clear hq
    rintro e w' ⟨rfl, rfl⟩
    go_wp2_with fail
    go_ret
    exact ⟨ret_bool HI.out.symm, hb0⟩
  · have HI := hide (show initSame x y = (x.2.1 == y.2.1 && x.2.2 == y.2.2) by rw [hI, hq, Bool.eq_iff_iff]; simp)
    clear hI
    cases h1 : x.2.1 == y.2.1 <;> cases h2 : x.2.2 == y.2.2
    all_goals
      rw [h1, h2] at HI
      go_enter Try.func38, Try.ntmps38
      go_wp2_with fail
      refine (float_any _ _ _).mono ?_
      rw [hq]
      rintro e w' ⟨rfl, rfl⟩
      go_wp2_with fail
      go_ret
      exact ⟨ret_bool HI.out.symm, hb0⟩
theorem eqf_init (s t : Sl Init3) (w : World) (hs : s.At InitAt 3 w) (ht : t.At InitAt 3 w) : Calls Try.prog 37 #[s.val, t.val, .func (.func 38) #[] #[]] w fun e w' => e = .returned (.bool (eqL initSame s.L t.L)) ∧ Below w.heap.size w w' := by
  obtain ⟨A, c, L⟩ := s
  obtain ⟨A', c', L'⟩ := t
  obtain ⟨hr, hn, hc⟩ := hs
  obtain ⟨hr', hn', hc'⟩ := ht
  simp only [Sl.val] at *
  by_cases hlen : L.length = L'.length
  · have HL := hide hlen
    rw [← hlen] at hn'
    rw [← hlen]
    clear hlen
    go_enter Try.func37, Try.ntmps37
    go_wp2_with fail
    go_loopw [17] (fun i wr => EqRel w initSame L L' i wr) (fun i _ => L.length - (intOf i).toNat)
    case atStart => exact ⟨0, Nat.zero_le _, rfl, by simp, Below.refl _ _⟩
    case round =>
      obtain ⟨k, hk, rfl, hall, hb⟩ := hrel
      by_cases hlt : k < L.length
      · obtain ⟨x, y, hx, hy⟩ := at_len HL.out hlt
        obtain ⟨a, rfl, h0, h1, h2, _⟩ := (hr.below InitAt.keeps hb) k _ hx
        obtain ⟨a', rfl, g0, g1, g2, _⟩ := (hr'.below InitAt.keeps hb) k _ hy
        have HY := hide (fun h => eqL_step (f := initSame) hx hy hall h)
        have HN := hide (fun h => eqL_no (f := initSame) hx hy h)
        clear hall hx hy
        have hcl := fun w => sameinit_any x y w
        have hbx := (Below.refl wr.heap.size wr).alloc (Nat.le_refl _) (.cells #[.float .f64 x.1, .int .i64 x.2.1, .int .i64 x.2.2] 43)
        have g0' := keepc hbx g0
        have g1' := keepc hbx g1
        have g2' := keepc hbx g2
        have hb0 := (hb.alloc hb.size (.cells #[.float .f64 x.1, .int .i64 x.2.1, .int .i64 x.2.2] 43)).alloc (by have := hb.size; simp; omega) (.cells #[.float .f64 y.1, .int .i64 y.2.1, .int .i64 y.2.2] 43)
        cases hq : initSame x y
        · have HQ := hide hq
          go_wp2_with fail
          refine (hcl _).mono ?_
          rw [hq]
          clear hq
          rintro e w2 ⟨rfl, hb2⟩
          have hb3 := below_after hb0 hb2
          go_wp2_with fail
          go_ret
          exact ⟨ret_bool (HN.out HQ.out).symm, hb3⟩
        · have HQ := hide hq
          go_wp2_with fail
          refine (hcl _).mono ?_
          rw [hq]
          clear hq
          rintro e w2 ⟨rfl, hb2⟩
          have hb3 := below_after hb0 hb2
          go_wp2_with fail
          go_roundw
          case rel => exact ⟨k + 1, by omega, by go_num, HY.out HQ.out, hb3⟩
          case measure => simp [intOf]; omega
      · obtain rfl : k = L.length := by omega
        have HF := hide (eqL_yes (f := initSame) HL.out hall)
        clear hall
        go_wp2_with fail
        go_ret
        exact ⟨ret_bool HF.out.symm, hb⟩
  · have hne : ((L.length : Int) == (L'.length : Int)) = false := by rw [beq_eq_false_iff_ne]; omega
    have hne2 : ((L.length : Int) != (L'.length : Int)) = true := by rw [bne_iff_ne]; omega
    have HF := hide (eqL_len (f := initSame) hlen)
    go_enter Try.func37, Try.ntmps37
    go_wp2_with fail
    go_ret
    exact ⟨ret_bool HF.out.symm, Below.refl _ _⟩
theorem samelp_any (x y : LP2) (w : World) (hx : x.2.At IntAt 1 w) (hy : y.2.At IntAt 1 w) : Calls Try.prog 42 #[.agg #[.int .i64 x.1, x.2.val], .agg #[.int .i64 y.1, y.2.val]] w fun e w' => e = .returned (.bool (lpSame x y)) ∧ Below w.heap.size w w' := by
  have hb0 := ((Below.refl w.heap.size w).alloc (Nat.le_refl _) (.cells #[.int .i64 x.1, x.2.val] 41)).alloc (by simp) (.cells #[.int .i64 y.1, y.2.val] 41)
  have hcl := eqint_any x.2 y.2 _ (hx.below IntAt.keeps hb0) (hy.below IntAt.keeps hb0)
  simp only [Sl.val] at *
  by_cases h : x.1 = y.1
  · have HI := hide (show lpSame x y = eqL (fun a b => decide (a = b)) x.2.L y.2.L by unfold lpSame; rw [decide_eq_true h]; rfl)
    have he : (x.1 == y.1) = true := by rw [beq_iff_eq]; exact h
    clear h
    go_enter Try.func42, Try.ntmps42
    go_wp2_with fail
    refine hcl.mono ?_
    rintro e w2 ⟨rfl, hb2⟩
    go_wp2_with fail
    go_ret
    exact ⟨ret_bool HI.out.symm, below_after hb0 hb2⟩
  · have HI := hide (show lpSame x y = false by unfold lpSame; rw [decide_eq_false h]; rfl)
    have he : (x.1 == y.1) = false := by rw [beq_eq_false_iff_ne]; exact h
    clear h
    go_enter Try.func42, Try.ntmps42
    go_wp2_with fail
    go_ret
    exact ⟨ret_bool HI.out.symm, hb0⟩
theorem eqf_lp (s t : Sl LP2) (w : World) (hs : s.At LpAt 2 w) (ht : t.At LpAt 2 w) : Calls Try.prog 41 #[s.val, t.val, .func (.func 42) #[] #[]] w fun e w' => e = .returned (.bool (eqL lpSame s.L t.L)) ∧ Below w.heap.size w w' := by
  obtain ⟨A, c, L⟩ := s
  obtain ⟨A', c', L'⟩ := t
  obtain ⟨hr, hn, hc⟩ := hs
  obtain ⟨hr', hn', hc'⟩ := ht
  simp only [Sl.val] at *
  by_cases hlen : L.length = L'.length
  · have HL := hide hlen
    rw [← hlen] at hn'
    rw [← hlen]
    clear hlen
    go_enter Try.func41, Try.ntmps41
    go_wp2_with fail
    go_loopw [17] (fun i wr => EqRel w lpSame L L' i wr) (fun i _ => L.length - (intOf i).toNat)
    case atStart => exact ⟨0, Nat.zero_le _, rfl, by simp, Below.refl _ _⟩
    case round =>
      obtain ⟨k, hk, rfl, hall, hb⟩ := hrel
      by_cases hlt : k < L.length
      · obtain ⟨x, y, hx, hy⟩ := at_len HL.out hlt
        obtain ⟨a, rfl, h0, h1, _, h2⟩ := (hr.below LpAt.keeps hb) k _ hx
        obtain ⟨a', rfl, g0, g1, _, g2⟩ := (hr'.below LpAt.keeps hb) k _ hy
        have HY := hide (fun h => eqL_step (f := lpSame) hx hy hall h)
        have HN := hide (fun h => eqL_no (f := lpSame) hx hy h)
        clear hall hx hy
        have hcl := samelp_any x y _ (h2.below IntAt.keeps (((Below.refl _ _).alloc (Nat.le_refl _) (.cells #[.int .i64 x.1, .slice x.2.A x.2.L.length x.2.c] 41)).alloc (by simp) (.cells #[.int .i64 y.1, .slice y.2.A y.2.L.length y.2.c] 41))) (g2.below IntAt.keeps (((Below.refl _ _).alloc (Nat.le_refl _) (.cells #[.int .i64 x.1, .slice x.2.A x.2.L.length x.2.c] 41)).alloc (by simp) (.cells #[.int .i64 y.1, .slice y.2.A y.2.L.length y.2.c] 41)))
        have hbx := (Below.refl wr.heap.size wr).alloc (Nat.le_refl _) (.cells #[.int .i64 x.1, .slice x.2.A x.2.L.length x.2.c] 41)
        have g0' := keepc hbx g0
        have g1' := keepc hbx g1
        clear h2 g2
        simp only [Sl.val] at *
        have hb0 := (hb.alloc hb.size (.cells #[.int .i64 x.1, .slice x.2.A x.2.L.length x.2.c] 41)).alloc (by have := hb.size; simp; omega) (.cells #[.int .i64 y.1, .slice y.2.A y.2.L.length y.2.c] 41)
        cases hq : lpSame x y
        · have HQ := hide hq
          go_wp2_with fail
          refine hcl.mono ?_
          rw [hq]
          clear hq
          rintro e w2 ⟨rfl, hb2⟩
          have hb3 := below_after hb0 hb2
          go_wp2_with fail
          go_ret
          exact ⟨ret_bool (HN.out HQ.out).symm, hb3⟩
        · have HQ := hide hq
          go_wp2_with fail
          refine hcl.mono ?_
          rw [hq]
          clear hq
          rintro e w2 ⟨rfl, hb2⟩
          have hb3 := below_after hb0 hb2
          go_wp2_with fail
          go_roundw
          case rel => exact ⟨k + 1, by omega, by go_num, HY.out HQ.out, hb3⟩
          case measure => simp [intOf]; omega
      · obtain rfl : k = L.length := by omega
        have HF := hide (eqL_yes (f := lpSame) HL.out hall)
        clear hall
        go_wp2_with fail
        go_ret
        exact ⟨ret_bool HF.out.symm, hb⟩
  · have hne : ((L.length : Int) == (L'.length : Int)) = false := by rw [beq_eq_false_iff_ne]; omega
    have hne2 : ((L.length : Int) != (L'.length : Int)) = true := by rw [bne_iff_ne]; omega
    have HF := hide (eqL_len (f := lpSame) hlen)
    go_enter Try.func41, Try.ntmps41
    go_wp2_with fail
    go_ret
    exact ⟨ret_bool HF.out.symm, Below.refl _ _⟩
end Go.Proofs.Ytegegljpmelomaa
