/- Lists that are the same: the walks of slices.Equal and of the reference's Ints. No condition. -/
import Derived.Test.YtpfcmfannkbipaaRv5
import Derived.Test.YtpfcmfannkbipaaChk
set_option linter.unusedVariables false
set_option maxRecDepth 20000
namespace Go.Proofs.Ytpfcmfannkbipaa
open Go.RowKit Go.Deep

attribute [local go_sem] run_store_float
/-- The same float? -/
def fsame (a b : Nat) : Bool := decide (a = b) || (decide (isNan a) && decide (isNan b))
def eqL {α β : Type} (f : α → β → Bool) (a : List α) (b : List β) : Bool := decide (a.length = b.length) && (a.zip b).all (fun p => f p.1 p.2)
theorem eqL_len {α β : Type} {f : α → β → Bool} {a : List α} {b : List β} (h : a.length ≠ b.length) : eqL f a b = false := by
  unfold eqL
  rw [decide_eq_false h]
  rfl
theorem zip_at {α β : Type} {a : List α} {b : List β} {k : Nat} {x : α} {y : β} (hx : a[k]? = some x) (hy : b[k]? = some y) : (a.zip b)[k]? = some (x, y) := by
  rw [List.getElem?_zip_eq_some]
  exact ⟨hx, hy⟩
theorem eqL_no {α β : Type} {f : α → β → Bool} {a : List α} {b : List β} {k : Nat} {x : α} {y : β} (hx : a[k]? = some x) (hy : b[k]? = some y) (hf : f x y = false) : eqL f a b = false := by
  unfold eqL
  rw [all_fail (fun p : α × β => f p.1 p.2) (a.zip b) k (x, y) (zip_at hx hy) hf]
  simp
theorem eqL_yes {α β : Type} {f : α → β → Bool} {a : List α} {b : List β} (h : a.length = b.length) (hf : ((a.zip b).take a.length).all (fun p => f p.1 p.2) = true) : eqL f a b = true := by
  unfold eqL
  rw [decide_eq_true h]
  rw [List.take_of_length_le (by rw [List.length_zip]; omega)] at hf
  rw [hf]
  rfl
theorem eqL_step {α β : Type} {f : α → β → Bool} {a : List α} {b : List β} {k : Nat} {x : α} {y : β} (hx : a[k]? = some x) (hy : b[k]? = some y) (h : ((a.zip b).take k).all (fun p => f p.1 p.2) = true) (hf : f x y = true) : ((a.zip b).take (k + 1)).all (fun p => f p.1 p.2) = true := by
  rw [all_take_succ _ _ k (x, y) (zip_at hx hy), h]
  exact hf
theorem at_len {α β : Type} {a : List α} {b : List β} (h : a.length = b.length) {k : Nat} (hk : k < a.length) : ∃ x y, a[k]? = some x ∧ b[k]? = some y :=
  ⟨_, _, List.getElem?_eq_getElem hk, List.getElem?_eq_getElem (h ▸ hk)⟩
theorem fsame_eq (a : Nat) : fsame a a = true := by simp [fsame]
theorem fsame_ne {a b : Nat} (h : ¬ a = b) : fsame a b = (decide (isNan a) && decide (isNan b)) := by
  unfold fsame
  rw [decide_eq_false h]
  rfl
theorem rfloat_any (a b : Nat) (w : World) : Calls Try.prog 66 #[.float .f64 a, .float .f64 b] w fun e w' => e = .returned (.bool (fsame a b)) ∧ w = w' := by
  have fb := f64bits_run
  have hne : ((none : Option Ordering) != some .eq) = true := rfl
  have hee : ((some .eq : Option Ordering) != some .eq) = false := rfl
  by_cases ha : isNan a
  · have oa := fo_nan a a (.inl ha)
    by_cases hb : isNan b
    · have ob := fo_nan b b (.inl hb)
      have HF := hide (show fsame a b = true by simp [fsame, ha, hb])
      clear ha hb
      go_enter Try.func66, Try.ntmps66
      go_wp2_with fail
      go_ret
      exact ⟨ret_bool HF.out.symm, rfl⟩
    · have ob := fo_self b hb
      have HF := hide (show fsame a b = false by
        rw [fsame_ne (fun e => hb (by rw [← e]; exact ha))]
        simp [hb])
      clear ha hb
      go_enter Try.func66, Try.ntmps66
      go_wp2_with fail
      go_ret
      exact ⟨ret_bool HF.out.symm, rfl⟩
  · have oa := fo_self a ha
    by_cases hb : isNan b
    · have ob := fo_nan b b (.inl hb)
      have HF := hide (show fsame a b = false by
        rw [fsame_ne (fun e => ha (by rw [e]; exact hb))]
        simp [ha])
      clear ha hb
      go_enter Try.func66, Try.ntmps66
      go_wp2_with fail
      go_ret
      exact ⟨ret_bool HF.out.symm, rfl⟩
    · have ob := fo_self b hb
      have HF := hide (show fsame a b = decide (a = b) by simp [fsame, ha])
      clear ha hb
      go_enter Try.func66, Try.ntmps66
      go_wp2_with fail
      go_ret
      exact ⟨ret_bool (by rw [HF.out, Bool.eq_iff_iff]; simp; omega), rfl⟩
def EqRel {α β : Type} (w : World) (f : α → β → Bool) (a : List α) (b : List β) (i : Value) (wr : World) : Prop :=
  ∃ k : Nat, k ≤ a.length ∧ i = .int .i64 k ∧ ((a.zip b).take k).all (fun p => f p.1 p.2) = true ∧ Below w.heap.size w wr
theorem eqint_any (s t : Sl Int) (w : World) (hs : s.At IntAt 1 w) (ht : t.At IntAt 1 w) : Calls Try.prog 83 #[s.val, t.val] w fun e w' => e = .returned (.bool (eqL (fun x y => decide (x = y)) s.L t.L)) ∧ Below w.heap.size w w' := by
  obtain ⟨A, c, L⟩ := s
  obtain ⟨A', c', L'⟩ := t
  obtain ⟨hr, hn, hc⟩ := hs
  obtain ⟨hr', hn', hc'⟩ := ht
  simp only [Sl.val] at *
  by_cases hlen : L.length = L'.length
  · have HL := hide hlen
    rw [← hlen] at hn'
    rw [← hlen]
    clear hlen
    go_enter Try.func83, Try.ntmps83
    go_wp2_with fail
    go_loopw [13] (fun i wr => EqRel w (fun x y => decide (x = y)) L L' i wr) (fun i _ => L.length - (intOf i).toNat)
    case atStart => exact ⟨0, Nat.zero_le _, rfl, by simp, Below.refl _ _⟩
    case round =>
      obtain ⟨k, hk, rfl, hall, hb⟩ := hrel
      by_cases hlt : k < L.length
      · obtain ⟨x, y, hx, hy⟩ := at_len HL.out hlt
        obtain ⟨a, rfl, h0, _⟩ := (hr.below IntAt.keeps hb) k _ hx
        obtain ⟨a', rfl, g0, _⟩ := (hr'.below IntAt.keeps hb) k _ hy
        have HY := hide (fun h => eqL_step (f := (fun x y => decide (x = y))) hx hy hall h)
        have HN := hide (fun h => eqL_no (f := (fun x y => decide (x = y))) hx hy h)
        clear hall hx hy
        rw [Nat.mul_one] at h0 g0
        have kI : (k : Int) < (L.length : Int) := by omega
        by_cases hq : x = y
        · subst hq
          have HQ := hide (show (fun x y : Int => decide (x = y)) x x = true by simp)
          go_wp2_with fail
          go_quiet (fail)
          go_wp2_with fail
          go_roundw
          case rel => exact ⟨k + 1, by omega, by go_num, HY.out HQ.out, below_drewN hb _⟩
          case measure => simp [intOf]; omega
        · have HQ := hide (show (fun x y : Int => decide (x = y)) x y = false by simp [hq])
          have hne : (x != y) = true := by rw [bne_iff_ne]; exact hq
          clear hq
          go_wp2_with fail
          go_quiet (fail)
          go_wp2_with fail
          go_ret
          exact ⟨ret_bool (HN.out HQ.out).symm, below_drewN hb _⟩
      · obtain rfl : k = L.length := by omega
        have HF := hide (eqL_yes (f := (fun x y => decide (x = y))) HL.out hall)
        clear hall
        go_wp2_with fail
        go_ret
        exact ⟨ret_bool HF.out.symm, hb⟩
  · have hne : ((L.length : Int) == (L'.length : Int)) = false := by rw [beq_eq_false_iff_ne]; omega
    have hne2 : ((L.length : Int) != (L'.length : Int)) = true := by rw [bne_iff_ne]; omega
    have HF := hide (eqL_len (f := (fun x y => decide (x = y))) hlen)
    go_enter Try.func83, Try.ntmps83
    go_wp2_with fail
    go_ret
    exact ⟨ret_bool HF.out.symm, Below.refl _ _⟩
def RJRel (w : World) (a b : List Int) (i : Value) (wr : World) : Prop :=
  ∃ k n : Nat, k ≤ a.length ∧ i = .int .i64 k ∧ ((a.zip b).take k).all (fun p => decide (p.1 = p.2)) = true ∧ wr = w.drewN n
theorem rints_any (s t : Sl Int) (w : World) (hs : s.At IntAt 1 w) (ht : t.At IntAt 1 w) : Calls Try.prog 46 #[s.val, t.val] w (SomeDraws w (eqL (fun a b => decide (a = b)) s.L t.L)) := by
  obtain ⟨A, c, L⟩ := s
  obtain ⟨A', c', L'⟩ := t
  obtain ⟨hr, hn, hc⟩ := hs
  obtain ⟨hr', hn', hc'⟩ := ht
  simp only [Sl.val] at *
  by_cases hlen : L.length = L'.length
  · have HL := hide hlen
    rw [← hlen] at hn'
    rw [← hlen]
    clear hlen
    go_enter Try.func46, Try.ntmps46
    go_wp2_with fail
    go_loopw [5] (fun i wr => RJRel w L L' i wr) (fun i _ => L.length - (intOf i).toNat)
    case atStart => exact ⟨0, 0, Nat.zero_le _, rfl, by simp, rfl⟩
    case round =>
      obtain ⟨k, n, hk, rfl, hall, rfl⟩ := hrel
      by_cases hlt : k < L.length
      · obtain ⟨x, y, hx, hy⟩ := at_len HL.out hlt
        obtain ⟨a, rfl, h0, _⟩ := hr k _ hx
        obtain ⟨a', rfl, g0, _⟩ := hr' k _ hy
        rw [Nat.mul_one] at h0 g0
        have HY := hide (fun h => eqL_step (f := fun a b : Int => decide (a = b)) hx hy hall h)
        have HN := hide (fun h => eqL_no (f := fun a b : Int => decide (a = b)) hx hy h)
        have kI : (k : Int) < (L.length : Int) := by omega
        clear hall hx hy hr hr'
        by_cases hq : x = y
        · subst hq
          go_wp2_with fail
          go_quiet (fail)
          go_wp2_with fail
          go_roundw
          case rel => exact ⟨k + 1, _, by omega, by go_num, HY.out (by simp), by first | rfl | rw [World.drewN_drewN]⟩
          case measure => simp [intOf]; omega
        · have HQ := hide (show (fun a b : Int => decide (a = b)) x y = false by simp [hq])
          have hne : (x != y) = true := by rw [bne_iff_ne]; exact hq
          clear hq
          go_wp2_with fail
          go_quiet (fail)
          go_wp2_with fail
          go_ret
          exact ⟨ret_bool (HN.out HQ.out).symm, _, by first | rfl | rw [World.drewN_drewN]⟩
      · obtain rfl : k = L.length := by omega
        have HF := hide (eqL_yes (f := fun a b : Int => decide (a = b)) HL.out hall)
        clear hall
        go_wp2_with fail
        go_ret
        exact ⟨ret_bool HF.out.symm, _, rfl⟩
  · have hne : ((L.length : Int) == (L'.length : Int)) = false := by rw [beq_eq_false_iff_ne]; omega
    have hne2 : ((L.length : Int) != (L'.length : Int)) = true := by rw [bne_iff_ne]; omega
    have HF := hide (eqL_len (f := fun a b : Int => decide (a = b)) hlen)
    clear hr hr'
    go_enter Try.func46, Try.ntmps46
    go_wp2_with fail
    go_ret
    exact ⟨ret_bool HF.out.symm, 0, rfl⟩
end Go.Proofs.Ytpfcmfannkbipaa
