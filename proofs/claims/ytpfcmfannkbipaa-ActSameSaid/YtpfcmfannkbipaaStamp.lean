/- The walks of package stamp: times. No condition. -/
import Derived.Test.YtpfcmfannkbipaaFloat
set_option linter.unusedVariables false
set_option maxRecDepth 20000
namespace Go.Proofs.Ytpfcmfannkbipaa
open Go.RowKit Go.Deep

def normF (t : Nat) : Nat := if isNan t ∨ skey t = 0 then 0 else t
def normE (t : Nat) : Int := if isNan t then 7 else 0
theorem norm_any (t : Nat) (w : World) : Calls Try.prog 85 #[.float .f64 t] w fun e w' => e = .returned (.tuple #[.float .f64 (normF t), .int .i64 (normE t)]) ∧ w = w' := by
  by_cases h : isNan t
  · go_enter Try.func85, Try.ntmps85
    go_wp2_with fail
    refine (isnan_any _ _).mono ?_
    rw [decide_eq_true h]
    rintro e w' ⟨rfl, rfl⟩
    go_wp2
    go_ret2
    exact ⟨by unfold normF normE; rw [if_pos (.inl h), if_pos h]; rfl, rfl⟩
  · by_cases h0 : skey t = 0
    · have ho := fo_eq t 0 h zero_num h0
      have hf : normF t = 0 ∧ normE t = 0 := ⟨by unfold normF; rw [if_pos (.inr h0)], by unfold normE; rw [if_neg h]⟩
      rw [hf.1, hf.2]
      clear hf h0
      go_enter Try.func85, Try.ntmps85
      go_wp2_with fail
      refine (isnan_any _ _).mono ?_
      rw [decide_eq_false h]
      rintro e w' ⟨rfl, rfl⟩
      go_wp2
      go_ret2
      exact ⟨rfl, rfl⟩
    · have hf : normF t = t ∧ normE t = 0 := ⟨by unfold normF; rw [if_neg (by rintro (h1 | h1); exact h h1; exact h0 h1)], by unfold normE; rw [if_neg h]⟩
      rw [hf.1, hf.2]
      have ho : (FloatKind.f64.format.order t 0 == some .eq) = false := by
        rw [fo_num t 0 h zero_num, skey_zero]
        simpa [Int.compare_eq_eq] using h0
      clear hf h0
      go_enter Try.func85, Try.ntmps85
      go_wp2_with fail
      refine (isnan_any _ _).mono ?_
      rw [decide_eq_false h]
      rintro e w' ⟨rfl, rfl⟩
      go_wp2
      go_ret2
      exact ⟨rfl, rfl⟩
theorem rnumber_any (t : Nat) (w : World) : Calls Try.prog 74 #[.float .f64 t] w fun e w' => e = .returned (.bool (decide (¬ isNan t))) ∧ w = w' := by
  by_cases h : isNan t
  · have ho := fo_nan t t (.inl h)
    go_enter Try.func74, Try.ntmps74
    go_wp2
    go_ret
    exact ⟨ret_bool (by simp [h]), rfl⟩
  · have ho := fo_self t h
    go_enter Try.func74, Try.ntmps74
    go_wp2
    go_ret
    exact ⟨ret_bool (by simp [h]), rfl⟩
theorem rnorm_any (t : Nat) (w : World) : Calls Try.prog 86 #[.float .f64 t] w fun e w' => e = .returned (.tuple #[.float .f64 (normF t), .int .i64 (normE t)]) ∧ w = w' := by
  by_cases h : isNan t
  · go_enter Try.func86, Try.ntmps86
    go_wp2_with fail
    refine (rnumber_any _ _).mono ?_
    rw [decide_eq_false (not_not_intro h)]
    rintro e w' ⟨rfl, rfl⟩
    go_wp2
    go_ret2
    exact ⟨by unfold normF normE; rw [if_pos (.inl h), if_pos h]; rfl, rfl⟩
  · by_cases h0 : skey t = 0
    · have ho := fo_eq t 0 h zero_num h0
      have hf : normF t = 0 ∧ normE t = 0 := ⟨by unfold normF; rw [if_pos (.inr h0)], by unfold normE; rw [if_neg h]⟩
      rw [hf.1, hf.2]
      clear hf h0
      go_enter Try.func86, Try.ntmps86
      go_wp2_with fail
      refine (rnumber_any _ _).mono ?_
      rw [decide_eq_true h]
      rintro e w' ⟨rfl, rfl⟩
      go_wp2
      go_ret2
      exact ⟨rfl, rfl⟩
    · have hf : normF t = t ∧ normE t = 0 := ⟨by unfold normF; rw [if_neg (by rintro (h1 | h1); exact h h1; exact h0 h1)], by unfold normE; rw [if_neg h]⟩
      rw [hf.1, hf.2]
      have ho : (FloatKind.f64.format.order t 0 == some .eq) = false := by
        rw [fo_num t 0 h zero_num, skey_zero]
        simpa [Int.compare_eq_eq] using h0
      clear hf h0
      go_enter Try.func86, Try.ntmps86
      go_wp2_with fail
      refine (rnumber_any _ _).mono ?_
      rw [decide_eq_true h]
      rintro e w' ⟨rfl, rfl⟩
      go_wp2
      go_ret2
      exact ⟨rfl, rfl⟩

/-! What comes so much later. -/
def laterS (t d : Nat) : Option Nat :=
  if isNan t ∨ isNan d ∨ skey d ≤ 0 then none
  else match FloatKind.f64.format.add t d with
    | none => none
    | some s => if isNan s ∨ skey s ≤ skey t then none else some s
def laterF (t d : Nat) : Nat := match laterS t d with | none => 0 | some s => normF s
def laterE (t d : Nat) : Int := match laterS t d with | none => 7 | some s => normE s
theorem later_none {t d : Nat} (h : laterS t d = none) : laterF t d = 0 ∧ laterE t d = 7 := by
  unfold laterF laterE
  rw [h]
  exact ⟨rfl, rfl⟩
theorem later_some {t d s : Nat} (h : laterS t d = some s) : laterF t d = normF s ∧ laterE t d = normE s := by
  unfold laterF laterE
  rw [h]
  exact ⟨rfl, rfl⟩
theorem later_bad {t d : Nat} (h : isNan t ∨ isNan d ∨ skey d ≤ 0) : laterS t d = none := by unfold laterS; rw [if_pos h]
theorem later_nan {t d : Nat} (h : ¬ (isNan t ∨ isNan d ∨ skey d ≤ 0)) (hs : FloatKind.f64.format.add t d = none) : laterS t d = none := by unfold laterS; rw [if_neg h, hs]
theorem later_low {t d s : Nat} (h : ¬ (isNan t ∨ isNan d ∨ skey d ≤ 0)) (hs : FloatKind.f64.format.add t d = some s) (h2 : isNan s ∨ skey s ≤ skey t) : laterS t d = none := by
  unfold laterS
  rw [if_neg h, hs]
  simp only
  rw [if_pos h2]
theorem later_yes {t d s : Nat} (h : ¬ (isNan t ∨ isNan d ∨ skey d ≤ 0)) (hs : FloatKind.f64.format.add t d = some s) (h2 : ¬ (isNan s ∨ skey s ≤ skey t)) : laterS t d = some s := by
  unfold laterS
  rw [if_neg h, hs]
  simp only
  rw [if_neg h2]
theorem later_any (t d : Nat) (w : World) : Calls Try.prog 104 #[.float .f64 t, .float .f64 d] w fun e w' => e = .returned (.tuple #[.float .f64 (laterF t d), .int .i64 (laterE t d)]) ∧ Below w.heap.size w w' := by
  by_cases h1 : isNan t
  · rw [(later_none (later_bad (d := d) (.inl h1))).1, (later_none (later_bad (d := d) (.inl h1))).2]
    go_enter Try.func104, Try.ntmps104
    go_wp2_with fail
    refine (isnan_any _ _).mono ?_
    rw [decide_eq_true h1]
    rintro e w' ⟨rfl, rfl⟩
    go_wp2
    go_ret2
    exact ⟨rfl, Below.refl _ _⟩
  by_cases h2 : isNan d
  · rw [(later_none (later_bad (t := t) (.inr (.inl h2)))).1, (later_none (later_bad (t := t) (.inr (.inl h2)))).2]
    go_enter Try.func104, Try.ntmps104
    go_wp2_with fail
    refine (isnan_any _ _).mono ?_
    rw [decide_eq_false h1]
    rintro e w' ⟨rfl, rfl⟩
    go_wp2_with fail
    refine (isnan_any _ _).mono ?_
    rw [decide_eq_true h2]
    rintro e w' ⟨rfl, rfl⟩
    go_wp2
    go_ret2
    exact ⟨rfl, Below.refl _ _⟩
  rcases fo_ways d 0 h2 zero_num with ⟨h3, ho⟩ | ⟨h3, ho⟩ | ⟨h3, ho⟩ <;> rw [skey_zero] at h3
  · rw [(later_none (later_bad (t := t) (d := d) (.inr (.inr (by omega))))).1, (later_none (later_bad (t := t) (d := d) (.inr (.inr (by omega))))).2]
    clear h3
    go_enter Try.func104, Try.ntmps104
    go_wp2_with fail
    refine (isnan_any _ _).mono ?_
    rw [decide_eq_false h1]
    rintro e w' ⟨rfl, rfl⟩
    go_wp2_with fail
    refine (isnan_any _ _).mono ?_
    rw [decide_eq_false h2]
    rintro e w' ⟨rfl, rfl⟩
    go_wp2
    go_ret2
    exact ⟨rfl, Below.refl _ _⟩
  · rw [(later_none (later_bad (t := t) (d := d) (.inr (.inr (by omega))))).1, (later_none (later_bad (t := t) (d := d) (.inr (.inr (by omega))))).2]
    clear h3
    go_enter Try.func104, Try.ntmps104
    go_wp2_with fail
    refine (isnan_any _ _).mono ?_
    rw [decide_eq_false h1]
    rintro e w' ⟨rfl, rfl⟩
    go_wp2_with fail
    refine (isnan_any _ _).mono ?_
    rw [decide_eq_false h2]
    rintro e w' ⟨rfl, rfl⟩
    go_wp2
    go_ret2
    exact ⟨rfl, Below.refl _ _⟩
  · have hc : ¬ (isNan t ∨ isNan d ∨ skey d ≤ 0) := by
      rintro (h | h | h)
      · exact h1 h
      · exact h2 h
      · omega
    rcases hs : FloatKind.f64.format.add t d with _ | s
    · rw [(later_none (later_nan hc hs)).1, (later_none (later_nan hc hs)).2]
      clear hc h3
      obtain ⟨r, hr, hrun⟩ := run_fadd_none (P := Try.prog) 27 t d hs w
      have ho2 := fo_nan r t (.inl hr)
      have Hs := hide hs
      clear hs
      go_enter Try.func104, Try.ntmps104
      go_wp2_with fail
      refine (isnan_any _ _).mono ?_
      rw [decide_eq_false h1]
      rintro e w' ⟨rfl, rfl⟩
      go_wp2_with fail
      refine (isnan_any _ _).mono ?_
      rw [decide_eq_false h2]
      rintro e w' ⟨rfl, rfl⟩
      go_wp2
      go_ret2
      exact ⟨rfl, (Below.refl _ _).drew⟩
    · have hrun := run_fadd_some (P := Try.prog) 27 t d s hs
      by_cases h4 : isNan s ∨ skey s ≤ skey t
      · rw [(later_none (later_low hc hs h4)).1, (later_none (later_low hc hs h4)).2]
        have ho2 : (FloatKind.f64.format.order s t == some .gt) = false := by
          by_cases hn : isNan s
          · rw [fo_nan s t (.inl hn)]; rfl
          · rcases fo_ways s t hn h1 with ⟨_, h⟩ | ⟨_, h⟩ | ⟨h5, h⟩
            · rw [h]; rfl
            · rw [h]; rfl
            · exfalso
              rcases h4 with h4 | h4
              · exact hn h4
              · omega
        have Hs := hide hs
        clear hs hc h3 h4
        go_enter Try.func104, Try.ntmps104
        go_wp2_with fail
        refine (isnan_any _ _).mono ?_
        rw [decide_eq_false h1]
        rintro e w' ⟨rfl, rfl⟩
        go_wp2_with fail
        refine (isnan_any _ _).mono ?_
        rw [decide_eq_false h2]
        rintro e w' ⟨rfl, rfl⟩
        go_wp2
        go_ret2
        exact ⟨rfl, Below.refl _ _⟩
      · rw [(later_some (later_yes hc hs h4)).1, (later_some (later_yes hc hs h4)).2]
        have hn : ¬ isNan s := fun h => h4 (.inl h)
        have ho2 := fo_gt s t hn h1 (by
          rcases Int.lt_or_le (skey t) (skey s) with h | h
          · exact h
          · exact absurd (.inr h) h4)
        have Hs := hide hs
        clear hs hc h3 h4
        go_enter Try.func104, Try.ntmps104
        go_wp2_with fail
        refine (isnan_any _ _).mono ?_
        rw [decide_eq_false h1]
        rintro e w' ⟨rfl, rfl⟩
        go_wp2_with fail
        refine (isnan_any _ _).mono ?_
        rw [decide_eq_false h2]
        rintro e w' ⟨rfl, rfl⟩
        go_wp2_with fail
        refine (norm_any _ _).mono ?_
        rintro e w' ⟨rfl, rfl⟩
        go_wp2
        go_ret2
        exact ⟨rfl, Below.refl _ _⟩
end Go.Proofs.Ytpfcmfannkbipaa
