/- More walks of package stamp: times compared. No condition. -/
import Derived.Test.YtpfcmfannkbipaaStamp
set_option linter.unusedVariables false
set_option maxRecDepth 20000
namespace Go.Proofs.Ytpfcmfannkbipaa
open Go.RowKit Go.Deep

theorem rlater_any (t d : Nat) (w : World) : Calls Try.prog 81 #[.float .f64 t, .float .f64 d] w fun e w' => e = .returned (.tuple #[.float .f64 (laterF t d), .int .i64 (laterE t d)]) ∧ Below w.heap.size w w' := by
  by_cases h1 : isNan t
  · rw [(later_none (later_bad (d := d) (.inl h1))).1, (later_none (later_bad (d := d) (.inl h1))).2]
    go_enter Try.func81, Try.ntmps81
    go_wp2_with fail
    refine (rnumber_any _ _).mono ?_
    rw [decide_eq_false (not_not_intro h1)]
    rintro e w' ⟨rfl, rfl⟩
    go_wp2
    go_ret2
    exact ⟨rfl, Below.refl _ _⟩
  by_cases h2 : isNan d
  · rw [(later_none (later_bad (t := t) (.inr (.inl h2)))).1, (later_none (later_bad (t := t) (.inr (.inl h2)))).2]
    go_enter Try.func81, Try.ntmps81
    go_wp2_with fail
    refine (rnumber_any _ _).mono ?_
    rw [decide_eq_true h1]
    rintro e w' ⟨rfl, rfl⟩
    go_wp2_with fail
    refine (rnumber_any _ _).mono ?_
    rw [decide_eq_false (not_not_intro h2)]
    rintro e w' ⟨rfl, rfl⟩
    go_wp2
    go_ret2
    exact ⟨rfl, Below.refl _ _⟩
  rcases fo_ways d 0 h2 zero_num with ⟨h3, ho⟩ | ⟨h3, ho⟩ | ⟨h3, ho⟩ <;> rw [skey_zero] at h3
  · rw [(later_none (later_bad (t := t) (d := d) (.inr (.inr (by omega))))).1, (later_none (later_bad (t := t) (d := d) (.inr (.inr (by omega))))).2]
    clear h3
    go_enter Try.func81, Try.ntmps81
    go_wp2_with fail
    refine (rnumber_any _ _).mono ?_
    rw [decide_eq_true h1]
    rintro e w' ⟨rfl, rfl⟩
    go_wp2_with fail
    refine (rnumber_any _ _).mono ?_
    rw [decide_eq_true h2]
    rintro e w' ⟨rfl, rfl⟩
    go_wp2
    go_ret2
    exact ⟨rfl, Below.refl _ _⟩
  · rw [(later_none (later_bad (t := t) (d := d) (.inr (.inr (by omega))))).1, (later_none (later_bad (t := t) (d := d) (.inr (.inr (by omega))))).2]
    clear h3
    go_enter Try.func81, Try.ntmps81
    go_wp2_with fail
    refine (rnumber_any _ _).mono ?_
    rw [decide_eq_true h1]
    rintro e w' ⟨rfl, rfl⟩
    go_wp2_with fail
    refine (rnumber_any _ _).mono ?_
    rw [decide_eq_true h2]
    rintro e w' ⟨rfl, rfl⟩
    go_wp2
    go_ret2
    exact ⟨rfl, Below.refl _ _⟩
  · have hc : ¬ (isNan t ∨ isNan d ∨ skey d ≤ 0) := by
      rintro (h | h | h)
      · exact h1 h
      · exact h2 h
      · omega
    rcases hs : FloatKind.f64.format.add t d with _ | s
    · rw [(later_none (later_nan hc hs)).1, (later_none (later_nan hc hs)).2]
      clear hc h3
      obtain ⟨r, hr, hrun⟩ := run_fadd_none (P := Try.prog) 27 t d hs w
      have Hs := hide hs
      clear hs
      go_enter Try.func81, Try.ntmps81
      go_wp2_with fail
      refine (rnumber_any _ _).mono ?_
      rw [decide_eq_true h1]
      rintro e w' ⟨rfl, rfl⟩
      go_wp2_with fail
      refine (rnumber_any _ _).mono ?_
      rw [decide_eq_true h2]
      rintro e w' ⟨rfl, rfl⟩
      go_wp2_with fail
      refine (rnumber_any _ _).mono ?_
      rw [decide_eq_false (not_not_intro hr)]
      rintro e w' ⟨rfl, rfl⟩
      go_wp2
      go_ret2
      exact ⟨rfl, (Below.refl _ _).drew⟩
    · have hrun := run_fadd_some (P := Try.prog) 27 t d s hs
      by_cases hn : isNan s
      · rw [(later_none (later_low hc hs (.inl hn))).1, (later_none (later_low hc hs (.inl hn))).2]
        have Hs := hide hs
        clear hs hc h3
        go_enter Try.func81, Try.ntmps81
        go_wp2_with fail
        refine (rnumber_any _ _).mono ?_
        rw [decide_eq_true h1]
        rintro e w' ⟨rfl, rfl⟩
        go_wp2_with fail
        refine (rnumber_any _ _).mono ?_
        rw [decide_eq_true h2]
        rintro e w' ⟨rfl, rfl⟩
        go_wp2_with fail
        refine (rnumber_any _ _).mono ?_
        rw [decide_eq_false (not_not_intro hn)]
        rintro e w' ⟨rfl, rfl⟩
        go_wp2
        go_ret2
        exact ⟨rfl, Below.refl _ _⟩
      · rcases fo_ways s t hn h1 with ⟨h5, ho2⟩ | ⟨h5, ho2⟩ | ⟨h5, ho2⟩
        · rw [(later_none (later_low hc hs (.inr (by omega)))).1, (later_none (later_low hc hs (.inr (by omega)))).2]
          have Hs := hide hs
          clear hs hc h3 h5
          go_enter Try.func81, Try.ntmps81
          go_wp2_with fail
          refine (rnumber_any _ _).mono ?_
          rw [decide_eq_true h1]
          rintro e w' ⟨rfl, rfl⟩
          go_wp2_with fail
          refine (rnumber_any _ _).mono ?_
          rw [decide_eq_true h2]
          rintro e w' ⟨rfl, rfl⟩
          go_wp2_with fail
          refine (rnumber_any _ _).mono ?_
          rw [decide_eq_true hn]
          rintro e w' ⟨rfl, rfl⟩
          go_wp2
          go_ret2
          exact ⟨rfl, Below.refl _ _⟩
        · rw [(later_none (later_low hc hs (.inr (by omega)))).1, (later_none (later_low hc hs (.inr (by omega)))).2]
          have Hs := hide hs
          clear hs hc h3 h5
          go_enter Try.func81, Try.ntmps81
          go_wp2_with fail
          refine (rnumber_any _ _).mono ?_
          rw [decide_eq_true h1]
          rintro e w' ⟨rfl, rfl⟩
          go_wp2_with fail
          refine (rnumber_any _ _).mono ?_
          rw [decide_eq_true h2]
          rintro e w' ⟨rfl, rfl⟩
          go_wp2_with fail
          refine (rnumber_any _ _).mono ?_
          rw [decide_eq_true hn]
          rintro e w' ⟨rfl, rfl⟩
          go_wp2
          go_ret2
          exact ⟨rfl, Below.refl _ _⟩
        · have h4 : ¬ (isNan s ∨ skey s ≤ skey t) := by
            rintro (h | h)
            · exact hn h
            · omega
          rw [(later_some (later_yes hc hs h4)).1, (later_some (later_yes hc hs h4)).2]
          have Hs := hide hs
          clear hs hc h3 h4 h5
          go_enter Try.func81, Try.ntmps81
          go_wp2_with fail
          refine (rnumber_any _ _).mono ?_
          rw [decide_eq_true h1]
          rintro e w' ⟨rfl, rfl⟩
          go_wp2_with fail
          refine (rnumber_any _ _).mono ?_
          rw [decide_eq_true h2]
          rintro e w' ⟨rfl, rfl⟩
          go_wp2_with fail
          refine (rnumber_any _ _).mono ?_
          rw [decide_eq_true hn]
          rintro e w' ⟨rfl, rfl⟩
          go_wp2_with fail
          refine (rnorm_any _ _).mono ?_
          rintro e w' ⟨rfl, rfl⟩
          go_wp2
          go_ret2
          exact ⟨rfl, Below.refl _ _⟩

/-! Which of two times comes first. -/
def ordI (a b : Int) : Int := if a < b then -1 else if b < a then 1 else 0
def timesI (a b : Nat) : Int := if isNan a then (if isNan b then 0 else 1) else if isNan b then -1 else ordI (skey a) (skey b)
theorem ordI_lt {a b : Int} (h : a < b) : ordI a b = -1 := by unfold ordI; rw [if_pos h]
theorem ordI_gt {a b : Int} (h : b < a) : ordI a b = 1 := by unfold ordI; rw [if_neg (by omega), if_pos h]
theorem ordI_eq {a b : Int} (h : a = b) : ordI a b = 0 := by unfold ordI; rw [if_neg (by omega), if_neg (by omega)]
theorem timesI_num {a b : Nat} (ha : ¬ isNan a) (hb : ¬ isNan b) : timesI a b = ordI (skey a) (skey b) := by unfold timesI; rw [if_neg ha, if_neg hb]
theorem cmpf_any (a b : Nat) (w : World) (ha : ¬ isNan a) (hb : ¬ isNan b) : Calls Try.prog 97 #[.float .f64 a, .float .f64 b] w fun e w' => e = .returned (.int .i64 (ordI (skey a) (skey b))) ∧ w = w' := by
  rcases fo_ways a b ha hb with ⟨h, ho⟩ | ⟨h, ho⟩ | ⟨h, ho⟩
  · rw [ordI_lt h]
    clear h
    go_enter Try.func97, Try.ntmps97
    go_wp2
    go_ret
    exact ⟨rfl, rfl⟩
  · rw [ordI_eq h]
    clear h
    go_enter Try.func97, Try.ntmps97
    go_wp2
    go_ret
    exact ⟨rfl, rfl⟩
  · rw [ordI_gt h]
    clear h
    go_enter Try.func97, Try.ntmps97
    go_wp2
    go_ret
    exact ⟨rfl, rfl⟩
theorem times_any (a b : Nat) (w : World) : Calls Try.prog 73 #[.float .f64 a, .float .f64 b] w fun e w' => e = .returned (.int .i64 (timesI a b)) ∧ w = w' := by
  by_cases ha : isNan a <;> by_cases hb : isNan b
  · have ht : timesI a b = 0 := by unfold timesI; simp [ha, hb]
    rw [ht]
    clear ht
    go_enter Try.func73, Try.ntmps73
    go_wp2_with fail
    refine (isnan_any _ _).mono ?_
    rw [decide_eq_true ha]
    rintro e w' ⟨rfl, rfl⟩
    go_wp2_with fail
    refine (isnan_any _ _).mono ?_
    rw [decide_eq_true hb]
    rintro e w' ⟨rfl, rfl⟩
    go_wp2
    go_ret
    exact ⟨rfl, rfl⟩
  · have ht : timesI a b = 1 := by unfold timesI; simp [ha, hb]
    rw [ht]
    clear ht
    go_enter Try.func73, Try.ntmps73
    go_wp2_with fail
    refine (isnan_any _ _).mono ?_
    rw [decide_eq_true ha]
    rintro e w' ⟨rfl, rfl⟩
    go_wp2_with fail
    refine (isnan_any _ _).mono ?_
    rw [decide_eq_false hb]
    rintro e w' ⟨rfl, rfl⟩
    go_wp2
    go_ret
    exact ⟨rfl, rfl⟩
  · have ht : timesI a b = -1 := by unfold timesI; simp [ha, hb]
    rw [ht]
    clear ht
    go_enter Try.func73, Try.ntmps73
    go_wp2_with fail
    refine (isnan_any _ _).mono ?_
    rw [decide_eq_false ha]
    rintro e w' ⟨rfl, rfl⟩
    go_wp2_with fail
    refine (isnan_any _ _).mono ?_
    rw [decide_eq_true hb]
    rintro e w' ⟨rfl, rfl⟩
    go_wp2
    go_ret
    exact ⟨rfl, rfl⟩
  · have ht : timesI a b = ordI (skey a) (skey b) := by unfold timesI; simp [ha, hb]
    rw [ht]
    clear ht
    go_enter Try.func73, Try.ntmps73
    go_wp2_with fail
    refine (isnan_any _ _).mono ?_
    rw [decide_eq_false ha]
    rintro e w' ⟨rfl, rfl⟩
    go_wp2_with fail
    refine (isnan_any _ _).mono ?_
    rw [decide_eq_false hb]
    rintro e w' ⟨rfl, rfl⟩
    go_wp2_with fail
    refine (cmpf_any _ _ _ ha hb).mono ?_
    rintro e w' ⟨rfl, rfl⟩
    go_wp2
    go_ret
    exact ⟨rfl, rfl⟩

theorem rtimes_any (a b : Nat) (w : World) : Calls Try.prog 38 #[.float .f64 a, .float .f64 b] w fun e w' => e = .returned (.int .i64 (timesI a b)) ∧ w = w' := by
  by_cases ha : isNan a
  · have ho := fo_nan a b (.inl ha)
    by_cases hb : isNan b
    · have ht : timesI a b = 0 := by unfold timesI; simp [ha, hb]
      rw [ht]
      clear ht
      go_enter Try.func38, Try.ntmps38
      go_wp2_with fail
      refine (rnumber_any _ _).mono ?_
      rw [decide_eq_false (not_not_intro ha)]
      rintro e w' ⟨rfl, rfl⟩
      go_wp2_with fail
      refine (rnumber_any _ _).mono ?_
      rw [decide_eq_false (not_not_intro hb)]
      rintro e w' ⟨rfl, rfl⟩
      go_wp2
      go_ret
      exact ⟨rfl, rfl⟩
    · have ht : timesI a b = 1 := by unfold timesI; simp [ha, hb]
      rw [ht]
      clear ht
      go_enter Try.func38, Try.ntmps38
      go_wp2_with fail
      refine (rnumber_any _ _).mono ?_
      rw [decide_eq_false (not_not_intro ha)]
      rintro e w' ⟨rfl, rfl⟩
      go_wp2_with fail
      refine (rnumber_any _ _).mono ?_
      rw [decide_eq_true hb]
      rintro e w' ⟨rfl, rfl⟩
      go_wp2_with fail
      refine (rnumber_any _ _).mono ?_
      rw [decide_eq_true hb]
      rintro e w' ⟨rfl, rfl⟩
      go_wp2
      go_ret
      exact ⟨rfl, rfl⟩
  · by_cases hb : isNan b
    · have ho := fo_nan a b (.inr hb)
      have ht : timesI a b = -1 := by unfold timesI; simp [ha, hb]
      rw [ht]
      clear ht
      go_enter Try.func38, Try.ntmps38
      go_wp2_with fail
      refine (rnumber_any _ _).mono ?_
      rw [decide_eq_true ha]
      rintro e w' ⟨rfl, rfl⟩
      go_wp2_with fail
      refine (rnumber_any _ _).mono ?_
      rw [decide_eq_false (not_not_intro hb)]
      rintro e w' ⟨rfl, rfl⟩
      go_wp2
      go_ret
      exact ⟨rfl, rfl⟩
    · rw [timesI_num ha hb]
      rcases fo_ways a b ha hb with ⟨h, ho⟩ | ⟨h, ho⟩ | ⟨h, ho⟩
      · rw [ordI_lt h]
        clear h
        go_enter Try.func38, Try.ntmps38
        go_wp2_with fail
        refine (rnumber_any _ _).mono ?_
        rw [decide_eq_true ha]
        rintro e w' ⟨rfl, rfl⟩
        go_wp2_with fail
        refine (rnumber_any _ _).mono ?_
        rw [decide_eq_true hb]
        rintro e w' ⟨rfl, rfl⟩
        go_wp2
        go_ret
        exact ⟨rfl, rfl⟩
      · rw [ordI_eq h]
        clear h
        go_enter Try.func38, Try.ntmps38
        go_wp2_with fail
        refine (rnumber_any _ _).mono ?_
        rw [decide_eq_true ha]
        rintro e w' ⟨rfl, rfl⟩
        go_wp2
        go_ret
        exact ⟨rfl, rfl⟩
      · rw [ordI_gt h]
        clear h
        go_enter Try.func38, Try.ntmps38
        go_wp2_with fail
        refine (rnumber_any _ _).mono ?_
        rw [decide_eq_true ha]
        rintro e w' ⟨rfl, rfl⟩
        go_wp2_with fail
        refine (rnumber_any _ _).mono ?_
        rw [decide_eq_true hb]
        rintro e w' ⟨rfl, rfl⟩
        go_wp2
        go_ret
        exact ⟨rfl, rfl⟩
end Go.Proofs.Ytpfcmfannkbipaa
