/- More walks of package stamp, and the first laws. No condition. -/
import Derived.Test.YtpgbfglfmmohdaaStamp3
set_option linter.unusedVariables false
set_option maxRecDepth 20000
namespace Go.Proofs.Ytpgbfglfmmohdaa
open Go.RowKit Go.Deep

theorem cmpS_time {t u : Nat} {s n s' n' : Int} (h : timesI t u ≠ 0) : cmpS t s n u s' n' = timesI t u := by unfold cmpS; rw [if_pos h]
theorem cmpS_src {t u : Nat} {s n s' n' : Int} (h : timesI t u = 0) (h2 : ordI s s' ≠ 0) : cmpS t s n u s' n' = ordI s s' := by unfold cmpS; rw [if_neg (by simpa using h), if_pos h2]
theorem cmpS_n {t u : Nat} {s n s' n' : Int} (h : timesI t u = 0) (h2 : s = s') : cmpS t s n u s' n' = ordI n n' := by unfold cmpS; rw [if_neg (by simpa using h), if_neg (by simp [ordI_eq h2])]
set_option maxHeartbeats 800000 in
theorem rcompare_any (t u : Nat) (s n s' n' : Int) (w : World) :
    Calls Try.prog 40 #[.agg #[.float .f64 t, .int .i64 s, .int .i64 n], .agg #[.float .f64 u, .int .i64 s', .int .i64 n']] w fun e w' => e = .returned (.int .i64 (cmpS t s n u s' n')) ∧ Below w.heap.size w w' := by
  by_cases h1 : timesI t u ≠ 0
  · rw [cmpS_time h1]
    have hb : (timesI t u != 0) = true := by simpa using h1
    clear h1
    go_enter Try.func40, Try.ntmps40
    go_wp2_with fail
    refine (rtimes_any _ _ _).mono ?_
    rintro e w' ⟨rfl, rfl⟩
    go_wp2
    go_ret
    exact ⟨rfl, ((Below.refl _ _).alloc (Nat.le_refl _) _).alloc (by simp) _⟩
  have h1 : timesI t u = 0 := by simpa using h1
  have H1 := hide h1
  rcases Int.lt_trichotomy s s' with hs | hs | hs
  · rw [cmpS_src h1 (by rw [ordI_lt hs]; decide), ordI_lt hs]
    clear h1
    go_enter Try.func40, Try.ntmps40
    go_wp2_with fail
    refine (rtimes_any _ _ _).mono ?_
    rw [H1.out]
    rintro e w' ⟨rfl, rfl⟩
    go_wp2
    go_ret
    exact ⟨rfl, ((Below.refl _ _).alloc (Nat.le_refl _) _).alloc (by simp) _⟩
  · rw [cmpS_n h1 hs]
    subst hs
    rcases Int.lt_trichotomy n n' with hn | hn | hn
    · rw [ordI_lt hn]
      clear h1
      go_enter Try.func40, Try.ntmps40
      go_wp2_with fail
      refine (rtimes_any _ _ _).mono ?_
      rw [H1.out]
      rintro e w' ⟨rfl, rfl⟩
      go_wp2
      go_ret
      exact ⟨rfl, ((Below.refl _ _).alloc (Nat.le_refl _) _).alloc (by simp) _⟩
    · rw [ordI_eq hn]
      clear h1
      subst hn
      go_enter Try.func40, Try.ntmps40
      go_wp2_with fail
      refine (rtimes_any _ _ _).mono ?_
      rw [H1.out]
      rintro e w' ⟨rfl, rfl⟩
      go_wp2
      go_ret
      exact ⟨rfl, ((Below.refl _ _).alloc (Nat.le_refl _) _).alloc (by simp) _⟩
    · rw [ordI_gt hn]
      clear h1
      go_enter Try.func40, Try.ntmps40
      go_wp2_with fail
      refine (rtimes_any _ _ _).mono ?_
      rw [H1.out]
      rintro e w' ⟨rfl, rfl⟩
      go_wp2
      go_ret
      exact ⟨rfl, ((Below.refl _ _).alloc (Nat.le_refl _) _).alloc (by simp) _⟩
  · rw [cmpS_src h1 (by rw [ordI_gt hs]; decide), ordI_gt hs]
    clear h1
    go_enter Try.func40, Try.ntmps40
    go_wp2_with fail
    refine (rtimes_any _ _ _).mono ?_
    rw [H1.out]
    rintro e w' ⟨rfl, rfl⟩
    go_wp2
    go_ret
    exact ⟨rfl, ((Below.refl _ _).alloc (Nat.le_refl _) _).alloc (by simp) _⟩

theorem same02_any (a : Nat) (w : World) : Calls Try.prog 36 #[.float .f64 a, .float .f64 a] w fun e w' => e = .returned (.bool true) ∧ ∃ k, w' = w.drewN k := by
  have fb := f64bits_run
  go_enter Try.func36, Try.ntmps36
  go_wp2
  go_ret
  exact ⟨rfl, 0, rfl⟩
theorem later_half : laterF 4607182418800017408 4602678819172646912 = 4609434218613702656 ∧ laterE 4607182418800017408 4602678819172646912 = 0 := by decide +kernel
theorem later_big : laterF 4845873199050653696 4602678819172646912 = 0 ∧ laterE 4845873199050653696 4602678819172646912 = 7 := by decide +kernel
theorem copysign_any (w : World) : Calls Try.prog 85 #[.float .f64 0, .float .f64 13830554455654793216] w fun e w' => e = .returned (.float .f64 9223372036854775808) ∧ w = w' := by
  have fb := f64bits_run
  have ff := f64from_run
  have b1 : bits .andNot .u64 0 9223372036854775808 = 0 := by decide +kernel
  have b2 : bits .and .u64 13830554455654793216 9223372036854775808 = 9223372036854775808 := by decide +kernel
  have b3 : bits .or .u64 0 9223372036854775808 = 9223372036854775808 := by decide +kernel
  go_enter Try.func85, Try.ntmps85
  go_wp2
  go_ret
  exact ⟨rfl, rfl⟩
theorem nan_any (w : World) : Calls Try.prog 86 #[] w fun e w' => e = .returned (.float .f64 9221120237041090561) ∧ w = w' := by
  have ff := f64from_run
  go_enter Try.func86, Try.ntmps86
  go_wp2
  go_ret
  exact ⟨rfl, rfl⟩
theorem awake02 (w : World) : Calls Try.prog 35 #[] w fun e w' => e = .returned (.bool true) ∧ Below w.heap.size w w' := by
  have l1 := hide later_half
  have l2 := hide later_big
  have n1 : normF 9223372036854775808 = 0 ∧ normE 9223372036854775808 = 0 := by decide +kernel
  have n2 : normF 9221120237041090561 = 0 ∧ normE 9221120237041090561 = 7 := by decide +kernel
  have c1 : cmpS 4607182418800017408 0 0 4607182418800017408 0 1 = -1 := by decide +kernel
  have N1 := hide n1
  have N2 := hide n2
  have C1 := hide c1
  clear n1 n2 c1
  have ho : FloatKind.f64.format.order 4609434218613702656 4609434218613702656 = some .eq := by decide +kernel
  go_enter Try.func35, Try.ntmps35
  go_wp2_with fail
  refine (later_any _ _ _).mono ?_
  rw [l1.out.1, l1.out.2]
  rintro e w1 ⟨rfl, hb1⟩
  go_wp2_with fail
  refine (later_any _ _ _).mono ?_
  rw [l2.out.1, l2.out.2]
  rintro e w2 ⟨rfl, hb2⟩
  go_wp2_with fail
  refine (copysign_any _).mono ?_
  rintro e w' ⟨rfl, rfl⟩
  go_wp2_with fail
  refine (norm_any _ _).mono ?_
  rw [N1.out.1, N1.out.2]
  rintro e w' ⟨rfl, rfl⟩
  go_wp2_with fail
  refine (nan_any _).mono ?_
  rintro e w' ⟨rfl, rfl⟩
  go_wp2_with fail
  refine (norm_any _ _).mono ?_
  rw [N2.out.1, N2.out.2]
  rintro e w' ⟨rfl, rfl⟩
  go_wp2_with fail
  refine (signbit_any _ _ (by decide)).mono ?_
  rintro e w' ⟨rfl, rfl⟩
  go_wp2_with fail
  refine (compare_any _ _ _ _ _ _ _).mono ?_
  rw [C1.out]
  rintro e w3 ⟨rfl, hb3⟩
  go_wp2
  go_ret
  exact ⟨rfl, below_after (below_after hb1 hb2) hb3⟩

theorem later_walk (t d : Nat) (w : World) : Calls Try.prog 6 #[.float .f64 t, .float .f64 d] w fun e w' => e = .returned (.bool true) ∧ Below w.heap.size w w' := by
  go_enter Try.func6, Try.ntmps6
  go_wp2_with fail
  refine (norm_any _ _).mono ?_
  rintro e w' ⟨rfl, rfl⟩
  go_wp2_with fail
  refine (rnorm_any _ _).mono ?_
  rintro e w' ⟨rfl, rfl⟩
  go_wp2_with fail
  refine (later_any _ _ _).mono ?_
  rintro e w1 ⟨rfl, hb1⟩
  go_wp2_with fail
  refine (rlater_any _ _ _).mono ?_
  rintro e w2 ⟨rfl, hb2⟩
  go_wp2_with fail
  refine (awake02 _).mono ?_
  rintro e w3 ⟨rfl, hb3⟩
  go_wp2_with fail
  refine (same02_any _ _).mono ?_
  rintro e w' ⟨rfl, k1, rfl⟩
  go_wp2_with fail
  refine (same02_any _ _).mono ?_
  rintro e w' ⟨rfl, k2, rfl⟩
  go_wp2
  go_ret
  exact ⟨rfl, below_drewN (below_after (below_after hb1 hb2) hb3) _⟩
end Go.Proofs.Ytpgbfglfmmohdaa
