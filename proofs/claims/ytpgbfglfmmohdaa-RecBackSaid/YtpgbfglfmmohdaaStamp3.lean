/- More walks of package stamp: stamps compared. No condition. -/
import Derived.Test.YtpgbfglfmmohdaaStamp2
set_option linter.unusedVariables false
set_option maxRecDepth 20000
namespace Go.Proofs.Ytpgbfglfmmohdaa
open Go.RowKit Go.Deep

theorem bytime_any (t u : Nat) (s n s' n' : Int) (w : World) :
    Calls Try.prog 89 #[.agg #[.float .f64 t, .int .i64 s, .int .i64 n], .agg #[.float .f64 u, .int .i64 s', .int .i64 n']] w fun e w' => e = .returned (.int .i64 (timesI t u)) ∧ Below w.heap.size w w' := by
  go_enter Try.func89, Try.ntmps89
  go_wp2_with fail
  refine (times_any _ _ _).mono ?_
  rintro e w' ⟨rfl, rfl⟩
  go_wp2
  go_ret
  exact ⟨rfl, ((Below.refl _ _).alloc (Nat.le_refl _) _).alloc (by simp) _⟩
theorem bysrc_any (t u : Nat) (s n s' n' : Int) (w : World) :
    Calls Try.prog 90 #[.agg #[.float .f64 t, .int .i64 s, .int .i64 n], .agg #[.float .f64 u, .int .i64 s', .int .i64 n']] w fun e w' => e = .returned (.int .i64 (ordI s s')) ∧ Below w.heap.size w w' := by
  go_enter Try.func90, Try.ntmps90
  go_wp2_with fail
  refine (cmpi_any _ _ _).mono ?_
  rintro e w' ⟨rfl, rfl⟩
  go_wp2
  go_ret
  exact ⟨rfl, ((Below.refl _ _).alloc (Nat.le_refl _) _).alloc (by simp) _⟩
theorem byn_any (t u : Nat) (s n s' n' : Int) (w : World) :
    Calls Try.prog 91 #[.agg #[.float .f64 t, .int .i64 s, .int .i64 n], .agg #[.float .f64 u, .int .i64 s', .int .i64 n']] w fun e w' => e = .returned (.int .i64 (ordI n n')) ∧ Below w.heap.size w w' := by
  go_enter Try.func91, Try.ntmps91
  go_wp2_with fail
  refine (cmpi_any _ _ _).mono ?_
  rintro e w' ⟨rfl, rfl⟩
  go_wp2
  go_ret
  exact ⟨rfl, ((Below.refl _ _).alloc (Nat.le_refl _) _).alloc (by simp) _⟩

attribute [local go_sem] run_store_float
/-- How two stamps stand. -/
def cmpS (t : Nat) (s n : Int) (u : Nat) (s' n' : Int) : Int := if timesI t u ≠ 0 then timesI t u else if ordI s s' ≠ 0 then ordI s s' else ordI n n'
set_option maxHeartbeats 800000 in
theorem compare_any (t u : Nat) (s n s' n' : Int) (w : World) :
    Calls Try.prog 39 #[.agg #[.float .f64 t, .int .i64 s, .int .i64 n], .agg #[.float .f64 u, .int .i64 s', .int .i64 n']] w fun e w' => e = .returned (.int .i64 (cmpS t s n u s' n')) ∧ Below w.heap.size w w' := by
  by_cases h1 : timesI t u ≠ 0
  · have hc : cmpS t s n u s' n' = timesI t u := by unfold cmpS; rw [if_pos h1]
    rw [hc]
    have hb : (timesI t u != 0) = true := by simpa using h1
    clear hc h1
    go_enter Try.func39, Try.ntmps39
    go_wp2_with fail
    go_region
    all_goals go_wp2_with fail
    all_goals refine (bytime_any _ _ _ _ _ _ _).mono ?_
    all_goals rintro e w1 ⟨rfl, hb1⟩
    all_goals go_wp2_with fail
    all_goals go_ret
    all_goals refine ⟨rfl, below_after ?_ hb1⟩
    all_goals go_grown
  have h1 : timesI t u = 0 := by simpa using h1
  by_cases h2 : ordI s s' ≠ 0
  · have hc : cmpS t s n u s' n' = ordI s s' := by unfold cmpS; rw [if_neg (by simpa using h1), if_pos h2]
    rw [hc]
    have hb : (ordI s s' != 0) = true := by simpa using h2
    have H1 := hide h1
    clear hc h1 h2
    go_enter Try.func39, Try.ntmps39
    go_wp2_with fail
    go_region
    all_goals go_wp2_with fail
    all_goals refine (bytime_any _ _ _ _ _ _ _).mono ?_
    all_goals rw [H1.out]
    all_goals rintro e w1 ⟨rfl, hb1⟩
    all_goals obtain ⟨hc1, hf1⟩ := bcell hb1
    all_goals go_wp2_with fail
    all_goals refine (bysrc_any t u _ n _ n' _).mono ?_
    all_goals rintro e w2 ⟨rfl, hb2⟩
    all_goals go_wp2_with fail
    all_goals go_ret
    all_goals refine ⟨rfl, below_after (below_after ?_ hb1) hb2⟩
    all_goals go_grown
  have h2 : ordI s s' = 0 := by simpa using h2
  have hc : cmpS t s n u s' n' = ordI n n' := by unfold cmpS; rw [if_neg (by simpa using h1), if_neg (by simpa using h2)]
  rw [hc]
  have H1 := hide h1
  have H2 := hide h2
  clear hc h1 h2
  go_enter Try.func39, Try.ntmps39
  go_wp2_with fail
  go_region
  all_goals go_wp2_with fail
  all_goals refine (bytime_any _ _ _ _ _ _ _).mono ?_
  all_goals rw [H1.out]
  all_goals rintro e w1 ⟨rfl, hb1⟩
  all_goals obtain ⟨hc1, hf1⟩ := bcell hb1
  all_goals have hz1 : w.heap.size + 1 + 1 + 1 < w1.heap.size := by have := hb1.size; simp at this; omega
  all_goals have hz2 : w.heap.size + 1 + 1 < w1.heap.size := by omega
  all_goals go_wp2_with fail
  all_goals refine (bysrc_any t u _ n _ n' _).mono ?_
  all_goals rw [H2.out]
  all_goals rintro e w2 ⟨rfl, hb2⟩
  all_goals obtain ⟨hc2, hf2⟩ := bcell hb2
  all_goals go_wp2_with fail
  all_goals refine (byn_any t u s _ s' _ _).mono ?_
  all_goals rintro e w3 ⟨rfl, hb3⟩
  all_goals go_wp2_with fail
  all_goals go_ret
  all_goals refine ⟨rfl, below_after (below_after (below_after ?_ hb1) hb2) hb3⟩
  all_goals go_grown
end Go.Proofs.Ytpgbfglfmmohdaa
