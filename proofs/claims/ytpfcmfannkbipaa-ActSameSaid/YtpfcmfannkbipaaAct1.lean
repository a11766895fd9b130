/- The walks of act's Compare, count, and of the library's cmp.Compare and cmp.Or at int. No condition. -/
import Derived.Test.YtpfcmfannkbipaaCmp08
set_option linter.unusedVariables false
set_option maxRecDepth 20000
namespace Go.Proofs.Ytpfcmfannkbipaa
open Go.RowKit Go.Deep

attribute [local go_sem] run_store_float
theorem cmpnan_any (a : Int) (w : World) : Calls Try.prog 111 #[.int .i64 a] w fun e w' => e = .returned (.bool false) ∧ w' = w := by
  have h : (a != a) = false := by simp
  go_enter Try.func111, Try.ntmps111
  go_wp2
  go_ret
  exact ⟨rfl, rfl⟩
theorem cmpint_any (a b : Int) (w : World) : Calls Try.prog 88 #[.int .i64 a, .int .i64 b] w fun e w' => e = .returned (.int .i64 (ordI a b)) ∧ w' = w := by
  rcases Int.lt_trichotomy a b with h | h | h
  · rw [ordI_lt h]
    go_enter Try.func88, Try.ntmps88
    go_wp2_with (go_at_call 111; refine (cmpnan_any _ _).mono ?_; rintro e w' ⟨rfl, rfl⟩)
    go_ret
    exact ⟨rfl, rfl⟩
  · rw [ordI_eq h]
    subst h
    go_enter Try.func88, Try.ntmps88
    go_wp2_with (go_at_call 111; refine (cmpnan_any _ _).mono ?_; rintro e w' ⟨rfl, rfl⟩)
    go_ret
    exact ⟨rfl, rfl⟩
  · rw [ordI_gt h]
    have h2 : ¬ a < b := by omega
    go_enter Try.func88, Try.ntmps88
    go_wp2_with (go_at_call 111; refine (cmpnan_any _ _).mono ?_; rintro e w' ⟨rfl, rfl⟩)
    go_ret
    exact ⟨rfl, rfl⟩
/-- May a count be? -/
def cntB (n : Int) : Bool := decide (0 ≤ n ∧ n ≤ 1099511627776)
theorem count_any (n : Int) (w : World) : Calls Try.prog 98 #[.int .i64 n] w fun e w' => e = .returned (.bool (cntB n)) ∧ w' = w := by
  unfold cntB
  by_cases h : 0 ≤ n
  · by_cases h2 : n ≤ 1099511627776
    · rw [decide_eq_true ⟨h, h2⟩]
      go_enter Try.func98, Try.ntmps98
      go_wp2
      go_ret
      exact ⟨rfl, rfl⟩
    · rw [decide_eq_false (by omega)]
      have h3 : decide (n ≤ 1099511627776) = false := decide_eq_false h2
      clear h2
      go_enter Try.func98, Try.ntmps98
      go_wp2
      go_ret
      exact ⟨rfl, rfl⟩
  · rw [decide_eq_false (by omega)]
    have h3 : decide (0 ≤ n) = false := decide_eq_false h
    clear h
    go_enter Try.func98, Try.ntmps98
    go_wp2
    go_ret
    exact ⟨rfl, rfl⟩
/-- The first that is not 0. -/
theorem cmpor_any (x0 x1 x2 x3 x4 : Int) (g : Nat) (w : World) (hR : Blk w g 3 #[.int .i64 x0, .int .i64 x1, .int .i64 x2, .int .i64 x3, .int .i64 x4]) :
    Calls Try.prog 87 #[.slice (some ⟨g, 0, none⟩) 5 5] w fun e w' => e = .returned (.int .i64 (firstNz [x0, x1, x2, x3, x4])) ∧ w' = w := by
  have r0 := hR.cell 0
  have r1 := hR.cell 1
  have r2 := hR.cell 2
  have r3 := hR.cell 3
  have r4 := hR.cell 4
  simp only [List.getElem?_toArray, List.getElem?_cons_zero, List.getElem?_cons_succ] at r0 r1 r2 r3 r4
  clear hR
  by_cases h0 : x0 = 0
  · have e0 : firstNz [x0, x1, x2, x3, x4] = firstNz [x1, x2, x3, x4] := if_pos h0
    rw [e0]
    subst h0
    clear e0
    by_cases h1 : x1 = 0
    · have e1 : firstNz [x1, x2, x3, x4] = firstNz [x2, x3, x4] := if_pos h1
      rw [e1]
      subst h1
      clear e1
      by_cases h2 : x2 = 0
      · have e2 : firstNz [x2, x3, x4] = firstNz [x3, x4] := if_pos h2
        rw [e2]
        subst h2
        clear e2
        by_cases h3 : x3 = 0
        · have e3 : firstNz [x3, x4] = x4 := by
            unfold firstNz
            rw [if_pos h3]
            unfold firstNz
            split
            · rename_i h
              rw [h]
              rfl
            · rfl
          rw [e3]
          subst h3
          clear e3
          by_cases h4 : x4 = 0
          · subst h4
            go_enter Try.func87, Try.ntmps87
            go_wp2_with fail
            refine wp_loop_rounds 6 ?_
            rw [rounds_succ]; go_wp2
            rw [rounds_succ]; go_wp2
            rw [rounds_succ]; go_wp2
            rw [rounds_succ]; go_wp2
            rw [rounds_succ]; go_wp2
            rw [rounds_succ]; go_wp2
            go_ret
            exact ⟨rfl, rfl⟩
          · have n4 : (x4 != 0) = true := by rw [bne_iff_ne]; exact h4
            clear h4
            go_enter Try.func87, Try.ntmps87
            go_wp2_with fail
            refine wp_loop_rounds 5 ?_
            rw [rounds_succ]; go_wp2
            rw [rounds_succ]; go_wp2
            rw [rounds_succ]; go_wp2
            rw [rounds_succ]; go_wp2
            rw [rounds_succ]; go_wp2
            go_ret
            exact ⟨rfl, rfl⟩
        · have n3 : (x3 != 0) = true := by rw [bne_iff_ne]; exact h3
          have e3 : firstNz [x3, x4] = x3 := if_neg h3
          rw [e3]
          clear h3 e3
          go_enter Try.func87, Try.ntmps87
          go_wp2_with fail
          refine wp_loop_rounds 4 ?_
          rw [rounds_succ]; go_wp2
          rw [rounds_succ]; go_wp2
          rw [rounds_succ]; go_wp2
          rw [rounds_succ]; go_wp2
          go_ret
          exact ⟨rfl, rfl⟩
      · have n2 : (x2 != 0) = true := by rw [bne_iff_ne]; exact h2
        have e2 : firstNz [x2, x3, x4] = x2 := if_neg h2
        rw [e2]
        clear h2 e2
        go_enter Try.func87, Try.ntmps87
        go_wp2_with fail
        refine wp_loop_rounds 3 ?_
        rw [rounds_succ]; go_wp2
        rw [rounds_succ]; go_wp2
        rw [rounds_succ]; go_wp2
        go_ret
        exact ⟨rfl, rfl⟩
    · have n1 : (x1 != 0) = true := by rw [bne_iff_ne]; exact h1
      have e1 : firstNz [x1, x2, x3, x4] = x1 := if_neg h1
      rw [e1]
      clear h1 e1
      go_enter Try.func87, Try.ntmps87
      go_wp2_with fail
      refine wp_loop_rounds 2 ?_
      rw [rounds_succ]; go_wp2
      rw [rounds_succ]; go_wp2
      go_ret
      exact ⟨rfl, rfl⟩
  · have n0 : (x0 != 0) = true := by rw [bne_iff_ne]; exact h0
    have e0 : firstNz [x0, x1, x2, x3, x4] = x0 := if_neg h0
    rw [e0]
    clear h0 e0
    go_enter Try.func87, Try.ntmps87
    go_wp2_with fail
    refine wp_loop_rounds 1 ?_
    rw [rounds_succ]; go_wp2
    go_ret
    exact ⟨rfl, rfl⟩
theorem times_same (a b : Nat) (w : World) : Calls Try.prog 73 #[.float .f64 a, .float .f64 b] w fun e w' => e = .returned (.int .i64 (timesI a b)) ∧ w' = w := by
  refine (times_any a b w).mono ?_
  rintro e w' ⟨rfl, rfl⟩
  exact ⟨rfl, rfl⟩
set_option maxHeartbeats 4000000 in
theorem actcmp_any (t : Nat) (s n d p : Int) (u : Nat) (s' n' d' p' : Int) (w : World) :
    Calls Try.prog 54 #[.agg #[.float .f64 t, .int .i64 s, .int .i64 n, .int .i64 d, .int .i64 p], .agg #[.float .f64 u, .int .i64 s', .int .i64 n', .int .i64 d', .int .i64 p']] w fun e w' => e = .returned (.int .i64 (firstNz (evL t s n d p u s' n' d' p'))) ∧ Below w.heap.size w w' := by
  have hz : ∀ o, (w.alloc o).heap.size = w.heap.size + 1 := fun o => Array.size_push ..
  have hA := (Blk.new w 37 #[.float .f64 t, .int .i64 s, .int .i64 n, .int .i64 d, .int .i64 p]).alloc (.cells #[.float .f64 u, .int .i64 s', .int .i64 n', .int .i64 d', .int .i64 p'] 37)
  have hB := Blk.new (w.alloc (.cells #[.float .f64 t, .int .i64 s, .int .i64 n, .int .i64 d, .int .i64 p] 37)) 37 #[.float .f64 u, .int .i64 s', .int .i64 n', .int .i64 d', .int .i64 p']
  have hb : Below w.heap.size w ((w.alloc (.cells #[.float .f64 t, .int .i64 s, .int .i64 n, .int .i64 d, .int .i64 p] 37)).alloc (.cells #[.float .f64 u, .int .i64 s', .int .i64 n', .int .i64 d', .int .i64 p'] 37)) := Below.alloc (Below.alloc (Below.refl _ _) (Nat.le_refl _) _) (by rw [hz]; omega) _
  rw [hz] at hB
  clear hz
  go_enter Try.func54, Try.ntmps54
  go_wp2_with fail
  generalize hW : (w.alloc _).alloc _ = W0 at *
  refine wp_region_still_tail 31 (by kernel_rfl) (by kernel_rfl) ?_
  change wpStill _ _ W0.drew _ _ _
  replace hA := hA.drew
  replace hB := hB.drew
  replace hb := hb.drew
  change wpStill _ _ _ (fun a' => wpList Try.prog _ _ _ a' W0.drew) _ _
  generalize W0.drew = W1 at *
  have c0 := hA.cell 0
  have c1 := hA.cell 1
  have c2 := hA.cell 2
  have c3 := hA.cell 3
  have c4 := hA.cell 4
  have d0 := hB.cell 0
  have d1 := hB.cell 1
  have d2 := hB.cell 2
  have d3 := hB.cell 3
  have d4 := hB.cell 4
  simp only [List.take_succ_cons, List.take_zero, List.drop_succ_cons, List.drop_zero]
  repeat (first
    | still_step
    | (still_call (times_same _ _ _))
    | (still_call (cmpint_any _ _ _)))
  refine wpStill_nil ?_
  clear c0 c1 c2 c3 c4 d0 d1 d2 d3 d4
  have hL : evL t s n d p u s' n' d' p' = [timesI t u, ordI d d', ordI s s', ordI n n', ordI p p'] := rfl
  generalize timesI t u = x0 at *
  generalize ordI d d' = x1 at *
  generalize ordI s s' = x2 at *
  generalize ordI n n' = x3 at *
  generalize ordI p p' = x4 at *
  have HE := hide (congrArg firstNz hL.symm)
  clear hL hW
  have hR := Blk.new W1 3 #[.int .i64 x0, .int .i64 x1, .int .i64 x2, .int .i64 x3, .int .i64 x4]
  have hb2 : Below w.heap.size w (W1.alloc (.cells #[.int .i64 x0, .int .i64 x1, .int .i64 x2, .int .i64 x3, .int .i64 x4] 3)) := hb.alloc hb.size _
  go_wp2_with fail
  refine (cmpor_any _ _ _ _ _ _ _ hR).mono ?_
  rintro e w' ⟨rfl, rfl⟩
  go_wp2_with fail
  go_ret
  exact ⟨ret_int HE.out, hb2⟩
end Go.Proofs.Ytpfcmfannkbipaa
