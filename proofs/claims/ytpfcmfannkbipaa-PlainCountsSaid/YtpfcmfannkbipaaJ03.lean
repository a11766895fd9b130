/- Texts of this claim in one. No condition. -/
import Derived.Test.YtpfcmfannkbipaaJ02
import Derived.StillTailTactics
import Derived.Test.YtpfcmfannkbipaaJ01
section
set_option linter.unusedVariables false
set_option maxRecDepth 20000
namespace Go.Proofs.Ytpfcmfannkbipaa
open Go.RowKit Go.Deep

attribute [local go_sem] run_store_float
theorem less08_any (a b : Int) (w : World) : Calls Try.prog 72 #[.int .i64 a, .int .i64 b] w fun e w' => e = .returned (.int .i64 (ordI a b)) ∧ w' = w := by
  rcases Int.lt_trichotomy a b with h | h | h
  · rw [ordI_lt h]
    go_enter Try.func72, Try.ntmps72
    go_wp2
    go_ret
    exact ⟨rfl, rfl⟩
  · rw [ordI_eq h]
    subst h
    go_enter Try.func72, Try.ntmps72
    go_wp2
    go_ret
    exact ⟨rfl, rfl⟩
  · rw [ordI_gt h]
    have h2 : ¬ a < b := by omega
    go_enter Try.func72, Try.ntmps72
    go_wp2
    go_ret
    exact ⟨rfl, rfl⟩
theorem rtimes_same (a b : Nat) (w : World) : Calls Try.prog 38 #[.float .f64 a, .float .f64 b] w fun e w' => e = .returned (.int .i64 (timesI a b)) ∧ w' = w := by
  refine (rtimes_any a b w).mono ?_
  rintro e w' ⟨rfl, rfl⟩
  exact ⟨rfl, rfl⟩
def firstNz : List Int → Int
  | [] => 0
  | x :: r => if x = 0 then firstNz r else x
theorem firstNz_drop : ∀ (L : List Int) (k : Nat) (x : Int), L[k]? = some x → firstNz (L.drop k) = if x = 0 then firstNz (L.drop (k + 1)) else x := by
  intro L k x h
  obtain ⟨hk, rfl⟩ := List.getElem?_eq_some_iff.1 h
  rw [List.drop_eq_getElem_cons hk]
  rfl
def evL (t : Nat) (s n d p : Int) (u : Nat) (s' n' d' p' : Int) : List Int := [timesI t u, ordI d d', ordI s s', ordI n n', ordI p p']
def CmpRel (W2 : World) (L : List Int) (i : Value) (wr : World) : Prop := ∃ k : Nat, k ≤ 5 ∧ i = .int .i64 k ∧ firstNz (L.drop k) = firstNz L ∧ W2 = wr
set_option maxHeartbeats 4000000 in
theorem cmp08_any (t : Nat) (s n d p : Int) (u : Nat) (s' n' d' p' : Int) (w : World) :
    Calls Try.prog 32 #[.agg #[.float .f64 t, .int .i64 s, .int .i64 n, .int .i64 d, .int .i64 p], .agg #[.float .f64 u, .int .i64 s', .int .i64 n', .int .i64 d', .int .i64 p']] w fun e w' => e = .returned (.int .i64 (firstNz (evL t s n d p u s' n' d' p'))) ∧ Below w.heap.size w w' := by
  have hz : ∀ o, (w.alloc o).heap.size = w.heap.size + 1 := fun o => Array.size_push ..
  have hA := (Blk.new w 37 #[.float .f64 t, .int .i64 s, .int .i64 n, .int .i64 d, .int .i64 p]).alloc (.cells #[.float .f64 u, .int .i64 s', .int .i64 n', .int .i64 d', .int .i64 p'] 37)
  have hB := Blk.new (w.alloc (.cells #[.float .f64 t, .int .i64 s, .int .i64 n, .int .i64 d, .int .i64 p] 37)) 37 #[.float .f64 u, .int .i64 s', .int .i64 n', .int .i64 d', .int .i64 p']
  have hb : Below w.heap.size w ((w.alloc (.cells #[.float .f64 t, .int .i64 s, .int .i64 n, .int .i64 d, .int .i64 p] 37)).alloc (.cells #[.float .f64 u, .int .i64 s', .int .i64 n', .int .i64 d', .int .i64 p'] 37)) := Below.alloc (Below.alloc (Below.refl _ _) (Nat.le_refl _) _) (by rw [hz]; omega) _
  rw [hz] at hB
  clear hz
  go_enter Try.func32, Try.ntmps32
  go_wp2_with fail
  generalize hW : (w.alloc _).alloc _ = W0 at *
  refine wp_region_still_tail 31 (by kernel_rfl) (by kernel_rfl) ?_
  change wpStill _ _ W0.drew _ _ _
  replace hA := hA.drew
  replace hB := hB.drew
  replace hb := hb.drew
  change wpStill _ _ _ (fun a' => wpList Try.prog _ _ _ a' W0.drew) _ _
  generalize W0.drew = W1 at *
  have c0 := hA.cell 0
  have c1 := hA.cell 1
  have c2 := hA.cell 2
  have c3 := hA.cell 3
  have c4 := hA.cell 4
  have d0 := hB.cell 0
  have d1 := hB.cell 1
  have d2 := hB.cell 2
  have d3 := hB.cell 3
  have d4 := hB.cell 4
  simp only [List.take_succ_cons, List.take_zero, List.drop_succ_cons, List.drop_zero]
  repeat (first
    | still_step
    | (still_call (rtimes_same _ _ _))
    | (still_call (less08_any _ _ _)))
  refine wpStill_nil ?_
  clear c0 c1 c2 c3 c4 d0 d1 d2 d3 d4
  have hL : evL t s n d p u s' n' d' p' = [timesI t u, ordI d d', ordI s s', ordI n n', ordI p p'] := rfl
  generalize timesI t u = x0 at *
  generalize ordI d d' = x1 at *
  generalize ordI s s' = x2 at *
  generalize ordI n n' = x3 at *
  generalize ordI p p' = x4 at *
  have HE := hide (congrArg firstNz hL.symm)
  clear hL
  go_wp2_with fail
  have hR := Blk.new W1 3 #[.int .i64 x0, .int .i64 x1, .int .i64 x2, .int .i64 x3, .int .i64 x4]
  have hb2 : Below w.heap.size w (W1.alloc (.cells #[.int .i64 x0, .int .i64 x1, .int .i64 x2, .int .i64 x3, .int .i64 x4] 3)) := hb.alloc hb.size _
  generalize W1.alloc (.cells #[.int .i64 x0, .int .i64 x1, .int .i64 x2, .int .i64 x3, .int .i64 x4] 3) = W2 at *
  generalize W1.heap.size = g at *
  have r0 := hR.cell 0
  have r1 := hR.cell 1
  have r2 := hR.cell 2
  have r3 := hR.cell 3
  have r4 := hR.cell 4
  simp only [List.getElem?_toArray, List.getElem?_cons_zero, List.getElem?_cons_succ] at r0 r1 r2 r3 r4
  clear hR hA hB hb hW
  go_loopw [6] (fun i wr => CmpRel W2 [x0, x1, x2, x3, x4] i wr) (fun i _ => 5 - (intOf i).toNat)
  case atStart => exact ⟨0, Nat.zero_le _, rfl, rfl, rfl⟩
  case round =>
    obtain ⟨k, hk, rfl, hf, rfl⟩ := hrel
    rcases (by omega : k = 0 ∨ k = 1 ∨ k = 2 ∨ k = 3 ∨ k = 4 ∨ k = 5) with rfl | rfl | rfl | rfl | rfl | rfl
    · by_cases hx : x0 = 0
      · have HN := hide ((firstNz_drop [x0, x1, x2, x3, x4] 0 x0 rfl).trans (if_pos hx))
        have hne : (x0 != 0) = false := by rw [hx]; rfl
        clear hx
        go_wp2_with fail
        go_roundw
        case rel => exact ⟨1, by omega, by first | rfl | go_num, HN.out.symm.trans hf, rfl⟩
        case measure => simp [intOf]
      · have HN := hide ((firstNz_drop [x0, x1, x2, x3, x4] 0 x0 rfl).trans (if_neg hx))
        have hne : (x0 != 0) = true := by rw [bne_iff_ne]; exact hx
        clear hx
        go_wp2_with fail
        go_ret
        exact ⟨ret_int ((HN.out.symm.trans hf).trans HE.out), hb2⟩
    · by_cases hx : x1 = 0
      · have HN := hide ((firstNz_drop [x0, x1, x2, x3, x4] 1 x1 rfl).trans (if_pos hx))
        have hne : (x1 != 0) = false := by rw [hx]; rfl
        clear hx
        go_wp2_with fail
        go_roundw
        case rel => exact ⟨2, by omega, by first | rfl | go_num, HN.out.symm.trans hf, rfl⟩
        case measure => simp [intOf]
      · have HN := hide ((firstNz_drop [x0, x1, x2, x3, x4] 1 x1 rfl).trans (if_neg hx))
        have hne : (x1 != 0) = true := by rw [bne_iff_ne]; exact hx
        clear hx
        go_wp2_with fail
        go_ret
        exact ⟨ret_int ((HN.out.symm.trans hf).trans HE.out), hb2⟩
    · by_cases hx : x2 = 0
      · have HN := hide ((firstNz_drop [x0, x1, x2, x3, x4] 2 x2 rfl).trans (if_pos hx))
        have hne : (x2 != 0) = false := by rw [hx]; rfl
        clear hx
        go_wp2_with fail
        go_roundw
        case rel => exact ⟨3, by omega, by first | rfl | go_num, HN.out.symm.trans hf, rfl⟩
        case measure => simp [intOf]
      · have HN := hide ((firstNz_drop [x0, x1, x2, x3, x4] 2 x2 rfl).trans (if_neg hx))
        have hne : (x2 != 0) = true := by rw [bne_iff_ne]; exact hx
        clear hx
        go_wp2_with fail
        go_ret
        exact ⟨ret_int ((HN.out.symm.trans hf).trans HE.out), hb2⟩
    · by_cases hx : x3 = 0
      · have HN := hide ((firstNz_drop [x0, x1, x2, x3, x4] 3 x3 rfl).trans (if_pos hx))
        have hne : (x3 != 0) = false := by rw [hx]; rfl
        clear hx
        go_wp2_with fail
        go_roundw
        case rel => exact ⟨4, by omega, by first | rfl | go_num, HN.out.symm.trans hf, rfl⟩
        case measure => simp [intOf]
      · have HN := hide ((firstNz_drop [x0, x1, x2, x3, x4] 3 x3 rfl).trans (if_neg hx))
        have hne : (x3 != 0) = true := by rw [bne_iff_ne]; exact hx
        clear hx
        go_wp2_with fail
        go_ret
        exact ⟨ret_int ((HN.out.symm.trans hf).trans HE.out), hb2⟩
    · by_cases hx : x4 = 0
      · have HN := hide ((firstNz_drop [x0, x1, x2, x3, x4] 4 x4 rfl).trans (if_pos hx))
        have hne : (x4 != 0) = false := by rw [hx]; rfl
        clear hx
        go_wp2_with fail
        go_roundw
        case rel => exact ⟨5, by omega, by first | rfl | go_num, HN.out.symm.trans hf, rfl⟩
        case measure => simp [intOf]
      · have HN := hide ((firstNz_drop [x0, x1, x2, x3, x4] 4 x4 rfl).trans (if_neg hx))
        have hne : (x4 != 0) = true := by rw [bne_iff_ne]; exact hx
        clear hx
        go_wp2_with fail
        go_ret
        exact ⟨ret_int ((HN.out.symm.trans hf).trans HE.out), hb2⟩
    · go_wp2_with fail
      go_ret
      exact ⟨ret_int (hf.trans HE.out), hb2⟩
end Go.Proofs.Ytpfcmfannkbipaa
end

section
set_option linter.unusedVariables false
set_option maxRecDepth 20000
namespace Go.Proofs.Ytpfcmfannkbipaa
open Go.RowKit Go.Deep

attribute [local go_sem] run_store_float
theorem cmpnan_any (a : Int) (w : World) : Calls Try.prog 111 #[.int .i64 a] w fun e w' => e = .returned (.bool false) ∧ w' = w := by
  have h : (a != a) = false := by simp
  go_enter Try.func111, Try.ntmps111
  go_wp2
  go_ret
  exact ⟨rfl, rfl⟩
theorem cmpint_any (a b : Int) (w : World) : Calls Try.prog 88 #[.int .i64 a, .int .i64 b] w fun e w' => e = .returned (.int .i64 (ordI a b)) ∧ w' = w := by
  rcases Int.lt_trichotomy a b with h | h | h
  · rw [ordI_lt h]
    go_enter Try.func88, Try.ntmps88
    go_wp2_with (go_at_call 111; refine (cmpnan_any _ _).mono ?_; rintro e w' ⟨rfl, rfl⟩)
    go_ret
    exact ⟨rfl, rfl⟩
  · rw [ordI_eq h]
    subst h
    go_enter Try.func88, Try.ntmps88
    go_wp2_with (go_at_call 111; refine (cmpnan_any _ _).mono ?_; rintro e w' ⟨rfl, rfl⟩)
    go_ret
    exact ⟨rfl, rfl⟩
  · rw [ordI_gt h]
    have h2 : ¬ a < b := by omega
    go_enter Try.func88, Try.ntmps88
    go_wp2_with (go_at_call 111; refine (cmpnan_any _ _).mono ?_; rintro e w' ⟨rfl, rfl⟩)
    go_ret
    exact ⟨rfl, rfl⟩
/-- May a count be? -/
def cntB (n : Int) : Bool := decide (0 ≤ n ∧ n ≤ 1099511627776)
theorem count_any (n : Int) (w : World) : Calls Try.prog 98 #[.int .i64 n] w fun e w' => e = .returned (.bool (cntB n)) ∧ w' = w := by
  unfold cntB
  by_cases h : 0 ≤ n
  · by_cases h2 : n ≤ 1099511627776
    · rw [decide_eq_true ⟨h, h2⟩]
      go_enter Try.func98, Try.ntmps98
      go_wp2
      go_ret
      exact ⟨rfl, rfl⟩
    · rw [decide_eq_false (by omega)]
      have h3 : decide (n ≤ 1099511627776) = false := decide_eq_false h2
      clear h2
      go_enter Try.func98, Try.ntmps98
      go_wp2
      go_ret
      exact ⟨rfl, rfl⟩
  · rw [decide_eq_false (by omega)]
    have h3 : decide (0 ≤ n) = false := decide_eq_false h
    clear h
    go_enter Try.func98, Try.ntmps98
    go_wp2
    go_ret
    exact ⟨rfl, rfl⟩
/-- The first that is not 0. -/
theorem cmpor_any (x0 x1 x2 x3 x4 : Int) (g : Nat) (w : World) (hR : Blk w g 3 #[.int .i64 x0, .int .i64 x1, .int .i64 x2, .int .i64 x3, .int .i64 x4]) :
    Calls Try.prog 87 #[.slice (some ⟨g, 0, none⟩) 5 5] w fun e w' => e = .returned (.int .i64 (firstNz [x0, x1, x2, x3, x4])) ∧ w' = w := by
  have r0 := hR.cell 0
  have r1 := hR.cell 1
  have r2 := hR.cell 2
  have r3 := hR.cell 3
  have r4 := hR.cell 4
  simp only [List.getElem?_toArray, List.getElem?_cons_zero, List.getElem?_cons_succ] at r0 r1 r2 r3 r4
  clear hR
  by_cases h0 : x0 = 0
  · have e0 : firstNz [x0, x1, x2, x3, x4] = firstNz [x1, x2, x3, x4] := if_pos h0
    rw [e0]
    subst h0
    clear e0
    by_cases h1 : x1 = 0
    · have e1 : firstNz [x1, x2, x3, x4] = firstNz [x2, x3, x4] := if_pos h1
      rw [e1]
      subst h1
      clear e1
      by_cases h2 : x2 = 0
      · have e2 : firstNz [x2, x3, x4] = firstNz [x3, x4] := if_pos h2
        rw [e2]
        subst h2
        clear e2
        by_cases h3 : x3 = 0
        · have e3 : firstNz [x3, x4] = x4 := by
            unfold firstNz
            rw [if_pos h3]
            unfold firstNz
            split
            · rename_i h
              rw [h]
              rfl
            · rfl
          rw [e3]
          subst h3
          clear e3
          by_cases h4 : x4 = 0
          · subst h4
            go_enter Try.func87, Try.ntmps87
            go_wp2_with fail
            refine wp_loop_rounds 6 ?_
            rw [rounds_succ]; go_wp2
            rw [rounds_succ]; go_wp2
            rw [rounds_succ]; go_wp2
            rw [rounds_succ]; go_wp2
            rw [rounds_succ]; go_wp2
            rw [rounds_succ]; go_wp2
            go_ret
            exact ⟨rfl, rfl⟩
          · have n4 : (x4 != 0) = true := by rw [bne_iff_ne]; exact h4
            clear h4
            go_enter Try.func87, Try.ntmps87
            go_wp2_with fail
            refine wp_loop_rounds 5 ?_
            rw [rounds_succ]; go_wp2
            rw [rounds_succ]; go_wp2
            rw [rounds_succ]; go_wp2
            rw [rounds_succ]; go_wp2
            rw [rounds_succ]; go_wp2
            go_ret
            exact ⟨rfl, rfl⟩
        · have n3 : (x3 != 0) = true := by rw [bne_iff_ne]; exact h3
          have e3 : firstNz [x3, x4] = x3 := if_neg h3
          rw [e3]
          clear h3 e3
          go_enter Try.func87, Try.ntmps87
          go_wp2_with fail
          refine wp_loop_rounds 4 ?_
          rw [rounds_succ]; go_wp2
          rw [rounds_succ]; go_wp2
          rw [rounds_succ]; go_wp2
          rw [rounds_succ]; go_wp2
          go_ret
          exact ⟨rfl, rfl⟩
      · have n2 : (x2 != 0) = true := by rw [bne_iff_ne]; exact h2
        have e2 : firstNz [x2, x3, x4] = x2 := if_neg h2
        rw [e2]
        clear h2 e2
        go_enter Try.func87, Try.ntmps87
        go_wp2_with fail
        refine wp_loop_rounds 3 ?_
        rw [rounds_succ]; go_wp2
        rw [rounds_succ]; go_wp2
        rw [rounds_succ]; go_wp2
        go_ret
        exact ⟨rfl, rfl⟩
    · have n1 : (x1 != 0) = true := by rw [bne_iff_ne]; exact h1
      have e1 : firstNz [x1, x2, x3, x4] = x1 := if_neg h1
      rw [e1]
      clear h1 e1
      go_enter Try.func87, Try.ntmps87
      go_wp2_with fail
      refine wp_loop_rounds 2 ?_
      rw [rounds_succ]; go_wp2
      rw [rounds_succ]; go_wp2
      go_ret
      exact ⟨rfl, rfl⟩
  · have n0 : (x0 != 0) = true := by rw [bne_iff_ne]; exact h0
    have e0 : firstNz [x0, x1, x2, x3, x4] = x0 := if_neg h0
    rw [e0]
    clear h0 e0
    go_enter Try.func87, Try.ntmps87
    go_wp2_with fail
    refine wp_loop_rounds 1 ?_
    rw [rounds_succ]; go_wp2
    go_ret
    exact ⟨rfl, rfl⟩
theorem times_same (a b : Nat) (w : World) : Calls Try.prog 73 #[.float .f64 a, .float .f64 b] w fun e w' => e = .returned (.int .i64 (timesI a b)) ∧ w' = w := by
  refine (times_any a b w).mono ?_
  rintro e w' ⟨rfl, rfl⟩
  exact ⟨rfl, rfl⟩
set_option maxHeartbeats 4000000 in
theorem actcmp_any (t : Nat) (s n d p : Int) (u : Nat) (s' n' d' p' : Int) (w : World) :
    Calls Try.prog 54 #[.agg #[.float .f64 t, .int .i64 s, .int .i64 n, .int .i64 d, .int .i64 p], .agg #[.float .f64 u, .int .i64 s', .int .i64 n', .int .i64 d', .int .i64 p']] w fun e w' => e = .returned (.int .i64 (firstNz (evL t s n d p u s' n' d' p'))) ∧ Below w.heap.size w w' := by
  have hz : ∀ o, (w.alloc o).heap.size = w.heap.size + 1 := fun o => Array.size_push ..
  have hA := (Blk.new w 37 #[.float .f64 t, .int .i64 s, .int .i64 n, .int .i64 d, .int .i64 p]).alloc (.cells #[.float .f64 u, .int .i64 s', .int .i64 n', .int .i64 d', .int .i64 p'] 37)
  have hB := Blk.new (w.alloc (.cells #[.float .f64 t, .int .i64 s, .int .i64 n, .int .i64 d, .int .i64 p] 37)) 37 #[.float .f64 u, .int .i64 s', .int .i64 n', .int .i64 d', .int .i64 p']
  have hb : Below w.heap.size w ((w.alloc (.cells #[.float .f64 t, .int .i64 s, .int .i64 n, .int .i64 d, .int .i64 p] 37)).alloc (.cells #[.float .f64 u, .int .i64 s', .int .i64 n', .int .i64 d', .int .i64 p'] 37)) := Below.alloc (Below.alloc (Below.refl _ _) (Nat.le_refl _) _) (by rw [hz]; omega) _
  rw [hz] at hB
  clear hz
  go_enter Try.func54, Try.ntmps54
  go_wp2_with fail
  generalize hW : (w.alloc _).alloc _ = W0 at *
  refine wp_region_still_tail 31 (by kernel_rfl) (by kernel_rfl) ?_
  change wpStill _ _ W0.drew _ _ _
  replace hA := hA.drew
  replace hB := hB.drew
  replace hb := hb.drew
  change wpStill _ _ _ (fun a' => wpList Try.prog _ _ _ a' W0.drew) _ _
  generalize W0.drew = W1 at *
  have c0 := hA.cell 0
  have c1 := hA.cell 1
  have c2 := hA.cell 2
  have c3 := hA.cell 3
  have c4 := hA.cell 4
  have d0 := hB.cell 0
  have d1 := hB.cell 1
  have d2 := hB.cell 2
  have d3 := hB.cell 3
  have d4 := hB.cell 4
  simp only [List.take_succ_cons, List.take_zero, List.drop_succ_cons, List.drop_zero]
  repeat (first
    | still_step
    | (still_call (times_same _ _ _))
    | (still_call (cmpint_any _ _ _)))
  refine wpStill_nil ?_
  clear c0 c1 c2 c3 c4 d0 d1 d2 d3 d4
  have hL : evL t s n d p u s' n' d' p' = [timesI t u, ordI d d', ordI s s', ordI n n', ordI p p'] := rfl
  generalize timesI t u = x0 at *
  generalize ordI d d' = x1 at *
  generalize ordI s s' = x2 at *
  generalize ordI n n' = x3 at *
  generalize ordI p p' = x4 at *
  have HE := hide (congrArg firstNz hL.symm)
  clear hL hW
  have hR := Blk.new W1 3 #[.int .i64 x0, .int .i64 x1, .int .i64 x2, .int .i64 x3, .int .i64 x4]
  have hb2 : Below w.heap.size w (W1.alloc (.cells #[.int .i64 x0, .int .i64 x1, .int .i64 x2, .int .i64 x3, .int .i64 x4] 3)) := hb.alloc hb.size _
  go_wp2_with fail
  refine (cmpor_any _ _ _ _ _ _ _ hR).mono ?_
  rintro e w' ⟨rfl, rfl⟩
  go_wp2_with fail
  go_ret
  exact ⟨ret_int HE.out, hb2⟩
end Go.Proofs.Ytpfcmfannkbipaa
end

section
set_option linter.unusedVariables false
namespace Go.Proofs.Ytpfcmfannkbipaa
open Go.RowKit

/-- Stirring, on natural numbers. -/
def stirN (z : Nat) : Nat :=
  let a := (z ^^^ z / 1073741824) * 13787848793156543929 % 18446744073709551616
  let b := (a ^^^ a / 134217728) * 10723151780598845931 % 18446744073709551616
  b ^^^ b / 2147483648
def stirI (z : Int) : Int := (stirN z.toNat : Int)
def stepI (z n : Int) : Int := stirI ((z + (n + 1) * 11400714819323198485) % 18446744073709551616)
def wordI (s p : Int) : Int := stepI (s % 18446744073709551616) p
def rollI (s p c : Int) : Int := stepI (wordI s p) c
def belowI (r n : Int) : Int := if n < 1 then 0 else r % n

theorem xs_lt (a s : Nat) (h : a < 18446744073709551616) : a ^^^ a / s < 18446744073709551616 := by
  have : a ^^^ a / s < 2 ^ 64 := Nat.xor_lt_two_pow (by omega) (Nat.lt_of_le_of_lt (Nat.div_le_self _ _) (by omega))
  omega
theorem stirN_lt (z : Nat) : stirN z < 18446744073709551616 := by
  unfold stirN
  exact xs_lt _ _ (by omega)
theorem stirI_nn (z : Int) : 0 ≤ stirI z := by unfold stirI; omega
theorem stirI_lt (z : Int) : stirI z ≤ 18446744073709551615 := by
  unfold stirI
  have := stirN_lt z.toNat
  omega
theorem stepI_nn (z n : Int) : 0 ≤ stepI z n := stirI_nn _
theorem stepI_lt (z n : Int) : stepI z n ≤ 18446744073709551615 := stirI_lt _
theorem rollI_nn (s p c : Int) : 0 ≤ rollI s p c := stirI_nn _
theorem rollI_lt (s p c : Int) : rollI s p c ≤ 18446744073709551615 := stirI_lt _

theorem mixs (X s C : Nat) (hX : X < 18446744073709551616) :
    IntKind.u64.wrap (bits .xor .u64 (X : Int) ((X : Int) / (s : Int)) * (C : Int)) = (((X ^^^ X / s) * C % 18446744073709551616 : Nat) : Int) := mixStep_u64 X s C hX

/-- The walk's own spelling of dice.Stir. -/
theorem stir_walk (z : Int) (h0 : 0 ≤ z) (h1 : z ≤ 18446744073709551615) :
    bits .xor .u64 (IntKind.u64.wrap (bits .xor .u64 (IntKind.u64.wrap (bits .xor .u64 z (z / 1073741824) * 13787848793156543929)) (IntKind.u64.wrap (bits .xor .u64 z (z / 1073741824) * 13787848793156543929) / 134217728) * 10723151780598845931))
      (IntKind.u64.wrap (bits .xor .u64 (IntKind.u64.wrap (bits .xor .u64 z (z / 1073741824) * 13787848793156543929)) (IntKind.u64.wrap (bits .xor .u64 z (z / 1073741824) * 13787848793156543929) / 134217728) * 10723151780598845931) / 2147483648) = stirI z := by
  obtain ⟨n, rfl⟩ := Int.eq_ofNat_of_zero_le h0
  have hn : n < 18446744073709551616 := by omega
  have e1 := mixs n 1073741824 13787848793156543929 hn
  have l1 : (n ^^^ n / 1073741824) * 13787848793156543929 % 18446744073709551616 < 18446744073709551616 := Nat.mod_lt _ (by decide)
  have e2 := mixs _ 134217728 10723151780598845931 l1
  have e3 := xorShift_u64 _ 2147483648 (Nat.mod_lt ((((n ^^^ n / 1073741824) * 13787848793156543929 % 18446744073709551616) ^^^ ((n ^^^ n / 1073741824) * 13787848793156543929 % 18446744073709551616) / 134217728) * 10723151780598845931) (by decide : 0 < 18446744073709551616))
  simp only [Int.cast_ofNat_Int] at e1 e2 e3
  rw [e1, e2, e3]
  rfl

/-- The walk's own spelling of the reference's Stir. -/
theorem rstir_walk (z : Int) (h0 : 0 ≤ z) (h1 : z ≤ 18446744073709551615) :
    bits .xor .u64 (IntKind.u64.wrap (bits .xor .u64 (IntKind.u64.wrap (bits .xor .u64 z (z / 1073741824) * 13787848793156543929)) (IntKind.u64.wrap ((IntKind.u64.wrap (bits .xor .u64 z (z / 1073741824) * 13787848793156543929)).tdiv 134217728)) * 10723151780598845931))
      (IntKind.u64.wrap ((IntKind.u64.wrap (bits .xor .u64 (IntKind.u64.wrap (bits .xor .u64 z (z / 1073741824) * 13787848793156543929)) (IntKind.u64.wrap ((IntKind.u64.wrap (bits .xor .u64 z (z / 1073741824) * 13787848793156543929)).tdiv 134217728)) * 10723151780598845931)).tdiv 2147483648)) = stirI z := by
  have key : ∀ x k : Int, 0 < k → IntKind.u64.wrap ((IntKind.u64.wrap x).tdiv k) = IntKind.u64.wrap x / k := by
    intro x k hk
    rw [IntKind.wrap_u64, IntKind.wrap_u64]
    have h : 0 ≤ x % 18446744073709551616 := by omega
    have h2 : x % 18446744073709551616 < 18446744073709551616 := by omega
    rw [Int.tdiv_eq_ediv_of_nonneg h]
    have h3 : 0 ≤ x % 18446744073709551616 / k := Int.ediv_nonneg h (by omega)
    have h4 : x % 18446744073709551616 / k ≤ x % 18446744073709551616 := Int.ediv_le_self _ h
    omega
  rw [key _ 134217728 (by decide), key _ 2147483648 (by decide)]
  exact stir_walk z h0 h1

theorem step_arg (z n : Int) : IntKind.u64.wrap (z + IntKind.u64.wrap (IntKind.u64.wrap (IntKind.u64.wrap n + 1) * 11400714819323198485)) = (z + (n + 1) * 11400714819323198485) % 18446744073709551616 := by
  simp only [IntKind.wrap_u64]
  omega

/-! ### Stirring loses nothing -/
theorem xorshift_inj (s : Nat) (a b : BitVec 64) (hs : 22 ≤ s) (h : a ^^^ a >>> s = b ^^^ b >>> s) : a = b := by
  have h1 : a ^^^ b = (a ^^^ b) >>> s := by
    have e : (a ^^^ b) >>> s = a >>> s ^^^ b >>> s := BitVec.ushiftRight_xor_distrib a b s
    rw [e]
    have : a ^^^ (a ^^^ a >>> s) = a ^^^ (b ^^^ b >>> s) := by rw [h]
    rw [← BitVec.xor_assoc, BitVec.xor_self, BitVec.zero_xor] at this
    rw [this]
    rw [← BitVec.xor_assoc, BitVec.xor_assoc (a ^^^ b), BitVec.xor_self, BitVec.xor_zero]
  have h3 : a ^^^ b = (((a ^^^ b) >>> s) >>> s) >>> s := by rw [← h1, ← h1, ← h1]
  have h4 : a ^^^ b = 0#64 := by
    rw [h3]
    apply BitVec.eq_of_toNat_eq
    simp only [BitVec.toNat_ushiftRight, BitVec.toNat_ofNat, Nat.zero_mod, ← Nat.shiftRight_add]
    rw [Nat.shiftRight_eq_div_pow]
    apply Nat.div_eq_of_lt
    have := (a ^^^ b).isLt
    exact Nat.lt_of_lt_of_le this (Nat.pow_le_pow_right (by decide) (by omega))
  have h5 : a ^^^ (a ^^^ b) = a := by rw [h4, BitVec.xor_zero]
  rw [← BitVec.xor_assoc, BitVec.xor_self, BitVec.zero_xor] at h5
  exact h5.symm

theorem mul_inj (c d a b : BitVec 64) (hcd : c * d = 1#64) (h : a * c = b * c) : a = b := by
  have : a * c * d = b * c * d := by rw [h]
  rwa [BitVec.mul_assoc, BitVec.mul_assoc, hcd, BitVec.mul_one, BitVec.mul_one] at this

def stirB (z : BitVec 64) : BitVec 64 :=
  let a := (z ^^^ z >>> 30) * 13787848793156543929#64
  let b := (a ^^^ a >>> 27) * 10723151780598845931#64
  b ^^^ b >>> 31

theorem stirB_inj (a b : BitVec 64) (h : stirB a = stirB b) : a = b := by
  have h1 := xorshift_inj 31 _ _ (by decide) h
  have h2 := mul_inj 10723151780598845931#64 3573116690164977347#64 _ _ (by decide) h1
  have h3 := xorshift_inj 27 _ _ (by decide) h2
  have h4 := mul_inj 13787848793156543929#64 10871156337175269513#64 _ _ (by decide) h3
  exact xorshift_inj 30 _ _ (by decide) h4

theorem xs_toNat (a : BitVec 64) (s k : Nat) (hk : 2 ^ s = k) : (a ^^^ a >>> s).toNat = a.toNat ^^^ a.toNat / k := by
  rw [BitVec.toNat_xor, BitVec.toNat_ushiftRight, Nat.shiftRight_eq_div_pow, hk]
theorem stirN_eq (z : BitVec 64) : stirN z.toNat = (stirB z).toNat := by
  have e : ∀ (x : BitVec 64) (c : BitVec 64), (x * c).toNat = x.toNat * c.toNat % 18446744073709551616 := fun x c => BitVec.toNat_mul x c
  unfold stirN stirB
  simp only [xs_toNat _ 30 1073741824 rfl, xs_toNat _ 27 134217728 rfl, xs_toNat _ 31 2147483648 rfl, e, BitVec.toNat_ofNat]
theorem stirN_inj (a b : Nat) (ha : a < 18446744073709551616) (hb : b < 18446744073709551616) (h : stirN a = stirN b) : a = b := by
  have ea : (BitVec.ofNat 64 a).toNat = a := by rw [BitVec.toNat_ofNat]; exact Nat.mod_eq_of_lt ha
  have eb : (BitVec.ofNat 64 b).toNat = b := by rw [BitVec.toNat_ofNat]; exact Nat.mod_eq_of_lt hb
  rw [← ea, ← eb, stirN_eq, stirN_eq] at h
  have := stirB_inj _ _ (BitVec.eq_of_toNat_eq h)
  rw [← ea, ← eb, this]
theorem stirI_inj (a b : Int) (ha : 0 ≤ a) (ha' : a ≤ 18446744073709551615) (hb : 0 ≤ b) (hb' : b ≤ 18446744073709551615) : stirI a = stirI b ↔ a = b := by
  constructor
  · intro h
    unfold stirI at h
    have := stirN_inj a.toNat b.toNat (by omega) (by omega) (by omega)
    omega
  · intro h; rw [h]
theorem golden_back (a : Int) : a * 11400714819323198485 * 17428512612931826493 % 18446744073709551616 = a % 18446744073709551616 := by
  have h : a * 11400714819323198485 * 17428512612931826493 = a + 18446744073709551616 * (a * 10771413168148108919) := by
    rw [Int.mul_assoc, show (11400714819323198485 : Int) * 17428512612931826493 = 1 + 18446744073709551616 * 10771413168148108919 from by decide, Int.mul_add, Int.mul_one, Int.mul_left_comm]
  rw [h, Int.add_mul_emod_self_left]
theorem stepI_inj (z a b : Int) (ha : -9223372036854775808 ≤ a) (ha' : a ≤ 9223372036854775807) (hb : -9223372036854775808 ≤ b) (hb' : b ≤ 9223372036854775807) : stepI z a = stepI z b ↔ a = b := by
  constructor
  · intro h
    unfold stepI at h
    have ra : ∀ x : Int, 0 ≤ x % 18446744073709551616 ∧ x % 18446744073709551616 ≤ 18446744073709551615 := fun x => by omega
    have h0 := (stirI_inj _ _ (ra _).1 (ra _).2 (ra _).1 (ra _).2).1 h
    have h1 := Int.emod_eq_emod_iff_emod_sub_eq_zero.1 h0
    have e : (z + (a + 1) * 11400714819323198485) - (z + (b + 1) * 11400714819323198485) = (a - b) * 11400714819323198485 := by
      rw [Int.add_mul, Int.add_mul, Int.sub_mul]
      generalize a * 11400714819323198485 = x
      generalize b * 11400714819323198485 = y
      clear h0 h1 ha ha' hb hb' ra h
      omega
    rw [e] at h1
    have h2 : ((a - b) * 11400714819323198485 * 17428512612931826493) % 18446744073709551616 = 0 := by
      rw [Int.mul_emod, h1, Int.zero_mul, Int.zero_emod]
    rw [golden_back] at h2
    clear e h1 h0 h
    omega
  · intro h; rw [h]

/-- Below, as the reference spells it. -/
theorem below_ref (r n : Int) (h0 : 0 ≤ r) (hn : 1 ≤ n) : r - r / n * n = r % n := by
  rw [Int.emod_def, Int.mul_comm]
theorem emod_le_self_aux (r n : Int) (h0 : 0 ≤ r) (hn : 1 ≤ n) : r % n ≤ r := by
  have h : r / n * n = r - r % n := by rw [← below_ref r n h0 hn]; omega
  have h1 : 0 ≤ r / n := Int.ediv_nonneg h0 (by omega)
  have h2 : 0 ≤ r / n * n := Int.mul_nonneg h1 (by omega)
  omega
theorem belowI_lo (r n : Int) : 0 ≤ belowI r n := by
  unfold belowI
  split
  · omega
  · exact Int.emod_nonneg _ (by omega)
theorem belowI_hi (r n : Int) (hn : 1 ≤ n) : belowI r n < n := by
  unfold belowI
  rw [if_neg (by omega)]
  exact Int.emod_lt_of_pos _ (by omega)
end Go.Proofs.Ytpfcmfannkbipaa
end
