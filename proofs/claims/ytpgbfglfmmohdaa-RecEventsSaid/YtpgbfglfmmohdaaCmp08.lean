/- The walk of R08.Compare: how events are ordered. No condition. -/
import Derived.Test.YtpgbfglfmmohdaaStamp2
import Derived.StillTailTactics
set_option linter.unusedVariables false
set_option maxRecDepth 20000
namespace Go.Proofs.Ytpgbfglfmmohdaa
open Go.RowKit Go.Deep

attribute [local go_sem] run_store_float
theorem less08_any (a b : Int) (w : World) : Calls Try.prog 99 #[.int .i64 a, .int .i64 b] w fun e w' => e = .returned (.int .i64 (ordI a b)) ∧ w' = w := by
  rcases Int.lt_trichotomy a b with h | h | h
  · rw [ordI_lt h]
    go_enter Try.func99, Try.ntmps99
    go_wp2
    go_ret
    exact ⟨rfl, rfl⟩
  · rw [ordI_eq h]
    subst h
    go_enter Try.func99, Try.ntmps99
    go_wp2
    go_ret
    exact ⟨rfl, rfl⟩
  · rw [ordI_gt h]
    have h2 : ¬ a < b := by omega
    go_enter Try.func99, Try.ntmps99
    go_wp2
    go_ret
    exact ⟨rfl, rfl⟩
theorem rtimes_same (a b : Nat) (w : World) : Calls Try.prog 38 #[.float .f64 a, .float .f64 b] w fun e w' => e = .returned (.int .i64 (timesI a b)) ∧ w' = w := by
  refine (rtimes_any a b w).mono ?_
  rintro e w' ⟨rfl, rfl⟩
  exact ⟨rfl, rfl⟩
def firstNz : List Int → Int
  | [] => 0
  | x :: r => if x = 0 then firstNz r else x
theorem firstNz_drop : ∀ (L : List Int) (k : Nat) (x : Int), L[k]? = some x → firstNz (L.drop k) = if x = 0 then firstNz (L.drop (k + 1)) else x := by
  intro L k x h
  obtain ⟨hk, rfl⟩ := List.getElem?_eq_some_iff.1 h
  rw [List.drop_eq_getElem_cons hk]
  rfl
def evL (t : Nat) (s n d p : Int) (u : Nat) (s' n' d' p' : Int) : List Int := [timesI t u, ordI d d', ordI s s', ordI n n', ordI p p']
def CmpRel (W2 : World) (L : List Int) (i : Value) (wr : World) : Prop := ∃ k : Nat, k ≤ 5 ∧ i = .int .i64 k ∧ firstNz (L.drop k) = firstNz L ∧ W2 = wr
set_option maxHeartbeats 4000000 in
theorem cmp08_any (t : Nat) (s n d p : Int) (u : Nat) (s' n' d' p' : Int) (w : World) :
    Calls Try.prog 59 #[.agg #[.float .f64 t, .int .i64 s, .int .i64 n, .int .i64 d, .int .i64 p], .agg #[.float .f64 u, .int .i64 s', .int .i64 n', .int .i64 d', .int .i64 p']] w fun e w' => e = .returned (.int .i64 (firstNz (evL t s n d p u s' n' d' p'))) ∧ Below w.heap.size w w' := by
  have hz : ∀ o, (w.alloc o).heap.size = w.heap.size + 1 := fun o => Array.size_push ..
  have hA := (Blk.new w 70 #[.float .f64 t, .int .i64 s, .int .i64 n, .int .i64 d, .int .i64 p]).alloc (.cells #[.float .f64 u, .int .i64 s', .int .i64 n', .int .i64 d', .int .i64 p'] 70)
  have hB := Blk.new (w.alloc (.cells #[.float .f64 t, .int .i64 s, .int .i64 n, .int .i64 d, .int .i64 p] 70)) 70 #[.float .f64 u, .int .i64 s', .int .i64 n', .int .i64 d', .int .i64 p']
  have hb : Below w.heap.size w ((w.alloc (.cells #[.float .f64 t, .int .i64 s, .int .i64 n, .int .i64 d, .int .i64 p] 70)).alloc (.cells #[.float .f64 u, .int .i64 s', .int .i64 n', .int .i64 d', .int .i64 p'] 70)) := Below.alloc (Below.alloc (Below.refl _ _) (Nat.le_refl _) _) (by rw [hz]; omega) _
  rw [hz] at hB
  clear hz
  go_enter Try.func59, Try.ntmps59
  go_wp2_with fail
  generalize hW : (w.alloc _).alloc _ = W0 at *
  refine wp_region_still_tail 31 (by kernel_rfl) (by kernel_rfl) ?_
  change wpStill _ _ W0.drew _ _ _
  replace hA := hA.drew
  replace hB := hB.drew
  replace hb := hb.drew
  change wpStill _ _ _ (fun a' => wpList Try.prog _ _ _ a' W0.drew) _ _
  generalize W0.drew = W1 at *
  have c0 := hA.cell 0
  have c1 := hA.cell 1
  have c2 := hA.cell 2
  have c3 := hA.cell 3
  have c4 := hA.cell 4
  have d0 := hB.cell 0
  have d1 := hB.cell 1
  have d2 := hB.cell 2
  have d3 := hB.cell 3
  have d4 := hB.cell 4
  simp only [List.take_succ_cons, List.take_zero, List.drop_succ_cons, List.drop_zero]
  repeat (first
    | still_step
    | (still_call (rtimes_same _ _ _))
    | (still_call (less08_any _ _ _)))
  refine wpStill_nil ?_
  clear c0 c1 c2 c3 c4 d0 d1 d2 d3 d4
  have hL : evL t s n d p u s' n' d' p' = [timesI t u, ordI d d', ordI s s', ordI n n', ordI p p'] := rfl
  generalize timesI t u = x0 at *
  generalize ordI d d' = x1 at *
  generalize ordI s s' = x2 at *
  generalize ordI n n' = x3 at *
  generalize ordI p p' = x4 at *
  have HE := hide (congrArg firstNz hL.symm)
  clear hL
  go_wp2_with fail
  have hR := Blk.new W1 3 #[.int .i64 x0, .int .i64 x1, .int .i64 x2, .int .i64 x3, .int .i64 x4]
  have hb2 : Below w.heap.size w (W1.alloc (.cells #[.int .i64 x0, .int .i64 x1, .int .i64 x2, .int .i64 x3, .int .i64 x4] 3)) := hb.alloc hb.size _
  generalize W1.alloc (.cells #[.int .i64 x0, .int .i64 x1, .int .i64 x2, .int .i64 x3, .int .i64 x4] 3) = W2 at *
  generalize W1.heap.size = g at *
  have r0 := hR.cell 0
  have r1 := hR.cell 1
  have r2 := hR.cell 2
  have r3 := hR.cell 3
  have r4 := hR.cell 4
  simp only [List.getElem?_toArray, List.getElem?_cons_zero, List.getElem?_cons_succ] at r0 r1 r2 r3 r4
  clear hR hA hB hb hW
  go_loopw [6] (fun i wr => CmpRel W2 [x0, x1, x2, x3, x4] i wr) (fun i _ => 5 - (intOf i).toNat)
  case atStart => exact ⟨0, Nat.zero_le _, rfl, rfl, rfl⟩
  case round =>
    obtain ⟨k, hk, rfl, hf, rfl⟩ := hrel
    rcases (by omega : k = 0 ∨ k = 1 ∨ k = 2 ∨ k = 3 ∨ k = 4 ∨ k = 5) with rfl | rfl | rfl | rfl | rfl | rfl
    · by_cases hx : x0 = 0
      · have HN := hide ((firstNz_drop [x0, x1, x2, x3, x4] 0 x0 rfl).trans (if_pos hx))
        have hne : (x0 != 0) = false := by rw [hx]; rfl
        clear hx
        go_wp2_with fail
        go_roundw
        case rel => exact ⟨1, by omega, by first | rfl | go_num, HN.out.symm.trans hf, rfl⟩
        case measure => simp [intOf]
      · have HN := hide ((firstNz_drop [x0, x1, x2, x3, x4] 0 x0 rfl).trans (if_neg hx))
        have hne : (x0 != 0) = true := by rw [bne_iff_ne]; exact hx
        clear hx
        go_wp2_with fail
        go_ret
        exact ⟨ret_int ((HN.out.symm.trans hf).trans HE.out), hb2⟩
    · by_cases hx : x1 = 0
      · have HN := hide ((firstNz_drop [x0, x1, x2, x3, x4] 1 x1 rfl).trans (if_pos hx))
        have hne : (x1 != 0) = false := by rw [hx]; rfl
        clear hx
        go_wp2_with fail
        go_roundw
        case rel => exact ⟨2, by omega, by first | rfl | go_num, HN.out.symm.trans hf, rfl⟩
        case measure => simp [intOf]
      · have HN := hide ((firstNz_drop [x0, x1, x2, x3, x4] 1 x1 rfl).trans (if_neg hx))
        have hne : (x1 != 0) = true := by rw [bne_iff_ne]; exact hx
        clear hx
        go_wp2_with fail
        go_ret
        exact ⟨ret_int ((HN.out.symm.trans hf).trans HE.out), hb2⟩
    · by_cases hx : x2 = 0
      · have HN := hide ((firstNz_drop [x0, x1, x2, x3, x4] 2 x2 rfl).trans (if_pos hx))
        have hne : (x2 != 0) = false := by rw [hx]; rfl
        clear hx
        go_wp2_with fail
        go_roundw
        case rel => exact ⟨3, by omega, by first | rfl | go_num, HN.out.symm.trans hf, rfl⟩
        case measure => simp [intOf]
      · have HN := hide ((firstNz_drop [x0, x1, x2, x3, x4] 2 x2 rfl).trans (if_neg hx))
        have hne : (x2 != 0) = true := by rw [bne_iff_ne]; exact hx
        clear hx
        go_wp2_with fail
        go_ret
        exact ⟨ret_int ((HN.out.symm.trans hf).trans HE.out), hb2⟩
    · by_cases hx : x3 = 0
      · have HN := hide ((firstNz_drop [x0, x1, x2, x3, x4] 3 x3 rfl).trans (if_pos hx))
        have hne : (x3 != 0) = false := by rw [hx]; rfl
        clear hx
        go_wp2_with fail
        go_roundw
        case rel => exact ⟨4, by omega, by first | rfl | go_num, HN.out.symm.trans hf, rfl⟩
        case measure => simp [intOf]
      · have HN := hide ((firstNz_drop [x0, x1, x2, x3, x4] 3 x3 rfl).trans (if_neg hx))
        have hne : (x3 != 0) = true := by rw [bne_iff_ne]; exact hx
        clear hx
        go_wp2_with fail
        go_ret
        exact ⟨ret_int ((HN.out.symm.trans hf).trans HE.out), hb2⟩
    · by_cases hx : x4 = 0
      · have HN := hide ((firstNz_drop [x0, x1, x2, x3, x4] 4 x4 rfl).trans (if_pos hx))
        have hne : (x4 != 0) = false := by rw [hx]; rfl
        clear hx
        go_wp2_with fail
        go_roundw
        case rel => exact ⟨5, by omega, by first | rfl | go_num, HN.out.symm.trans hf, rfl⟩
        case measure => simp [intOf]
      · have HN := hide ((firstNz_drop [x0, x1, x2, x3, x4] 4 x4 rfl).trans (if_neg hx))
        have hne : (x4 != 0) = true := by rw [bne_iff_ne]; exact hx
        clear hx
        go_wp2_with fail
        go_ret
        exact ⟨ret_int ((HN.out.symm.trans hf).trans HE.out), hb2⟩
    · go_wp2_with fail
      go_ret
      exact ⟨ret_int (hf.trans HE.out), hb2⟩
end Go.Proofs.Ytpgbfglfmmohdaa
