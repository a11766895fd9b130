/- The walk of law20's RecOrders. No condition but the kinds' bounds. -/
import Derived.Test.YtpgbfglfmmohdaaAw20
set_option linter.unusedVariables false
set_option linter.unusedSimpArgs false
set_option maxRecDepth 20000
namespace Go.Proofs.Ytpgbfglfmmohdaa
open Go.RowKit Go.Deep

attribute [local go_sem] run_store_float
set_option maxHeartbeats 2000000 in
theorem orders20_walk (t : Nat) (s n d p : Int) (u : Nat) (s' n' d' p' : Int) (w : World) (ht : t < 18446744073709551616) (hu : u < 18446744073709551616)
    (hp : -9223372036854775808 ≤ p ∧ p ≤ 9223372036854775807) (hp' : -9223372036854775808 ≤ p' ∧ p' ≤ 9223372036854775807) :
    Calls Try.prog 17 #[.agg #[.float .f64 t, .int .i64 s, .int .i64 n, .int .i64 d, .int .i64 p], .agg #[.float .f64 u, .int .i64 s', .int .i64 n', .int .i64 d', .int .i64 p']] w fun e w' => e = .returned (.bool true) ∧ Below w.heap.size w w' := by
  have HK1 := hide fun W => reckey_any t s n d p W ht
  have HK2 := hide fun W => reckey_any u s' n' d p' W hu
  have HL := hide fun h h' => keyR_less t u s n p s' n' p' d d ht hu h h' hp hp' d
  have HC := hide fun W => cmp08_any t s n d p u s' n' d p' W
  have V1 : Hid (rightE t s n d = true → keyV t s n d p = keyR t s n p) := hide (fun h => if_pos h)
  have V2 : Hid (rightE u s' n' d = true → keyV u s' n' d p' = keyR u s' n' p') := hide (fun h => if_pos h)
  have hz : ∀ o, (w.alloc o).heap.size = w.heap.size + 1 := fun o => Array.size_push ..
  have hA := (Blk.new w 70 #[.float .f64 t, .int .i64 s, .int .i64 n, .int .i64 d, .int .i64 p]).alloc (.cells #[.float .f64 u, .int .i64 s', .int .i64 n', .int .i64 d', .int .i64 p'] 70)
  have hB := Blk.new (w.alloc (.cells #[.float .f64 t, .int .i64 s, .int .i64 n, .int .i64 d, .int .i64 p] 70)) 70 #[.float .f64 u, .int .i64 s', .int .i64 n', .int .i64 d', .int .i64 p']
  have hb : Below w.heap.size w ((w.alloc (.cells #[.float .f64 t, .int .i64 s, .int .i64 n, .int .i64 d, .int .i64 p] 70)).alloc (.cells #[.float .f64 u, .int .i64 s', .int .i64 n', .int .i64 d', .int .i64 p'] 70)) := Below.alloc (Below.alloc (Below.refl _ _) (Nat.le_refl _) _) (by rw [hz]; omega) _
  rw [hz] at hB
  clear hz ht hu hp hp'
  go_enter Try.func17, Try.ntmps17
  go_upto_region 1 with fail
  generalize (w.alloc _).alloc _ = W0 at *
  have a0 := hA.cell 0
  have a1 := hA.cell 1
  have a2 := hA.cell 2
  have a3 := hA.cell 3
  have a4 := hA.cell 4
  have b0 := hB.cell 0
  have b1 := hB.cell 1
  have b2 := hB.cell 2
  have b3 := hB.cell 3
  have b4 := hB.cell 4
  have f3 := hB.frozen 3
  simp only [List.getElem?_toArray, List.getElem?_cons_zero, List.getElem?_cons_succ] at a0 a1 a2 a3 a4 b0 b1 b2 b3 b4
  go_upto_region 2 with fail
  clear a0 a1 a2 a3 a4 b0 b1 b2 b3 b4 f3
  replace hA := hA.far (p := ⟨w.heap.size + 1, 3, none⟩) (by simp only; omega) (.int .i64 d)
  replace hB := hB.set_ 3 (.int .i64 d)
  replace hb := hb.setCell (p := ⟨w.heap.size + 1, 3, none⟩) (by simp only; omega) (.int .i64 d)
  generalize W0.setCell ⟨w.heap.size + 1, 3, none⟩ (.int .i64 d) = W1 at *
  simp only [List.setIfInBounds_toArray, List.set_cons_zero, List.set_cons_succ] at hB
  have a0 := hA.cell 0
  have a1 := hA.cell 1
  have a2 := hA.cell 2
  have a3 := hA.cell 3
  have a4 := hA.cell 4
  simp only [List.getElem?_toArray, List.getElem?_cons_zero, List.getElem?_cons_succ] at a0 a1 a2 a3 a4
  go_wp2_with fail
  clear a0 a1 a2 a3 a4
  refine (HK1.out _).mono ?_
  rintro e w2 ⟨rfl, h2⟩
  replace hA := hA.below h2 hA.lt
  replace hB := hB.below h2 hB.lt
  replace hb := below_after hb h2
  clear h2
  have b0 := hB.cell 0
  have b1 := hB.cell 1
  have b2 := hB.cell 2
  have b3 := hB.cell 3
  have b4 := hB.cell 4
  simp only [List.getElem?_toArray, List.getElem?_cons_zero, List.getElem?_cons_succ] at b0 b1 b2 b3 b4
  go_wp2_with fail
  clear b0 b1 b2 b3 b4
  refine (HK2.out _).mono ?_
  rintro e w3 ⟨rfl, h3⟩
  replace hA := hA.below h3 hA.lt
  replace hB := hB.below h3 hB.lt
  replace hb := below_after hb h3
  clear h3 HK1 HK2
  have a0 := hA.cell 0
  have a1 := hA.cell 1
  have a2 := hA.cell 2
  have a3 := hA.cell 3
  have a4 := hA.cell 4
  have b0 := hB.cell 0
  have b1 := hB.cell 1
  have b2 := hB.cell 2
  have b3 := hB.cell 3
  have b4 := hB.cell 4
  simp only [List.getElem?_toArray, List.getElem?_cons_zero, List.getElem?_cons_succ] at a0 a1 a2 a3 a4 b0 b1 b2 b3 b4
  clear hA hB
  cases r1 : rightE t s n d
  · clear r1 HL HC V1 V2 a0 a1 a2 a3 a4 b0 b1 b2 b3 b4
    rw [show putE false = 2 from rfl]
    generalize putE (rightE u s' n' d) = E2
    go_wp2_with fail
    refine (awake20 _).mono ?_
    rintro e w4 ⟨rfl, h4⟩
    go_wp2_with fail
    go_ret
    exact ⟨rfl, below_after hb h4⟩
  · cases r2 : rightE u s' n' d
    · clear r1 r2 HL HC V1 V2 a0 a1 a2 a3 a4 b0 b1 b2 b3 b4
      rw [show putE true = 0 from rfl, show putE false = 2 from rfl]
      go_wp2_with fail
      refine (awake20 _).mono ?_
      rintro e w4 ⟨rfl, h4⟩
      go_wp2_with fail
      go_ret
      exact ⟨rfl, below_after hb h4⟩
    · rw [V1.out r1, V2.out r2]
      obtain ⟨l1, l2⟩ := HL.out r1 r2
      clear r1 r2 HL V1 V2
      rw [show putE true = 0 from rfl]
      replace l1 := hide l1
      replace l2 := hide l2
      go_wp2_with fail
      refine (HC.out _).mono ?_
      rintro e w4 ⟨rfl, h4⟩
      replace hb := below_after hb h4
      clear HC a0 a1 a2 a3 a4 b0 b1 b2 b3 b4 h4
      have l1 := l1.out
      have l2 := l2.out
      generalize firstNz (evL t s n d p u s' n' d p') = F at *
      generalize keyR t s n p = K at *
      generalize keyR u s' n' p' = L at *
      go_wp2_with fail
      refine (awake20 _).mono ?_
      rintro e w5 ⟨rfl, h5⟩
      replace hb := below_after hb h5
      have e1 : (decide (F < 0) == Op.bytesLess K.toList L.toList) = true := by rw [l1, beq_self_eq_true]
      have e2 : ((F == 0) == (K.toList == L.toList)) = true := by rw [l2, beq_self_eq_true]
      clear l1 l2
      go_wp2_with fail
      go_ret
      exact ⟨rfl, hb⟩
end Go.Proofs.Ytpgbfglfmmohdaa
