/- The walks of rec's Of, GetMsg, GetDone. Printed by wip/tools/rdr9.py. -/
import Derived.Test.YtpgbfglfmmohdaaRdr8
set_option linter.unusedVariables false
set_option linter.unusedSimpArgs false
set_option maxRecDepth 20000
namespace Go.Proofs.Ytpgbfglfmmohdaa
open Go.RowKit Go.Deep

attribute [local go_sem] run_store_float
def ofE (s : ByteArray) (D : Int) : Int := endE s (ofK s 0 : Nat) (ofSh s 0 false) (rightE (geT s 0) (geS s 0) (geN s 0) D)
def ofV (s : ByteArray) (D : Int) : Value := orZ (ofE s D) #[.float .f64 (geT s 0), .int .i64 (geS s 0), .int .i64 (geN s 0), .int .i64 D, .int .i64 (ofP s 0)] #[.float .f64 0, .int .i64 0, .int .i64 0, .int .i64 0, .int .i64 0]
def gmE (s : ByteArray) : Int := endE s (geK s (byteK s 0) : Nat) (geSh s (byteK s 0) (byteS s 0 false)) (rightE (geT s (byteK s 0)) (geS s (byteK s 0)) (geN s (byteK s 0)) (geD s (byteK s 0)) && decide (byteN s 0 ≤ 1))
def gmV (s : ByteArray) : Value := orZ (gmE s) #[.float .f64 (geT s (byteK s 0)), .int .i64 (geS s (byteK s 0)), .int .i64 (geN s (byteK s 0)), .int .i64 (geD s (byteK s 0)), .int .i64 (geP s (byteK s 0)), .bool (byteN s 0 == 1)] #[.float .f64 0, .int .i64 0, .int .i64 0, .int .i64 0, .int .i64 0, .bool false]
def gdE (s : ByteArray) : Int := endE s (byteK s (geK s 0) : Nat) (byteS s (geK s 0) (geSh s 0 false)) (rightE (geT s 0) (geS s 0) (geN s 0) (geD s 0) && decide (byteN s (geK s 0) ≤ 7))
def gdV (s : ByteArray) : Value := orZ (gdE s) #[.float .f64 (geT s 0), .int .i64 (geS s 0), .int .i64 (geN s 0), .int .i64 (geD s 0), .int .i64 (geP s 0), .int .i64 (byteN s (geK s 0))] #[.float .f64 0, .int .i64 0, .int .i64 0, .int .i64 0, .int .i64 0, .int .i64 0]
set_option maxHeartbeats 1000000 in
theorem of_any (s : ByteArray) (D : Int) (w : World) (hm : s.size ≤ 9223372036854775807) : Calls Try.prog 68 #[.string s, .int .i64 D] w fun e w' => e = .returned (.tuple #[ofV s D, .int .i64 (ofE s D)]) ∧ Below w.heap.size w w' := by
  have hz : ∀ (w : World) o, (w.alloc o).heap.size = w.heap.size + 1 := fun w o => Array.size_push ..
  have hv := ((Blk.new w 3 #[.int .i64 D]).alloc (.cells evZ 70)).alloc (.cells #[.string s, .int .i64 0, .bool false] 119)
  have hR := (Blk.new (w.alloc (.cells #[.int .i64 D] 3)) 70 evZ).alloc (.cells #[.string s, .int .i64 0, .bool false] 119)
  have hG := Blk.new ((w.alloc (.cells #[.int .i64 D] 3)).alloc (.cells evZ 70)) 119 #[.string s, .int .i64 0, .bool false]
  have hb : Below w.heap.size w (((w.alloc (.cells #[.int .i64 D] 3)).alloc (.cells evZ 70)).alloc (.cells #[.string s, .int .i64 0, .bool false] 119)) := Below.alloc (Below.alloc (Below.alloc (Below.refl _ _) (Nat.le_refl _) _) (by rw [hz]; omega) _) (by rw [hz, hz]; omega) _
  rw [hz, hz] at hG
  rw [hz] at hR
  clear hz
  have hrd := RdAt.of_blk hG
  have hev := hide fun W h h2 => eventof_any s 0 false (w.heap.size + 1 + 1) w.heap.size D W h h2 (by omega) (Nat.zero_le _) hm
  unfold evZ at hR hrd hb hv
  clear hG
  go_enter Try.func68, Try.ntmps68
  go_wp2_with fail
  generalize ((w.alloc _).alloc _).alloc _ = W0 at *
  refine (hev.out _ hrd hv).mono ?_
  clear hv
  rintro e w1 ⟨rfl, h1⟩
  have hR1 := h1.blk hR (by omega)
  have hb1 := h1.below_ hb (by omega)
  have rd1 := h1.1
  clear h1 hR hb
  go_wp2_with fail
  have hX1 := Blk.new w1 70 #[.float .f64 (geT s 0), .int .i64 (geS s 0), .int .i64 (geN s 0), .int .i64 (D), .int .i64 (ofP s 0)]
  have hR2 := hR1.alloc (.cells #[.float .f64 (geT s 0), .int .i64 (geS s 0), .int .i64 (geN s 0), .int .i64 (D), .int .i64 (ofP s 0)] 70)
  have rd2 := rd1.below ((Below.refl _ _).alloc (Nat.le_refl _) (.cells #[.float .f64 (geT s 0), .int .i64 (geS s 0), .int .i64 (geN s 0), .int .i64 (D), .int .i64 (ofP s 0)] 70))
  have hb2 := hb1.alloc hb1.size (.cells #[.float .f64 (geT s 0), .int .i64 (geS s 0), .int .i64 (geN s 0), .int .i64 (D), .int .i64 (ofP s 0)] 70)
  have hxg := Nat.ne_of_gt rd1.lt
  have hne := Nat.ne_of_lt hR1.lt
  generalize w1.alloc (.cells #[.float .f64 (geT s 0), .int .i64 (geS s 0), .int .i64 (geN s 0), .int .i64 (D), .int .i64 (ofP s 0)] 70) = w2 at *
  generalize w1.heap.size = x at *
  clear hR1 hb1 rd1
  refine (right_any _ _ _ _ _ _).mono ?_
  rintro e w3 ⟨rfl, hb3⟩
  have hR3 := hR2.below hb3 hR2.lt
  have hX3 := hX1.below hb3 hX1.lt
  have rd3 := rd2.below hb3
  have hB3 := below_after hb2 hb3
  clear hR2 hX1 rd2 hb2 hb3
  go_wp2_with fail
  refine (end_any _ _ _ _ _ _ rd3).mono ?_
  rintro e w4 ⟨rfl, m, rfl⟩
  have hR4 := hR3.drewN m
  have hX4 := hX3.drewN m
  have hb4 := below_drewN hB3 m
  clear hR3 hX3 rd3 hB3
  generalize w3.drewN m = W4 at *
  have x0 := hX4.cell 0
  have x1 := hX4.cell 1
  have x2 := hX4.cell 2
  have x3 := hX4.cell 3
  have x4 := hX4.cell 4
  have r0 := hR4.cell 0
  have f0 := hR4.frozen 0
  have r1 := hR4.cell 1
  have f1 := hR4.frozen 1
  have r2 := hR4.cell 2
  have f2 := hR4.frozen 2
  have r3 := hR4.cell 3
  have f3 := hR4.frozen 3
  have r4 := hR4.cell 4
  have f4 := hR4.frozen 4
  simp only [List.getElem?_toArray, List.getElem?_cons_zero, List.getElem?_cons_succ] at x0 x1 x2 x3 x4 r0 r1 r2 r3 r4
  obtain ⟨E, hEq⟩ : ∃ E, ofE s D = E := ⟨_, rfl⟩
  have HV : Hid (Ending.returned (.tuple #[orZ E #[.float .f64 (geT s 0), .int .i64 (geS s 0), .int .i64 (geN s 0), .int .i64 (D), .int .i64 (ofP s 0)] #[.float .f64 0, .int .i64 0, .int .i64 0, .int .i64 0, .int .i64 0], .int .i64 E]) = .returned (.tuple #[ofV s D, .int .i64 (ofE s D)])) := by
    rw [← hEq]
    exact rfl
  have HE : endE s (ofK s 0 : Nat) (ofSh s 0 false) (rightE (geT s 0) (geS s 0) (geN s 0) D) = E := by
    rw [← hEq]
    rfl
  simp only [HE]
  clear HE hEq
  by_cases hE : E = 0
  · have HW := hide ((show Ending.returned (.tuple #[.agg #[.float .f64 (geT s 0), .int .i64 (geS s 0), .int .i64 (geN s 0), .int .i64 (D), .int .i64 (ofP s 0)], .int .i64 0]) = .returned (.tuple #[orZ E #[.float .f64 (geT s 0), .int .i64 (geS s 0), .int .i64 (geN s 0), .int .i64 (D), .int .i64 (ofP s 0)] #[.float .f64 0, .int .i64 0, .int .i64 0, .int .i64 0, .int .i64 0], .int .i64 E]) by rw [hE]; unfold orZ; rw [if_pos rfl]).trans HV.out)
    subst hE
    clear HV
    go_wp2_with fail
    have hZ := (((((hR4.set_ 0 (.float .f64 (geT s 0))).set_ 1 (.int .i64 (geS s 0))).set_ 2 (.int .i64 (geN s 0))).set_ 3 (.int .i64 (D))).set_ 4 (.int .i64 (ofP s 0)))
    have bZ := (((((hb4.setCell (p := ⟨w.heap.size + 1, 0, none⟩) (by simp only; omega) (.float .f64 (geT s 0))).setCell (p := ⟨w.heap.size + 1, 1, none⟩) (by simp only; omega) (.int .i64 (geS s 0))).setCell (p := ⟨w.heap.size + 1, 2, none⟩) (by simp only; omega) (.int .i64 (geN s 0))).setCell (p := ⟨w.heap.size + 1, 3, none⟩) (by simp only; omega) (.int .i64 (D))).setCell (p := ⟨w.heap.size + 1, 4, none⟩) (by simp only; omega) (.int .i64 (ofP s 0)))
    clear x0 x1 x2 x3 x4 f0 r0 f1 r1 f2 r2 f3 r3 f4 r4
    generalize (((((W4.setCell ⟨w.heap.size + 1, 0, none⟩ (.float .f64 (geT s 0))).setCell ⟨w.heap.size + 1, 1, none⟩ (.int .i64 (geS s 0))).setCell ⟨w.heap.size + 1, 2, none⟩ (.int .i64 (geN s 0))).setCell ⟨w.heap.size + 1, 3, none⟩ (.int .i64 (D))).setCell ⟨w.heap.size + 1, 4, none⟩ (.int .i64 (ofP s 0))) = wZ at *
    have q0 := hZ.cell 0
    have q1 := hZ.cell 1
    have q2 := hZ.cell 2
    have q3 := hZ.cell 3
    have q4 := hZ.cell 4
    simp only [List.setIfInBounds_toArray, List.set_cons_zero, List.set_cons_succ, List.getElem?_toArray, List.getElem?_cons_zero, List.getElem?_cons_succ] at q0 q1 q2 q3 q4
    refine bodyPost_ret (v := .tuple #[.agg #[.float .f64 (geT s 0), .int .i64 (geS s 0), .int .i64 (geN s 0), .int .i64 (D), .int .i64 (ofP s 0)], .int .i64 0]) (by simp [results, Try.results68, go_sem, q0, q1, q2, q3, q4]) rfl ⟨HW.out, bZ⟩
  · have hEb : (E != 0) = true := by rw [bne_iff_ne]; exact hE
    have HW := hide ((show Ending.returned (.tuple #[.agg #[.float .f64 0, .int .i64 0, .int .i64 0, .int .i64 0, .int .i64 0], .int .i64 E]) = .returned (.tuple #[orZ E #[.float .f64 (geT s 0), .int .i64 (geS s 0), .int .i64 (geN s 0), .int .i64 (D), .int .i64 (ofP s 0)] #[.float .f64 0, .int .i64 0, .int .i64 0, .int .i64 0, .int .i64 0], .int .i64 E]) by unfold orZ; rw [if_neg hE]).trans HV.out)
    clear HV
    go_wp2_with fail
    have hZ := (((((hR4.set_ 0 (.float .f64 0)).set_ 1 (.int .i64 0)).set_ 2 (.int .i64 0)).set_ 3 (.int .i64 0)).set_ 4 (.int .i64 0))
    have bZ := (((((hb4.setCell (p := ⟨w.heap.size + 1, 0, none⟩) (by simp only; omega) (.float .f64 0)).setCell (p := ⟨w.heap.size + 1, 1, none⟩) (by simp only; omega) (.int .i64 0)).setCell (p := ⟨w.heap.size + 1, 2, none⟩) (by simp only; omega) (.int .i64 0)).setCell (p := ⟨w.heap.size + 1, 3, none⟩) (by simp only; omega) (.int .i64 0)).setCell (p := ⟨w.heap.size + 1, 4, none⟩) (by simp only; omega) (.int .i64 0))
    clear x0 x1 x2 x3 x4 f0 r0 f1 r1 f2 r2 f3 r3 f4 r4
    generalize (((((W4.setCell ⟨w.heap.size + 1, 0, none⟩ (.float .f64 0)).setCell ⟨w.heap.size + 1, 1, none⟩ (.int .i64 0)).setCell ⟨w.heap.size + 1, 2, none⟩ (.int .i64 0)).setCell ⟨w.heap.size + 1, 3, none⟩ (.int .i64 0)).setCell ⟨w.heap.size + 1, 4, none⟩ (.int .i64 0)) = wZ at *
    have q0 := hZ.cell 0
    have q1 := hZ.cell 1
    have q2 := hZ.cell 2
    have q3 := hZ.cell 3
    have q4 := hZ.cell 4
    simp only [List.setIfInBounds_toArray, List.set_cons_zero, List.set_cons_succ, List.getElem?_toArray, List.getElem?_cons_zero, List.getElem?_cons_succ] at q0 q1 q2 q3 q4
    refine bodyPost_ret (v := .tuple #[.agg #[.float .f64 0, .int .i64 0, .int .i64 0, .int .i64 0, .int .i64 0], .int .i64 E]) (by simp [results, Try.results68, go_sem, q0, q1, q2, q3, q4]) rfl ⟨HW.out, bZ⟩
set_option maxHeartbeats 1000000 in
theorem getmsg_any (s : ByteArray) (w : World) (hm : s.size ≤ 9223372036854775807) : Calls Try.prog 71 #[.string s] w fun e w' => e = .returned (.tuple #[gmV s, .int .i64 (gmE s)]) ∧ Below w.heap.size w w' := by
  have hz : ∀ (w : World) o, (w.alloc o).heap.size = w.heap.size + 1 := fun w o => Array.size_push ..
  have hR := (Blk.new w 76 #[.float .f64 0, .int .i64 0, .int .i64 0, .int .i64 0, .int .i64 0, .bool false]).alloc (.cells #[.string s, .int .i64 0, .bool false] 119)
  have hG := Blk.new (w.alloc (.cells #[.float .f64 0, .int .i64 0, .int .i64 0, .int .i64 0, .int .i64 0, .bool false] 76)) 119 #[.string s, .int .i64 0, .bool false]
  have hb : Below w.heap.size w ((w.alloc (.cells #[.float .f64 0, .int .i64 0, .int .i64 0, .int .i64 0, .int .i64 0, .bool false] 76)).alloc (.cells #[.string s, .int .i64 0, .bool false] 119)) := Below.alloc (Below.alloc (Below.refl _ _) (Nat.le_refl _) _) (by rw [hz]; omega) _
  rw [hz] at hG
  clear hz
  have hrd := RdAt.of_blk hG
  have hby := hide fun W h => rbyte_any s 0 false (w.heap.size + 1) W h (Nat.zero_le _) hm
  have hk0 : byteK s 0 ≤ s.size := byteK_le (Nat.zero_le _)
  have hev := hide fun W h => event_any s (byteK s 0) (byteS s 0 false) (w.heap.size + 1) W h hk0 hm
  clear hG hk0
  go_enter Try.func71, Try.ntmps71
  go_wp2_with fail
  generalize (w.alloc _).alloc _ = W0 at *
  refine (hby.out _ hrd).mono ?_
  rintro e wa ⟨rfl, ha⟩
  replace hR := ha.blk hR (by omega)
  replace hb := ha.below_ hb (by omega)
  replace hrd := ha.1
  clear ha
  go_wp2_with fail
  refine (hev.out _ hrd).mono ?_
  rintro e w1 ⟨rfl, h1⟩
  have hR1 := h1.blk hR (by omega)
  have hb1 := h1.below_ hb (by omega)
  have rd1 := h1.1
  clear h1 hR hb
  go_wp2_with fail
  have hX1 := Blk.new w1 70 #[.float .f64 (geT s (byteK s 0)), .int .i64 (geS s (byteK s 0)), .int .i64 (geN s (byteK s 0)), .int .i64 (geD s (byteK s 0)), .int .i64 (geP s (byteK s 0))]
  have hR2 := hR1.alloc (.cells #[.float .f64 (geT s (byteK s 0)), .int .i64 (geS s (byteK s 0)), .int .i64 (geN s (byteK s 0)), .int .i64 (geD s (byteK s 0)), .int .i64 (geP s (byteK s 0))] 70)
  have rd2 := rd1.below ((Below.refl _ _).alloc (Nat.le_refl _) (.cells #[.float .f64 (geT s (byteK s 0)), .int .i64 (geS s (byteK s 0)), .int .i64 (geN s (byteK s 0)), .int .i64 (geD s (byteK s 0)), .int .i64 (geP s (byteK s 0))] 70))
  have hb2 := hb1.alloc hb1.size (.cells #[.float .f64 (geT s (byteK s 0)), .int .i64 (geS s (byteK s 0)), .int .i64 (geN s (byteK s 0)), .int .i64 (geD s (byteK s 0)), .int .i64 (geP s (byteK s 0))] 70)
  have hxg := Nat.ne_of_gt rd1.lt
  have hne := Nat.ne_of_lt hR1.lt
  generalize w1.alloc (.cells #[.float .f64 (geT s (byteK s 0)), .int .i64 (geS s (byteK s 0)), .int .i64 (geN s (byteK s 0)), .int .i64 (geD s (byteK s 0)), .int .i64 (geP s (byteK s 0))] 70) = w2 at *
  generalize w1.heap.size = x at *
  clear hR1 hb1 rd1
  refine (right_any _ _ _ _ _ _).mono ?_
  rintro e w3 ⟨he3, hb3⟩
  have hR3 := hR2.below hb3 hR2.lt
  have hX3 := hX1.below hb3 hX1.lt
  have rd3 := rd2.below hb3
  have hB3 := below_after hb2 hb3
  clear hR2 hX1 rd2 hb2 hb3
  subst he3
  cases hrt : rightE (geT s (byteK s 0)) (geS s (byteK s 0)) (geN s (byteK s 0)) (geD s (byteK s 0))
  · have HT := hide hrt
    clear hrt
    go_wp2_with fail
    refine (end_any _ _ _ _ _ _ rd3).mono ?_
    rintro e w4 ⟨rfl, m, rfl⟩
    have hR4 := hR3.drewN m
    have hX4 := hX3.drewN m
    have hb4 := below_drewN hB3 m
    clear hR3 hX3 rd3 hB3
    generalize w3.drewN m = W4 at *
    have x0 := hX4.cell 0
    have x1 := hX4.cell 1
    have x2 := hX4.cell 2
    have x3 := hX4.cell 3
    have x4 := hX4.cell 4
    have r0 := hR4.cell 0
    have f0 := hR4.frozen 0
    have r1 := hR4.cell 1
    have f1 := hR4.frozen 1
    have r2 := hR4.cell 2
    have f2 := hR4.frozen 2
    have r3 := hR4.cell 3
    have f3 := hR4.frozen 3
    have r4 := hR4.cell 4
    have f4 := hR4.frozen 4
    have r5 := hR4.cell 5
    have f5 := hR4.frozen 5
    simp only [List.getElem?_toArray, List.getElem?_cons_zero, List.getElem?_cons_succ] at x0 x1 x2 x3 x4 r0 r1 r2 r3 r4 r5
    obtain ⟨E, hEq⟩ : ∃ E, gmE s = E := ⟨_, rfl⟩
    have HV : Hid (Ending.returned (.tuple #[orZ E #[.float .f64 (geT s (byteK s 0)), .int .i64 (geS s (byteK s 0)), .int .i64 (geN s (byteK s 0)), .int .i64 (geD s (byteK s 0)), .int .i64 (geP s (byteK s 0)), .bool (byteN s 0 == 1)] #[.float .f64 0, .int .i64 0, .int .i64 0, .int .i64 0, .int .i64 0, .bool false], .int .i64 E]) = .returned (.tuple #[gmV s, .int .i64 (gmE s)])) := by
      rw [← hEq]
      exact rfl
    have HE : endE s (geK s (byteK s 0) : Nat) (geSh s (byteK s 0) (byteS s 0 false)) false = E := by
      rw [← hEq]
      exact congrArg (endE s (geK s (byteK s 0) : Nat) (geSh s (byteK s 0) (byteS s 0 false))) (by rw [HT.out]; rfl)
    simp only [HE]
    clear HE hEq
    by_cases hE : E = 0
    · have HW := hide ((show Ending.returned (.tuple #[.agg #[.float .f64 (geT s (byteK s 0)), .int .i64 (geS s (byteK s 0)), .int .i64 (geN s (byteK s 0)), .int .i64 (geD s (byteK s 0)), .int .i64 (geP s (byteK s 0)), .bool (byteN s 0 == 1)], .int .i64 0]) = .returned (.tuple #[orZ E #[.float .f64 (geT s (byteK s 0)), .int .i64 (geS s (byteK s 0)), .int .i64 (geN s (byteK s 0)), .int .i64 (geD s (byteK s 0)), .int .i64 (geP s (byteK s 0)), .bool (byteN s 0 == 1)] #[.float .f64 0, .int .i64 0, .int .i64 0, .int .i64 0, .int .i64 0, .bool false], .int .i64 E]) by rw [hE]; unfold orZ; rw [if_pos rfl]).trans HV.out)
      subst hE
      clear HV
      go_wp2_with fail
      have hZ := ((((((hR4.set_ 0 (.float .f64 (geT s (byteK s 0)))).set_ 1 (.int .i64 (geS s (byteK s 0)))).set_ 2 (.int .i64 (geN s (byteK s 0)))).set_ 3 (.int .i64 (geD s (byteK s 0)))).set_ 4 (.int .i64 (geP s (byteK s 0)))).set_ 5 (.bool (byteN s 0 == 1)))
      have bZ := ((((((hb4.setCell (p := ⟨w.heap.size, 0, none⟩) (by simp only; omega) (.float .f64 (geT s (byteK s 0)))).setCell (p := ⟨w.heap.size, 1, none⟩) (by simp only; omega) (.int .i64 (geS s (byteK s 0)))).setCell (p := ⟨w.heap.size, 2, none⟩) (by simp only; omega) (.int .i64 (geN s (byteK s 0)))).setCell (p := ⟨w.heap.size, 3, none⟩) (by simp only; omega) (.int .i64 (geD s (byteK s 0)))).setCell (p := ⟨w.heap.size, 4, none⟩) (by simp only; omega) (.int .i64 (geP s (byteK s 0)))).setCell (p := ⟨w.heap.size, 5, none⟩) (by simp only; omega) (.bool (byteN s 0 == 1)))
      clear x0 x1 x2 x3 x4 f0 r0 f1 r1 f2 r2 f3 r3 f4 r4 f5 r5
      generalize ((((((W4.setCell ⟨w.heap.size, 0, none⟩ (.float .f64 (geT s (byteK s 0)))).setCell ⟨w.heap.size, 1, none⟩ (.int .i64 (geS s (byteK s 0)))).setCell ⟨w.heap.size, 2, none⟩ (.int .i64 (geN s (byteK s 0)))).setCell ⟨w.heap.size, 3, none⟩ (.int .i64 (geD s (byteK s 0)))).setCell ⟨w.heap.size, 4, none⟩ (.int .i64 (geP s (byteK s 0)))).setCell ⟨w.heap.size, 5, none⟩ (.bool (byteN s 0 == 1))) = wZ at *
      have q0 := hZ.cell 0
      have q1 := hZ.cell 1
      have q2 := hZ.cell 2
      have q3 := hZ.cell 3
      have q4 := hZ.cell 4
      have q5 := hZ.cell 5
      simp only [List.setIfInBounds_toArray, List.set_cons_zero, List.set_cons_succ, List.getElem?_toArray, List.getElem?_cons_zero, List.getElem?_cons_succ] at q0 q1 q2 q3 q4 q5
      refine bodyPost_ret (v := .tuple #[.agg #[.float .f64 (geT s (byteK s 0)), .int .i64 (geS s (byteK s 0)), .int .i64 (geN s (byteK s 0)), .int .i64 (geD s (byteK s 0)), .int .i64 (geP s (byteK s 0)), .bool (byteN s 0 == 1)], .int .i64 0]) (by simp [results, Try.results71, go_sem, q0, q1, q2, q3, q4, q5]) rfl ⟨HW.out, bZ⟩
    · have hEb : (E != 0) = true := by rw [bne_iff_ne]; exact hE
      have HW := hide ((show Ending.returned (.tuple #[.agg #[.float .f64 0, .int .i64 0, .int .i64 0, .int .i64 0, .int .i64 0, .bool false], .int .i64 E]) = .returned (.tuple #[orZ E #[.float .f64 (geT s (byteK s 0)), .int .i64 (geS s (byteK s 0)), .int .i64 (geN s (byteK s 0)), .int .i64 (geD s (byteK s 0)), .int .i64 (geP s (byteK s 0)), .bool (byteN s 0 == 1)] #[.float .f64 0, .int .i64 0, .int .i64 0, .int .i64 0, .int .i64 0, .bool false], .int .i64 E]) by unfold orZ; rw [if_neg hE]).trans HV.out)
      clear HV
      go_wp2_with fail
      have hZ := ((((((hR4.set_ 0 (.float .f64 0)).set_ 1 (.int .i64 0)).set_ 2 (.int .i64 0)).set_ 3 (.int .i64 0)).set_ 4 (.int .i64 0)).set_ 5 (.bool false))
      have bZ := ((((((hb4.setCell (p := ⟨w.heap.size, 0, none⟩) (by simp only; omega) (.float .f64 0)).setCell (p := ⟨w.heap.size, 1, none⟩) (by simp only; omega) (.int .i64 0)).setCell (p := ⟨w.heap.size, 2, none⟩) (by simp only; omega) (.int .i64 0)).setCell (p := ⟨w.heap.size, 3, none⟩) (by simp only; omega) (.int .i64 0)).setCell (p := ⟨w.heap.size, 4, none⟩) (by simp only; omega) (.int .i64 0)).setCell (p := ⟨w.heap.size, 5, none⟩) (by simp only; omega) (.bool false))
      clear x0 x1 x2 x3 x4 f0 r0 f1 r1 f2 r2 f3 r3 f4 r4 f5 r5
      generalize ((((((W4.setCell ⟨w.heap.size, 0, none⟩ (.float .f64 0)).setCell ⟨w.heap.size, 1, none⟩ (.int .i64 0)).setCell ⟨w.heap.size, 2, none⟩ (.int .i64 0)).setCell ⟨w.heap.size, 3, none⟩ (.int .i64 0)).setCell ⟨w.heap.size, 4, none⟩ (.int .i64 0)).setCell ⟨w.heap.size, 5, none⟩ (.bool false)) = wZ at *
      have q0 := hZ.cell 0
      have q1 := hZ.cell 1
      have q2 := hZ.cell 2
      have q3 := hZ.cell 3
      have q4 := hZ.cell 4
      have q5 := hZ.cell 5
      simp only [List.setIfInBounds_toArray, List.set_cons_zero, List.set_cons_succ, List.getElem?_toArray, List.getElem?_cons_zero, List.getElem?_cons_succ] at q0 q1 q2 q3 q4 q5
      refine bodyPost_ret (v := .tuple #[.agg #[.float .f64 0, .int .i64 0, .int .i64 0, .int .i64 0, .int .i64 0, .bool false], .int .i64 E]) (by simp [results, Try.results71, go_sem, q0, q1, q2, q3, q4, q5]) rfl ⟨HW.out, bZ⟩
  · have HT := hide hrt
    clear hrt
    go_wp2_with fail
    refine (end_any _ _ _ _ _ _ rd3).mono ?_
    rintro e w4 ⟨rfl, m, rfl⟩
    have hR4 := hR3.drewN m
    have hX4 := hX3.drewN m
    have hb4 := below_drewN hB3 m
    clear hR3 hX3 rd3 hB3
    generalize w3.drewN m = W4 at *
    have x0 := hX4.cell 0
    have x1 := hX4.cell 1
    have x2 := hX4.cell 2
    have x3 := hX4.cell 3
    have x4 := hX4.cell 4
    have r0 := hR4.cell 0
    have f0 := hR4.frozen 0
    have r1 := hR4.cell 1
    have f1 := hR4.frozen 1
    have r2 := hR4.cell 2
    have f2 := hR4.frozen 2
    have r3 := hR4.cell 3
    have f3 := hR4.frozen 3
    have r4 := hR4.cell 4
    have f4 := hR4.frozen 4
    have r5 := hR4.cell 5
    have f5 := hR4.frozen 5
    simp only [List.getElem?_toArray, List.getElem?_cons_zero, List.getElem?_cons_succ] at x0 x1 x2 x3 x4 r0 r1 r2 r3 r4 r5
    obtain ⟨E, hEq⟩ : ∃ E, gmE s = E := ⟨_, rfl⟩
    have HV : Hid (Ending.returned (.tuple #[orZ E #[.float .f64 (geT s (byteK s 0)), .int .i64 (geS s (byteK s 0)), .int .i64 (geN s (byteK s 0)), .int .i64 (geD s (byteK s 0)), .int .i64 (geP s (byteK s 0)), .bool (byteN s 0 == 1)] #[.float .f64 0, .int .i64 0, .int .i64 0, .int .i64 0, .int .i64 0, .bool false], .int .i64 E]) = .returned (.tuple #[gmV s, .int .i64 (gmE s)])) := by
      rw [← hEq]
      exact rfl
    have HE : endE s (geK s (byteK s 0) : Nat) (geSh s (byteK s 0) (byteS s 0 false)) (decide (byteN s 0 ≤ 1)) = E := by
      rw [← hEq]
      exact congrArg (endE s (geK s (byteK s 0) : Nat) (geSh s (byteK s 0) (byteS s 0 false))) (by rw [HT.out]; rfl)
    simp only [HE]
    clear HE hEq
    by_cases hE : E = 0
    · have HW := hide ((show Ending.returned (.tuple #[.agg #[.float .f64 (geT s (byteK s 0)), .int .i64 (geS s (byteK s 0)), .int .i64 (geN s (byteK s 0)), .int .i64 (geD s (byteK s 0)), .int .i64 (geP s (byteK s 0)), .bool (byteN s 0 == 1)], .int .i64 0]) = .returned (.tuple #[orZ E #[.float .f64 (geT s (byteK s 0)), .int .i64 (geS s (byteK s 0)), .int .i64 (geN s (byteK s 0)), .int .i64 (geD s (byteK s 0)), .int .i64 (geP s (byteK s 0)), .bool (byteN s 0 == 1)] #[.float .f64 0, .int .i64 0, .int .i64 0, .int .i64 0, .int .i64 0, .bool false], .int .i64 E]) by rw [hE]; unfold orZ; rw [if_pos rfl]).trans HV.out)
      subst hE
      clear HV
      go_wp2_with fail
      have hZ := ((((((hR4.set_ 0 (.float .f64 (geT s (byteK s 0)))).set_ 1 (.int .i64 (geS s (byteK s 0)))).set_ 2 (.int .i64 (geN s (byteK s 0)))).set_ 3 (.int .i64 (geD s (byteK s 0)))).set_ 4 (.int .i64 (geP s (byteK s 0)))).set_ 5 (.bool (byteN s 0 == 1)))
      have bZ := ((((((hb4.setCell (p := ⟨w.heap.size, 0, none⟩) (by simp only; omega) (.float .f64 (geT s (byteK s 0)))).setCell (p := ⟨w.heap.size, 1, none⟩) (by simp only; omega) (.int .i64 (geS s (byteK s 0)))).setCell (p := ⟨w.heap.size, 2, none⟩) (by simp only; omega) (.int .i64 (geN s (byteK s 0)))).setCell (p := ⟨w.heap.size, 3, none⟩) (by simp only; omega) (.int .i64 (geD s (byteK s 0)))).setCell (p := ⟨w.heap.size, 4, none⟩) (by simp only; omega) (.int .i64 (geP s (byteK s 0)))).setCell (p := ⟨w.heap.size, 5, none⟩) (by simp only; omega) (.bool (byteN s 0 == 1)))
      clear x0 x1 x2 x3 x4 f0 r0 f1 r1 f2 r2 f3 r3 f4 r4 f5 r5
      generalize ((((((W4.setCell ⟨w.heap.size, 0, none⟩ (.float .f64 (geT s (byteK s 0)))).setCell ⟨w.heap.size, 1, none⟩ (.int .i64 (geS s (byteK s 0)))).setCell ⟨w.heap.size, 2, none⟩ (.int .i64 (geN s (byteK s 0)))).setCell ⟨w.heap.size, 3, none⟩ (.int .i64 (geD s (byteK s 0)))).setCell ⟨w.heap.size, 4, none⟩ (.int .i64 (geP s (byteK s 0)))).setCell ⟨w.heap.size, 5, none⟩ (.bool (byteN s 0 == 1))) = wZ at *
      have q0 := hZ.cell 0
      have q1 := hZ.cell 1
      have q2 := hZ.cell 2
      have q3 := hZ.cell 3
      have q4 := hZ.cell 4
      have q5 := hZ.cell 5
      simp only [List.setIfInBounds_toArray, List.set_cons_zero, List.set_cons_succ, List.getElem?_toArray, List.getElem?_cons_zero, List.getElem?_cons_succ] at q0 q1 q2 q3 q4 q5
      refine bodyPost_ret (v := .tuple #[.agg #[.float .f64 (geT s (byteK s 0)), .int .i64 (geS s (byteK s 0)), .int .i64 (geN s (byteK s 0)), .int .i64 (geD s (byteK s 0)), .int .i64 (geP s (byteK s 0)), .bool (byteN s 0 == 1)], .int .i64 0]) (by simp [results, Try.results71, go_sem, q0, q1, q2, q3, q4, q5]) rfl ⟨HW.out, bZ⟩
    · have hEb : (E != 0) = true := by rw [bne_iff_ne]; exact hE
      have HW := hide ((show Ending.returned (.tuple #[.agg #[.float .f64 0, .int .i64 0, .int .i64 0, .int .i64 0, .int .i64 0, .bool false], .int .i64 E]) = .returned (.tuple #[orZ E #[.float .f64 (geT s (byteK s 0)), .int .i64 (geS s (byteK s 0)), .int .i64 (geN s (byteK s 0)), .int .i64 (geD s (byteK s 0)), .int .i64 (geP s (byteK s 0)), .bool (byteN s 0 == 1)] #[.float .f64 0, .int .i64 0, .int .i64 0, .int .i64 0, .int .i64 0, .bool false], .int .i64 E]) by unfold orZ; rw [if_neg hE]).trans HV.out)
      clear HV
      go_wp2_with fail
      have hZ := ((((((hR4.set_ 0 (.float .f64 0)).set_ 1 (.int .i64 0)).set_ 2 (.int .i64 0)).set_ 3 (.int .i64 0)).set_ 4 (.int .i64 0)).set_ 5 (.bool false))
      have bZ := ((((((hb4.setCell (p := ⟨w.heap.size, 0, none⟩) (by simp only; omega) (.float .f64 0)).setCell (p := ⟨w.heap.size, 1, none⟩) (by simp only; omega) (.int .i64 0)).setCell (p := ⟨w.heap.size, 2, none⟩) (by simp only; omega) (.int .i64 0)).setCell (p := ⟨w.heap.size, 3, none⟩) (by simp only; omega) (.int .i64 0)).setCell (p := ⟨w.heap.size, 4, none⟩) (by simp only; omega) (.int .i64 0)).setCell (p := ⟨w.heap.size, 5, none⟩) (by simp only; omega) (.bool false))
      clear x0 x1 x2 x3 x4 f0 r0 f1 r1 f2 r2 f3 r3 f4 r4 f5 r5
      generalize ((((((W4.setCell ⟨w.heap.size, 0, none⟩ (.float .f64 0)).setCell ⟨w.heap.size, 1, none⟩ (.int .i64 0)).setCell ⟨w.heap.size, 2, none⟩ (.int .i64 0)).setCell ⟨w.heap.size, 3, none⟩ (.int .i64 0)).setCell ⟨w.heap.size, 4, none⟩ (.int .i64 0)).setCell ⟨w.heap.size, 5, none⟩ (.bool false)) = wZ at *
      have q0 := hZ.cell 0
      have q1 := hZ.cell 1
      have q2 := hZ.cell 2
      have q3 := hZ.cell 3
      have q4 := hZ.cell 4
      have q5 := hZ.cell 5
      simp only [List.setIfInBounds_toArray, List.set_cons_zero, List.set_cons_succ, List.getElem?_toArray, List.getElem?_cons_zero, List.getElem?_cons_succ] at q0 q1 q2 q3 q4 q5
      refine bodyPost_ret (v := .tuple #[.agg #[.float .f64 0, .int .i64 0, .int .i64 0, .int .i64 0, .int .i64 0, .bool false], .int .i64 E]) (by simp [results, Try.results71, go_sem, q0, q1, q2, q3, q4, q5]) rfl ⟨HW.out, bZ⟩
set_option maxHeartbeats 1000000 in
theorem getdone_any (s : ByteArray) (w : World) (hm : s.size ≤ 9223372036854775807) : Calls Try.prog 72 #[.string s] w fun e w' => e = .returned (.tuple #[gdV s, .int .i64 (gdE s)]) ∧ Below w.heap.size w w' := by
  have hz : ∀ (w : World) o, (w.alloc o).heap.size = w.heap.size + 1 := fun w o => Array.size_push ..
  have hR := (Blk.new w 79 #[.float .f64 0, .int .i64 0, .int .i64 0, .int .i64 0, .int .i64 0, .int .i64 0]).alloc (.cells #[.string s, .int .i64 0, .bool false] 119)
  have hG := Blk.new (w.alloc (.cells #[.float .f64 0, .int .i64 0, .int .i64 0, .int .i64 0, .int .i64 0, .int .i64 0] 79)) 119 #[.string s, .int .i64 0, .bool false]
  have hb : Below w.heap.size w ((w.alloc (.cells #[.float .f64 0, .int .i64 0, .int .i64 0, .int .i64 0, .int .i64 0, .int .i64 0] 79)).alloc (.cells #[.string s, .int .i64 0, .bool false] 119)) := Below.alloc (Below.alloc (Below.refl _ _) (Nat.le_refl _) _) (by rw [hz]; omega) _
  rw [hz] at hG
  clear hz
  have hrd := RdAt.of_blk hG
  have hev := hide fun W h => event_any s 0 false (w.heap.size + 1) W h (Nat.zero_le _) hm
  have hk0 : geK s 0 ≤ s.size := geK_le (Nat.zero_le _)
  have hby := hide fun W h => rbyte_any s (geK s 0) (geSh s 0 false) (w.heap.size + 1) W h hk0 hm
  clear hG hk0
  go_enter Try.func72, Try.ntmps72
  go_wp2_with fail
  generalize (w.alloc _).alloc _ = W0 at *
  refine (hev.out _ hrd).mono ?_
  rintro e w1 ⟨rfl, h1⟩
  have hR1 := h1.blk hR (by omega)
  have hb1 := h1.below_ hb (by omega)
  have rd1 := h1.1
  clear h1 hR hb
  go_wp2_with fail
  have hX1 := Blk.new w1 70 #[.float .f64 (geT s 0), .int .i64 (geS s 0), .int .i64 (geN s 0), .int .i64 (geD s 0), .int .i64 (geP s 0)]
  have hR2 := hR1.alloc (.cells #[.float .f64 (geT s 0), .int .i64 (geS s 0), .int .i64 (geN s 0), .int .i64 (geD s 0), .int .i64 (geP s 0)] 70)
  have rd2 := rd1.below ((Below.refl _ _).alloc (Nat.le_refl _) (.cells #[.float .f64 (geT s 0), .int .i64 (geS s 0), .int .i64 (geN s 0), .int .i64 (geD s 0), .int .i64 (geP s 0)] 70))
  have hb2 := hb1.alloc hb1.size (.cells #[.float .f64 (geT s 0), .int .i64 (geS s 0), .int .i64 (geN s 0), .int .i64 (geD s 0), .int .i64 (geP s 0)] 70)
  have hxg := Nat.ne_of_gt rd1.lt
  have hne := Nat.ne_of_lt hR1.lt
  generalize w1.alloc (.cells #[.float .f64 (geT s 0), .int .i64 (geS s 0), .int .i64 (geN s 0), .int .i64 (geD s 0), .int .i64 (geP s 0)] 70) = w2 at *
  generalize w1.heap.size = x at *
  clear hR1 hb1 rd1
  refine (hby.out _ rd2).mono ?_
  rintro e wa ⟨rfl, ha⟩
  replace hR2 := ha.blk hR2 (by omega)
  replace hX1 := ha.blk hX1 (by omega)
  replace hb2 := ha.below_ hb2 (by omega)
  replace rd2 := ha.1
  clear ha
  have x0 := hX1.cell 0
  have x1 := hX1.cell 1
  have x2 := hX1.cell 2
  have x3 := hX1.cell 3
  have x4 := hX1.cell 4
  simp only [List.getElem?_toArray, List.getElem?_cons_zero, List.getElem?_cons_succ] at x0 x1 x2 x3 x4
  go_wp2_with fail
  clear x0 x1 x2 x3 x4
  refine (right_any _ _ _ _ _ _).mono ?_
  rintro e w3 ⟨he3, hb3⟩
  have hR3 := hR2.below hb3 hR2.lt
  have hX3 := hX1.below hb3 hX1.lt
  have rd3 := rd2.below hb3
  have hB3 := below_after hb2 hb3
  clear hR2 hX1 rd2 hb2 hb3
  subst he3
  cases hrt : rightE (geT s 0) (geS s 0) (geN s 0) (geD s 0)
  · have HT := hide hrt
    clear hrt
    go_wp2_with fail
    refine (end_any _ _ _ _ _ _ rd3).mono ?_
    rintro e w4 ⟨rfl, m, rfl⟩
    have hR4 := hR3.drewN m
    have hX4 := hX3.drewN m
    have hb4 := below_drewN hB3 m
    clear hR3 hX3 rd3 hB3
    generalize w3.drewN m = W4 at *
    have x0 := hX4.cell 0
    have x1 := hX4.cell 1
    have x2 := hX4.cell 2
    have x3 := hX4.cell 3
    have x4 := hX4.cell 4
    have r0 := hR4.cell 0
    have f0 := hR4.frozen 0
    have r1 := hR4.cell 1
    have f1 := hR4.frozen 1
    have r2 := hR4.cell 2
    have f2 := hR4.frozen 2
    have r3 := hR4.cell 3
    have f3 := hR4.frozen 3
    have r4 := hR4.cell 4
    have f4 := hR4.frozen 4
    have r5 := hR4.cell 5
    have f5 := hR4.frozen 5
    simp only [List.getElem?_toArray, List.getElem?_cons_zero, List.getElem?_cons_succ] at x0 x1 x2 x3 x4 r0 r1 r2 r3 r4 r5
    obtain ⟨E, hEq⟩ : ∃ E, gdE s = E := ⟨_, rfl⟩
    have HV : Hid (Ending.returned (.tuple #[orZ E #[.float .f64 (geT s 0), .int .i64 (geS s 0), .int .i64 (geN s 0), .int .i64 (geD s 0), .int .i64 (geP s 0), .int .i64 (byteN s (geK s 0))] #[.float .f64 0, .int .i64 0, .int .i64 0, .int .i64 0, .int .i64 0, .int .i64 0], .int .i64 E]) = .returned (.tuple #[gdV s, .int .i64 (gdE s)])) := by
      rw [← hEq]
      exact rfl
    have HE : endE s (byteK s (geK s 0) : Nat) (byteS s (geK s 0) (geSh s 0 false)) false = E := by
      rw [← hEq]
      exact congrArg (endE s (byteK s (geK s 0) : Nat) (byteS s (geK s 0) (geSh s 0 false))) (by rw [HT.out]; rfl)
    simp only [HE]
    clear HE hEq
    by_cases hE : E = 0
    · have HW := hide ((show Ending.returned (.tuple #[.agg #[.float .f64 (geT s 0), .int .i64 (geS s 0), .int .i64 (geN s 0), .int .i64 (geD s 0), .int .i64 (geP s 0), .int .i64 (byteN s (geK s 0))], .int .i64 0]) = .returned (.tuple #[orZ E #[.float .f64 (geT s 0), .int .i64 (geS s 0), .int .i64 (geN s 0), .int .i64 (geD s 0), .int .i64 (geP s 0), .int .i64 (byteN s (geK s 0))] #[.float .f64 0, .int .i64 0, .int .i64 0, .int .i64 0, .int .i64 0, .int .i64 0], .int .i64 E]) by rw [hE]; unfold orZ; rw [if_pos rfl]).trans HV.out)
      subst hE
      clear HV
      go_wp2_with fail
      have hZ := ((((((hR4.set_ 0 (.float .f64 (geT s 0))).set_ 1 (.int .i64 (geS s 0))).set_ 2 (.int .i64 (geN s 0))).set_ 3 (.int .i64 (geD s 0))).set_ 4 (.int .i64 (geP s 0))).set_ 5 (.int .i64 (byteN s (geK s 0))))
      have bZ := ((((((hb4.setCell (p := ⟨w.heap.size, 0, none⟩) (by simp only; omega) (.float .f64 (geT s 0))).setCell (p := ⟨w.heap.size, 1, none⟩) (by simp only; omega) (.int .i64 (geS s 0))).setCell (p := ⟨w.heap.size, 2, none⟩) (by simp only; omega) (.int .i64 (geN s 0))).setCell (p := ⟨w.heap.size, 3, none⟩) (by simp only; omega) (.int .i64 (geD s 0))).setCell (p := ⟨w.heap.size, 4, none⟩) (by simp only; omega) (.int .i64 (geP s 0))).setCell (p := ⟨w.heap.size, 5, none⟩) (by simp only; omega) (.int .i64 (byteN s (geK s 0))))
      clear x0 x1 x2 x3 x4 f0 r0 f1 r1 f2 r2 f3 r3 f4 r4 f5 r5
      generalize ((((((W4.setCell ⟨w.heap.size, 0, none⟩ (.float .f64 (geT s 0))).setCell ⟨w.heap.size, 1, none⟩ (.int .i64 (geS s 0))).setCell ⟨w.heap.size, 2, none⟩ (.int .i64 (geN s 0))).setCell ⟨w.heap.size, 3, none⟩ (.int .i64 (geD s 0))).setCell ⟨w.heap.size, 4, none⟩ (.int .i64 (geP s 0))).setCell ⟨w.heap.size, 5, none⟩ (.int .i64 (byteN s (geK s 0)))) = wZ at *
      have q0 := hZ.cell 0
      have q1 := hZ.cell 1
      have q2 := hZ.cell 2
      have q3 := hZ.cell 3
      have q4 := hZ.cell 4
      have q5 := hZ.cell 5
      simp only [List.setIfInBounds_toArray, List.set_cons_zero, List.set_cons_succ, List.getElem?_toArray, List.getElem?_cons_zero, List.getElem?_cons_succ] at q0 q1 q2 q3 q4 q5
      refine bodyPost_ret (v := .tuple #[.agg #[.float .f64 (geT s 0), .int .i64 (geS s 0), .int .i64 (geN s 0), .int .i64 (geD s 0), .int .i64 (geP s 0), .int .i64 (byteN s (geK s 0))], .int .i64 0]) (by simp [results, Try.results72, go_sem, q0, q1, q2, q3, q4, q5]) rfl ⟨HW.out, bZ⟩
    · have hEb : (E != 0) = true := by rw [bne_iff_ne]; exact hE
      have HW := hide ((show Ending.returned (.tuple #[.agg #[.float .f64 0, .int .i64 0, .int .i64 0, .int .i64 0, .int .i64 0, .int .i64 0], .int .i64 E]) = .returned (.tuple #[orZ E #[.float .f64 (geT s 0), .int .i64 (geS s 0), .int .i64 (geN s 0), .int .i64 (geD s 0), .int .i64 (geP s 0), .int .i64 (byteN s (geK s 0))] #[.float .f64 0, .int .i64 0, .int .i64 0, .int .i64 0, .int .i64 0, .int .i64 0], .int .i64 E]) by unfold orZ; rw [if_neg hE]).trans HV.out)
      clear HV
      go_wp2_with fail
      have hZ := ((((((hR4.set_ 0 (.float .f64 0)).set_ 1 (.int .i64 0)).set_ 2 (.int .i64 0)).set_ 3 (.int .i64 0)).set_ 4 (.int .i64 0)).set_ 5 (.int .i64 0))
      have bZ := ((((((hb4.setCell (p := ⟨w.heap.size, 0, none⟩) (by simp only; omega) (.float .f64 0)).setCell (p := ⟨w.heap.size, 1, none⟩) (by simp only; omega) (.int .i64 0)).setCell (p := ⟨w.heap.size, 2, none⟩) (by simp only; omega) (.int .i64 0)).setCell (p := ⟨w.heap.size, 3, none⟩) (by simp only; omega) (.int .i64 0)).setCell (p := ⟨w.heap.size, 4, none⟩) (by simp only; omega) (.int .i64 0)).setCell (p := ⟨w.heap.size, 5, none⟩) (by simp only; omega) (.int .i64 0))
      clear x0 x1 x2 x3 x4 f0 r0 f1 r1 f2 r2 f3 r3 f4 r4 f5 r5
      generalize ((((((W4.setCell ⟨w.heap.size, 0, none⟩ (.float .f64 0)).setCell ⟨w.heap.size, 1, none⟩ (.int .i64 0)).setCell ⟨w.heap.size, 2, none⟩ (.int .i64 0)).setCell ⟨w.heap.size, 3, none⟩ (.int .i64 0)).setCell ⟨w.heap.size, 4, none⟩ (.int .i64 0)).setCell ⟨w.heap.size, 5, none⟩ (.int .i64 0)) = wZ at *
      have q0 := hZ.cell 0
      have q1 := hZ.cell 1
      have q2 := hZ.cell 2
      have q3 := hZ.cell 3
      have q4 := hZ.cell 4
      have q5 := hZ.cell 5
      simp only [List.setIfInBounds_toArray, List.set_cons_zero, List.set_cons_succ, List.getElem?_toArray, List.getElem?_cons_zero, List.getElem?_cons_succ] at q0 q1 q2 q3 q4 q5
      refine bodyPost_ret (v := .tuple #[.agg #[.float .f64 0, .int .i64 0, .int .i64 0, .int .i64 0, .int .i64 0, .int .i64 0], .int .i64 E]) (by simp [results, Try.results72, go_sem, q0, q1, q2, q3, q4, q5]) rfl ⟨HW.out, bZ⟩
  · have HT := hide hrt
    clear hrt
    go_wp2_with fail
    refine (end_any _ _ _ _ _ _ rd3).mono ?_
    rintro e w4 ⟨rfl, m, rfl⟩
    have hR4 := hR3.drewN m
    have hX4 := hX3.drewN m
    have hb4 := below_drewN hB3 m
    clear hR3 hX3 rd3 hB3
    generalize w3.drewN m = W4 at *
    have x0 := hX4.cell 0
    have x1 := hX4.cell 1
    have x2 := hX4.cell 2
    have x3 := hX4.cell 3
    have x4 := hX4.cell 4
    have r0 := hR4.cell 0
    have f0 := hR4.frozen 0
    have r1 := hR4.cell 1
    have f1 := hR4.frozen 1
    have r2 := hR4.cell 2
    have f2 := hR4.frozen 2
    have r3 := hR4.cell 3
    have f3 := hR4.frozen 3
    have r4 := hR4.cell 4
    have f4 := hR4.frozen 4
    have r5 := hR4.cell 5
    have f5 := hR4.frozen 5
    simp only [List.getElem?_toArray, List.getElem?_cons_zero, List.getElem?_cons_succ] at x0 x1 x2 x3 x4 r0 r1 r2 r3 r4 r5
    obtain ⟨E, hEq⟩ : ∃ E, gdE s = E := ⟨_, rfl⟩
    have HV : Hid (Ending.returned (.tuple #[orZ E #[.float .f64 (geT s 0), .int .i64 (geS s 0), .int .i64 (geN s 0), .int .i64 (geD s 0), .int .i64 (geP s 0), .int .i64 (byteN s (geK s 0))] #[.float .f64 0, .int .i64 0, .int .i64 0, .int .i64 0, .int .i64 0, .int .i64 0], .int .i64 E]) = .returned (.tuple #[gdV s, .int .i64 (gdE s)])) := by
      rw [← hEq]
      exact rfl
    have HE : endE s (byteK s (geK s 0) : Nat) (byteS s (geK s 0) (geSh s 0 false)) (decide (byteN s (geK s 0) ≤ 7)) = E := by
      rw [← hEq]
      exact congrArg (endE s (byteK s (geK s 0) : Nat) (byteS s (geK s 0) (geSh s 0 false))) (by rw [HT.out]; rfl)
    simp only [HE]
    clear HE hEq
    by_cases hE : E = 0
    · have HW := hide ((show Ending.returned (.tuple #[.agg #[.float .f64 (geT s 0), .int .i64 (geS s 0), .int .i64 (geN s 0), .int .i64 (geD s 0), .int .i64 (geP s 0), .int .i64 (byteN s (geK s 0))], .int .i64 0]) = .returned (.tuple #[orZ E #[.float .f64 (geT s 0), .int .i64 (geS s 0), .int .i64 (geN s 0), .int .i64 (geD s 0), .int .i64 (geP s 0), .int .i64 (byteN s (geK s 0))] #[.float .f64 0, .int .i64 0, .int .i64 0, .int .i64 0, .int .i64 0, .int .i64 0], .int .i64 E]) by rw [hE]; unfold orZ; rw [if_pos rfl]).trans HV.out)
      subst hE
      clear HV
      go_wp2_with fail
      have hZ := ((((((hR4.set_ 0 (.float .f64 (geT s 0))).set_ 1 (.int .i64 (geS s 0))).set_ 2 (.int .i64 (geN s 0))).set_ 3 (.int .i64 (geD s 0))).set_ 4 (.int .i64 (geP s 0))).set_ 5 (.int .i64 (byteN s (geK s 0))))
      have bZ := ((((((hb4.setCell (p := ⟨w.heap.size, 0, none⟩) (by simp only; omega) (.float .f64 (geT s 0))).setCell (p := ⟨w.heap.size, 1, none⟩) (by simp only; omega) (.int .i64 (geS s 0))).setCell (p := ⟨w.heap.size, 2, none⟩) (by simp only; omega) (.int .i64 (geN s 0))).setCell (p := ⟨w.heap.size, 3, none⟩) (by simp only; omega) (.int .i64 (geD s 0))).setCell (p := ⟨w.heap.size, 4, none⟩) (by simp only; omega) (.int .i64 (geP s 0))).setCell (p := ⟨w.heap.size, 5, none⟩) (by simp only; omega) (.int .i64 (byteN s (geK s 0))))
      clear x0 x1 x2 x3 x4 f0 r0 f1 r1 f2 r2 f3 r3 f4 r4 f5 r5
      generalize ((((((W4.setCell ⟨w.heap.size, 0, none⟩ (.float .f64 (geT s 0))).setCell ⟨w.heap.size, 1, none⟩ (.int .i64 (geS s 0))).setCell ⟨w.heap.size, 2, none⟩ (.int .i64 (geN s 0))).setCell ⟨w.heap.size, 3, none⟩ (.int .i64 (geD s 0))).setCell ⟨w.heap.size, 4, none⟩ (.int .i64 (geP s 0))).setCell ⟨w.heap.size, 5, none⟩ (.int .i64 (byteN s (geK s 0)))) = wZ at *
      have q0 := hZ.cell 0
      have q1 := hZ.cell 1
      have q2 := hZ.cell 2
      have q3 := hZ.cell 3
      have q4 := hZ.cell 4
      have q5 := hZ.cell 5
      simp only [List.setIfInBounds_toArray, List.set_cons_zero, List.set_cons_succ, List.getElem?_toArray, List.getElem?_cons_zero, List.getElem?_cons_succ] at q0 q1 q2 q3 q4 q5
      refine bodyPost_ret (v := .tuple #[.agg #[.float .f64 (geT s 0), .int .i64 (geS s 0), .int .i64 (geN s 0), .int .i64 (geD s 0), .int .i64 (geP s 0), .int .i64 (byteN s (geK s 0))], .int .i64 0]) (by simp [results, Try.results72, go_sem, q0, q1, q2, q3, q4, q5]) rfl ⟨HW.out, bZ⟩
    · have hEb : (E != 0) = true := by rw [bne_iff_ne]; exact hE
      have HW := hide ((show Ending.returned (.tuple #[.agg #[.float .f64 0, .int .i64 0, .int .i64 0, .int .i64 0, .int .i64 0, .int .i64 0], .int .i64 E]) = .returned (.tuple #[orZ E #[.float .f64 (geT s 0), .int .i64 (geS s 0), .int .i64 (geN s 0), .int .i64 (geD s 0), .int .i64 (geP s 0), .int .i64 (byteN s (geK s 0))] #[.float .f64 0, .int .i64 0, .int .i64 0, .int .i64 0, .int .i64 0, .int .i64 0], .int .i64 E]) by unfold orZ; rw [if_neg hE]).trans HV.out)
      clear HV
      go_wp2_with fail
      have hZ := ((((((hR4.set_ 0 (.float .f64 0)).set_ 1 (.int .i64 0)).set_ 2 (.int .i64 0)).set_ 3 (.int .i64 0)).set_ 4 (.int .i64 0)).set_ 5 (.int .i64 0))
      have bZ := ((((((hb4.setCell (p := ⟨w.heap.size, 0, none⟩) (by simp only; omega) (.float .f64 0)).setCell (p := ⟨w.heap.size, 1, none⟩) (by simp only; omega) (.int .i64 0)).setCell (p := ⟨w.heap.size, 2, none⟩) (by simp only; omega) (.int .i64 0)).setCell (p := ⟨w.heap.size, 3, none⟩) (by simp only; omega) (.int .i64 0)).setCell (p := ⟨w.heap.size, 4, none⟩) (by simp only; omega) (.int .i64 0)).setCell (p := ⟨w.heap.size, 5, none⟩) (by simp only; omega) (.int .i64 0))
      clear x0 x1 x2 x3 x4 f0 r0 f1 r1 f2 r2 f3 r3 f4 r4 f5 r5
      generalize ((((((W4.setCell ⟨w.heap.size, 0, none⟩ (.float .f64 0)).setCell ⟨w.heap.size, 1, none⟩ (.int .i64 0)).setCell ⟨w.heap.size, 2, none⟩ (.int .i64 0)).setCell ⟨w.heap.size, 3, none⟩ (.int .i64 0)).setCell ⟨w.heap.size, 4, none⟩ (.int .i64 0)).setCell ⟨w.heap.size, 5, none⟩ (.int .i64 0)) = wZ at *
      have q0 := hZ.cell 0
      have q1 := hZ.cell 1
      have q2 := hZ.cell 2
      have q3 := hZ.cell 3
      have q4 := hZ.cell 4
      have q5 := hZ.cell 5
      simp only [List.setIfInBounds_toArray, List.set_cons_zero, List.set_cons_succ, List.getElem?_toArray, List.getElem?_cons_zero, List.getElem?_cons_succ] at q0 q1 q2 q3 q4 q5
      refine bodyPost_ret (v := .tuple #[.agg #[.float .f64 0, .int .i64 0, .int .i64 0, .int .i64 0, .int .i64 0, .int .i64 0], .int .i64 E]) (by simp [results, Try.results72, go_sem, q0, q1, q2, q3, q4, q5]) rfl ⟨HW.out, bZ⟩
end Go.Proofs.Ytpgbfglfmmohdaa
