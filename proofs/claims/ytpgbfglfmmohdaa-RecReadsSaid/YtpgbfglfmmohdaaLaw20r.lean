/- The walk of law20's RecReads. Printed by wip/tools/reads20.py. No condition but sizes that any memory has. -/
import Derived.Test.YtpgbfglfmmohdaaRef20c
import Derived.Test.YtpgbfglfmmohdaaRecPl4
set_option linter.unusedVariables false
set_option linter.unusedSimpArgs false
set_option maxRecDepth 20000
namespace Go.Proofs.Ytpgbfglfmmohdaa
open Go.RowKit Go.Deep

attribute [local go_sem] run_store_float
theorem gevV_bad {s : ByteArray} (h : gevE s ≠ 0) : gevV s = evZv := by
  unfold gevV orZ
  rw [if_neg h]
  rfl
theorem rgev_bad (s : ByteArray) (w : World) (h : s.size < 26 ∨ 26 < s.size) :
    Calls Try.prog 67 #[.string s] w fun e w' => e = .returned (.tuple #[gevV s, .int .i64 (gevE s)]) ∧ Below w.heap.size w w' := by
  have hcut := fun w => cut20_any s 26 w
  have hE : gevE s = cutE s 26 ∧ cutE s 26 ≠ 0 := by
    unfold cutE
    rcases h with h | h
    · rw [gevE_short h, if_pos (by omega)]; exact ⟨rfl, by decide⟩
    · rw [gevE_long h, if_neg (by omega), if_pos (by omega)]; exact ⟨rfl, by decide⟩
  obtain ⟨hE, hE0⟩ := hE
  have hV := gevV_bad (s := s) (by rw [hE]; exact hE0)
  have HV : Hid (Ending.returned (.tuple #[evZv, .int .i64 (cutE s 26)]) = .returned (.tuple #[gevV s, .int .i64 (gevE s)])) := by rw [hV, hE]; exact rfl
  clear hV hE
  generalize cutE s 26 = E at *
  have hEb : (E != 0) = true := by rw [bne_iff_ne]; exact hE0
  have hR := Blk.new w 70 evZ
  have hb : Below w.heap.size w (w.alloc (.cells evZ 70)) := (Below.refl _ _).alloc (Nat.le_refl _) _
  unfold evZ at hR hb
  go_enter Try.func67, Try.ntmps67
  go_upto_region 1 with fail
  generalize w.alloc _ = W0 at *
  go_wp2_with fail
  refine (hcut _).mono ?_
  rintro e w1 ⟨rfl, rfl⟩
  have r0 := hR.cell 0
  have r1 := hR.cell 1
  have r2 := hR.cell 2
  have r3 := hR.cell 3
  have r4 := hR.cell 4
  have f0 := hR.frozen 0
  have f1 := hR.frozen 1
  have f2 := hR.frozen 2
  have f3 := hR.frozen 3
  have f4 := hR.frozen 4
  simp only [List.getElem?_toArray, List.getElem?_cons_zero, List.getElem?_cons_succ] at r0 r1 r2 r3 r4
  clear hcut hE0
  go_wp2_with fail
  have hZ := (((((hR.set_ 0 (.float .f64 0)).set_ 1 (.int .i64 0)).set_ 2 (.int .i64 0)).set_ 3 (.int .i64 0)).set_ 4 (.int .i64 0))
  have bZ := (((((hb.setCell (p := ⟨w.heap.size, 0, none⟩) (by simp only; omega) (.float .f64 0)).setCell (p := ⟨w.heap.size, 1, none⟩) (by simp only; omega) (.int .i64 0)).setCell (p := ⟨w.heap.size, 2, none⟩) (by simp only; omega) (.int .i64 0)).setCell (p := ⟨w.heap.size, 3, none⟩) (by simp only; omega) (.int .i64 0)).setCell (p := ⟨w.heap.size, 4, none⟩) (by simp only; omega) (.int .i64 0))
  clear r0 r1 r2 r3 r4 f0 f1 f2 f3 f4
  generalize (((((W0.setCell ⟨w.heap.size, 0, none⟩ (.float .f64 0)).setCell ⟨w.heap.size, 1, none⟩ (.int .i64 0)).setCell ⟨w.heap.size, 2, none⟩ (.int .i64 0)).setCell ⟨w.heap.size, 3, none⟩ (.int .i64 0)).setCell ⟨w.heap.size, 4, none⟩ (.int .i64 0)) = wZ at *
  have q0 := hZ.cell 0
  have q1 := hZ.cell 1
  have q2 := hZ.cell 2
  have q3 := hZ.cell 3
  have q4 := hZ.cell 4
  simp only [List.setIfInBounds_toArray, List.set_cons_zero, List.set_cons_succ, List.getElem?_toArray, List.getElem?_cons_zero, List.getElem?_cons_succ] at q0 q1 q2 q3 q4
  refine bodyPost_ret (v := .tuple #[evZv, .int .i64 E]) (by simp [results, Try.results67, go_sem, evZv, q0, q1, q2, q3, q4]) rfl ⟨HV.out, bZ⟩
theorem rgev_any (s : ByteArray) (w : World) :
    Calls Try.prog 67 #[.string s] w fun e w' => e = .returned (.tuple #[gevV s, .int .i64 (gevE s)]) ∧ Below w.heap.size w w' := by
  rcases Nat.lt_trichotomy s.size 26 with h | h | h
  · exact rgev_bad s w (.inl h)
  · obtain ⟨e1, e2⟩ := gev_of s h _ rfl
    have hb : byteN s 17 = (s[17].toNat : Int) := byteN_in (by omega)
    rw [hb] at e1 e2
    have hs : ∃ t a b c d, gevV s = .agg #[.float .f64 t, .int .i64 a, .int .i64 b, .int .i64 c, .int .i64 d] := by
      rw [(gev_at h).2]
      split
      · exact ⟨_, _, _, _, _, rfl⟩
      · exact ⟨_, _, _, _, _, rfl⟩
    obtain ⟨t, a, b, c, d, hs⟩ := hs
    exact rgev26 s w h e1 t a b c d (e2.trans hs) hs
  · exact rgev_bad s w (.inr h)
theorem gevV_shape (s : ByteArray) : ∃ t a b c d, gevV s = .agg #[.float .f64 t, .int .i64 a, .int .i64 b, .int .i64 c, .int .i64 d] := by
  unfold gevV orZ
  split
  · exact ⟨_, _, _, _, _, rfl⟩
  · exact ⟨_, _, _, _, _, rfl⟩
theorem ofV_shape (s : ByteArray) (D : Int) : ∃ t a b c d, ofV s D = .agg #[.float .f64 t, .int .i64 a, .int .i64 b, .int .i64 c, .int .i64 d] := by
  unfold ofV orZ
  split
  · exact ⟨_, _, _, _, _, rfl⟩
  · exact ⟨_, _, _, _, _, rfl⟩
theorem gmV_shape (s : ByteArray) : ∃ t a b c d x, gmV s = .agg #[.float .f64 t, .int .i64 a, .int .i64 b, .int .i64 c, .int .i64 d, .bool x] := by
  unfold gmV orZ
  split
  · exact ⟨_, _, _, _, _, _, rfl⟩
  · exact ⟨_, _, _, _, _, _, rfl⟩
theorem gdV_shape (s : ByteArray) : ∃ t a b c d x, gdV s = .agg #[.float .f64 t, .int .i64 a, .int .i64 b, .int .i64 c, .int .i64 d, .int .i64 x] := by
  unfold gdV orZ
  split
  · exact ⟨_, _, _, _, _, _, rfl⟩
  · exact ⟨_, _, _, _, _, _, rfl⟩
theorem BoxC.two (w W : World) (g g' : Nat) (t t' : TypeId) (cs cs' : Array Value) (hb : Below w.heap.size w W) (h : Blk W g t cs) (h' : Blk W g' t' cs') : BoxC w [(g, t, cs), (g', t', cs')] W.drew := ⟨hb.drew, fun b hm => by
  have e : b = (g, t, cs) ∨ b = (g', t', cs') := by simpa using hm
  rcases e with e | e
  · subst e
    exact h.drew
  · subst e
    exact h'.drew⟩
theorem ext_26 (s : ByteArray) (h : s.size = 27) : (s.extract 1 s.size).size = 26 ∧ (s.extract 0 26).size = 26 ∧ RawEq s 1 (s.extract 1 s.size) ∧ RawEq s 0 (s.extract 0 26) :=
  ⟨by rw [ext_size _ _ _ (Nat.le_refl _), h], by rw [ext_size _ _ _ (by omega)], by rw [h]; exact raw_ext s 1 (by omega), raw_ext s 0 (by omega)⟩
/-- The message of 27 bytes against the event of the last 26. -/
theorem msg_law (s : ByteArray) (h : s.size = 27) : ((gevE (s.extract 1 s.size) ≠ 0 ∧ gmE s = 6) ∨ (gevE (s.extract 1 s.size) = 0 ∧ 1 < byteN s 0 ∧ gmE s = 6) ∨ (gevE (s.extract 1 s.size) = 0 ∧ byteN s 0 ≤ 1 ∧ gmE s = 0 ∧
    ∀ t a b c d t' a' b' c' d' x, gevV (s.extract 1 s.size) = .agg #[.float .f64 t, .int .i64 a, .int .i64 b, .int .i64 c, .int .i64 d] → gmV s = .agg #[.float .f64 t', .int .i64 a', .int .i64 b', .int .i64 c', .int .i64 d', .bool x] → t' = t ∧ a' = a ∧ b' = b ∧ c' = c ∧ d' = d ∧ x = (byteN s 0 == 1))) := by
  obtain ⟨z1, _, r1, _⟩ := ext_26 s h
  obtain ⟨e1, v1⟩ := gev_at z1
  obtain ⟨e2, v2⟩ := gm_at h
  rw [r1.right] at e1 v1
  rw [r1.arr] at v1
  cases hr : rawR s 1
  · rw [hr] at e1 e2
    exact .inl ⟨by rw [e1]; decide, e2⟩
  · rw [hr] at e1 e2 v1 v2
    by_cases hb : byteN s 0 ≤ 1
    · rw [decide_eq_true hb] at e2 v2
      refine .inr (.inr ⟨e1, hb, e2, ?_⟩)
      intro t a b c d t' a' b' c' d' x g1 g2
      rw [v1, if_pos rfl] at g1
      rw [v2, if_pos (by rfl)] at g2
      unfold rawA at g1 g2
      simp only [List.push_toArray, List.cons_append, List.nil_append, Value.agg.injEq, Array.mk.injEq, List.cons.injEq, Value.float.injEq, Value.int.injEq, Value.bool.injEq, true_and, and_true] at g1 g2
      obtain ⟨g10, g11, g12, g13, g14⟩ := g1
      obtain ⟨g20, g21, g22, g23, g24, g25⟩ := g2
      exact ⟨g20.symm.trans g10, g21.symm.trans g11, g22.symm.trans g12, g23.symm.trans g13, g24.symm.trans g14, g25.symm⟩
    · rw [decide_eq_false hb] at e2
      exact .inr (.inl ⟨e1, by omega, e2⟩)
/-- What was handled, of 27 bytes, against the event of the first 26. -/
theorem done_law (s : ByteArray) (h : s.size = 27) : ((gevE (s.extract 0 26) ≠ 0 ∧ gdE s = 6) ∨ (gevE (s.extract 0 26) = 0 ∧ 7 < byteN s 26 ∧ gdE s = 6) ∨ (gevE (s.extract 0 26) = 0 ∧ byteN s 26 ≤ 7 ∧ gdE s = 0 ∧
    ∀ t a b c d t' a' b' c' d' x, gevV (s.extract 0 26) = .agg #[.float .f64 t, .int .i64 a, .int .i64 b, .int .i64 c, .int .i64 d] → gdV s = .agg #[.float .f64 t', .int .i64 a', .int .i64 b', .int .i64 c', .int .i64 d', .int .i64 x] → t' = t ∧ a' = a ∧ b' = b ∧ c' = c ∧ d' = d ∧ x = byteN s 26)) := by
  obtain ⟨_, z1, _, r1⟩ := ext_26 s h
  obtain ⟨e1, v1⟩ := gev_at z1
  obtain ⟨e2, v2⟩ := gd_at h
  rw [r1.right] at e1 v1
  rw [r1.arr] at v1
  cases hr : rawR s 0
  · rw [hr] at e1 e2
    exact .inl ⟨by rw [e1]; decide, e2⟩
  · rw [hr] at e1 e2 v1 v2
    by_cases hb : byteN s 26 ≤ 7
    · rw [decide_eq_true hb] at e2 v2
      refine .inr (.inr ⟨e1, hb, e2, ?_⟩)
      intro t a b c d t' a' b' c' d' x g1 g2
      rw [v1, if_pos rfl] at g1
      rw [v2, if_pos (by rfl)] at g2
      unfold rawA at g1 g2
      simp only [List.push_toArray, List.cons_append, List.nil_append, Value.agg.injEq, Array.mk.injEq, List.cons.injEq, Value.float.injEq, Value.int.injEq, true_and, and_true] at g1 g2
      obtain ⟨g10, g11, g12, g13, g14⟩ := g1
      obtain ⟨g20, g21, g22, g23, g24, g25⟩ := g2
      exact ⟨g20.symm.trans g10, g21.symm.trans g11, g22.symm.trans g12, g23.symm.trans g13, g24.symm.trans g14, g25.symm⟩
    · rw [decide_eq_false hb] at e2
      exact .inr (.inl ⟨e1, by omega, e2⟩)
theorem BoxC.four (w W : World) (g1 g2 g3 g4 : Nat) (t1 t2 t3 t4 : TypeId) (c1 c2 c3 c4 : Array Value) (hb : Below w.heap.size w W) (h1 : Blk W g1 t1 c1) (h2 : Blk W g2 t2 c2) (h3 : Blk W g3 t3 c3) (h4 : Blk W g4 t4 c4) : BoxC w [(g1, t1, c1), (g2, t2, c2), (g3, t3, c3), (g4, t4, c4)] W.drew := ⟨hb.drew, fun b hm => by
  have e : b = (g1, t1, c1) ∨ b = (g2, t2, c2) ∨ b = (g3, t3, c3) ∨ b = (g4, t4, c4) := by simpa using hm
  rcases e with e | e | e | e
  · subst e
    exact h1.drew
  · subst e
    exact h2.drew
  · subst e
    exact h3.drew
  · subst e
    exact h4.drew⟩
set_option maxHeartbeats 8000000 in
theorem reads20_walk (s : ByteArray) (D : Int) (w : World) (h200 : s.size ≤ 200) :
    Calls Try.prog 19 #[.string s, .int .i64 D] w fun e w' => e = .returned (.bool true) ∧ Below w.heap.size w w' := by
  have hm : s.size ≤ 9223372036854775807 := by omega
  have hz : ¬ (200 : Int) < (s.size : Int) := by omega
  have K1 := fun W => getevent_any s W hm
  have K1r := fun W => rgev_any s W
  have K2 := fun W => of_any s D W hm
  have K2r := fun W => rof_any s D W
  have Km := fun W => getmsg_any s W hm
  have Kx := fun W => getdone_any s W hm
  obtain ⟨t1, a1, b1, c1, d1, V1⟩ := gevV_shape s
  obtain ⟨t2, a2, b2, c2, d2, V2⟩ := ofV_shape s D
  obtain ⟨tm, am, bm, cm, dm, xm, Vm⟩ := gmV_shape s
  obtain ⟨tx, ax, bx, cx, dx, xx, Vx⟩ := gdV_shape s
  obtain ⟨E1, hE1⟩ : ∃ e, gevE s = e := ⟨_, rfl⟩
  obtain ⟨E2, hE2⟩ : ∃ e, ofE s D = e := ⟨_, rfl⟩
  obtain ⟨Em, hEm⟩ : ∃ e, gmE s = e := ⟨_, rfl⟩
  obtain ⟨Ex, hEx⟩ : ∃ e, gdE s = e := ⟨_, rfl⟩
  simp only [V1, hE1] at K1 K1r
  simp only [V2, hE2] at K2 K2r
  simp only [Vm, hEm] at Km
  simp only [Vx, hEx] at Kx
  clear V1 V2 hE1 hE2
  replace K1 := hide K1
  replace K1r := hide K1r
  replace K2 := hide K2
  replace K2r := hide K2r
  replace Km := hide Km
  replace Kx := hide Kx
  replace Vm := hide Vm
  replace Vx := hide Vx
  replace hEm := hide hEm
  replace hEx := hide hEx
  have hb : Below w.heap.size w w := Below.refl _ _
  go_enter Try.func19, Try.ntmps19
  go_wp2_with fail
  refine (K1.out _).mono ?_
  rintro e w1 ⟨rfl, k1⟩
  replace hb := below_after hb k1
  clear k1
  go_wp2_with fail
  have hA := Blk.new w1 70 #[.float .f64 t1, .int .i64 a1, .int .i64 b1, .int .i64 c1, .int .i64 d1]
  replace hb := hb.alloc hb.size (.cells #[.float .f64 t1, .int .i64 a1, .int .i64 b1, .int .i64 c1, .int .i64 d1] 70)
  generalize w1.alloc (.cells #[.float .f64 t1, .int .i64 a1, .int .i64 b1, .int .i64 c1, .int .i64 d1] 70) = w2 at *
  generalize w1.heap.size = ghA at *
  refine (K1r.out _).mono ?_
  rintro e w3 ⟨rfl, k3⟩
  replace hA := hA.below k3 hA.lt
  replace hb := below_after hb k3
  clear k3
  go_wp2_with fail
  have hB := Blk.new w3 70 #[.float .f64 t1, .int .i64 a1, .int .i64 b1, .int .i64 c1, .int .i64 d1]
  replace hA := hA.alloc (.cells #[.float .f64 t1, .int .i64 a1, .int .i64 b1, .int .i64 c1, .int .i64 d1] 70)
  replace hb := hb.alloc hb.size (.cells #[.float .f64 t1, .int .i64 a1, .int .i64 b1, .int .i64 c1, .int .i64 d1] 70)
  generalize w3.alloc (.cells #[.float .f64 t1, .int .i64 a1, .int .i64 b1, .int .i64 c1, .int .i64 d1] 70) = w4 at *
  generalize w3.heap.size = ghB at *
  refine (K2.out _).mono ?_
  rintro e w5 ⟨rfl, k5⟩
  replace hA := hA.below k5 hA.lt
  replace hB := hB.below k5 hB.lt
  replace hb := below_after hb k5
  clear k5
  go_wp2_with fail
  have hC := Blk.new w5 70 #[.float .f64 t2, .int .i64 a2, .int .i64 b2, .int .i64 c2, .int .i64 d2]
  replace hA := hA.alloc (.cells #[.float .f64 t2, .int .i64 a2, .int .i64 b2, .int .i64 c2, .int .i64 d2] 70)
  replace hB := hB.alloc (.cells #[.float .f64 t2, .int .i64 a2, .int .i64 b2, .int .i64 c2, .int .i64 d2] 70)
  replace hb := hb.alloc hb.size (.cells #[.float .f64 t2, .int .i64 a2, .int .i64 b2, .int .i64 c2, .int .i64 d2] 70)
  generalize w5.alloc (.cells #[.float .f64 t2, .int .i64 a2, .int .i64 b2, .int .i64 c2, .int .i64 d2] 70) = w6 at *
  generalize w5.heap.size = ghC at *
  refine (K2r.out _).mono ?_
  rintro e w7 ⟨rfl, k7⟩
  replace hA := hA.below k7 hA.lt
  replace hB := hB.below k7 hB.lt
  replace hC := hC.below k7 hC.lt
  replace hb := below_after hb k7
  clear k7
  go_upto_region 7 with fail
  have hD := Blk.new w7 70 #[.float .f64 t2, .int .i64 a2, .int .i64 b2, .int .i64 c2, .int .i64 d2]
  replace hA := hA.alloc (.cells #[.float .f64 t2, .int .i64 a2, .int .i64 b2, .int .i64 c2, .int .i64 d2] 70)
  replace hB := hB.alloc (.cells #[.float .f64 t2, .int .i64 a2, .int .i64 b2, .int .i64 c2, .int .i64 d2] 70)
  replace hC := hC.alloc (.cells #[.float .f64 t2, .int .i64 a2, .int .i64 b2, .int .i64 c2, .int .i64 d2] 70)
  replace hb := hb.alloc hb.size (.cells #[.float .f64 t2, .int .i64 a2, .int .i64 b2, .int .i64 c2, .int .i64 d2] 70)
  generalize w7.alloc (.cells #[.float .f64 t2, .int .i64 a2, .int .i64 b2, .int .i64 c2, .int .i64 d2] 70) = w8 at *
  generalize w7.heap.size = ghD at *
  clear K1 K1r K2 K2r
  have chA0 := hA.cell 0
  have chA1 := hA.cell 1
  have chA2 := hA.cell 2
  have chA3 := hA.cell 3
  have chA4 := hA.cell 4
  have chB0 := hB.cell 0
  have chB1 := hB.cell 1
  have chB2 := hB.cell 2
  have chB3 := hB.cell 3
  have chB4 := hB.cell 4
  simp only [List.getElem?_toArray, List.getElem?_cons_zero, List.getElem?_cons_succ] at chA0 chA1 chA2 chA3 chA4 chB0 chB1 chB2 chB3 chB4
  go_wp2_with fail
  clear chA0 chA1 chA2 chA3 chA4 chB0 chB1 chB2 chB3 chB4
  clear hA
  clear hB
  refine (same20_self _ _ _ _ _ _).mono ?_
  rintro e w9 ⟨rfl, k9⟩
  replace hC := hC.below k9 hC.lt
  replace hD := hD.below k9 hD.lt
  replace hb := below_after hb k9
  clear k9
  have chC0 := hC.cell 0
  have chC1 := hC.cell 1
  have chC2 := hC.cell 2
  have chC3 := hC.cell 3
  have chC4 := hC.cell 4
  have chD0 := hD.cell 0
  have chD1 := hD.cell 1
  have chD2 := hD.cell 2
  have chD3 := hD.cell 3
  have chD4 := hD.cell 4
  simp only [List.getElem?_toArray, List.getElem?_cons_zero, List.getElem?_cons_succ] at chC0 chC1 chC2 chC3 chC4 chD0 chD1 chD2 chD3 chD4
  go_wp2_with fail
  clear chC0 chC1 chC2 chC3 chC4 chD0 chD1 chD2 chD3 chD4
  clear hC
  clear hD
  refine (same20_self _ _ _ _ _ _).mono ?_
  rintro e w10 ⟨rfl, k10⟩
  replace hb := below_after hb k10
  clear k10
  go_wp2_with fail
  refine (awake20 _).mono ?_
  rintro e w11 ⟨rfl, k11⟩
  replace hb := below_after hb k11
  clear k11
  go_wp2_with fail
  refine (Km.out _).mono ?_
  rintro e w12 ⟨rfl, k12⟩
  replace hb := below_after hb k12
  clear k12
  go_wp2_with fail
  have hM := Blk.new w12 76 #[.float .f64 tm, .int .i64 am, .int .i64 bm, .int .i64 cm, .int .i64 dm, .bool xm]
  replace hb := hb.alloc hb.size (.cells #[.float .f64 tm, .int .i64 am, .int .i64 bm, .int .i64 cm, .int .i64 dm, .bool xm] 76)
  generalize w12.alloc (.cells #[.float .f64 tm, .int .i64 am, .int .i64 bm, .int .i64 cm, .int .i64 dm, .bool xm] 76) = w13 at *
  generalize w12.heap.size = ghM at *
  refine (Kx.out _).mono ?_
  rintro e w14 ⟨rfl, k14⟩
  replace hM := hM.below k14 hM.lt
  replace hb := below_after hb k14
  clear k14
  go_upto_region 11 with fail
  have hX := Blk.new w14 79 #[.float .f64 tx, .int .i64 ax, .int .i64 bx, .int .i64 cx, .int .i64 dx, .int .i64 xx]
  replace hM := hM.alloc (.cells #[.float .f64 tx, .int .i64 ax, .int .i64 bx, .int .i64 cx, .int .i64 dx, .int .i64 xx] 79)
  replace hb := hb.alloc hb.size (.cells #[.float .f64 tx, .int .i64 ax, .int .i64 bx, .int .i64 cx, .int .i64 dx, .int .i64 xx] 79)
  generalize w14.alloc (.cells #[.float .f64 tx, .int .i64 ax, .int .i64 bx, .int .i64 cx, .int .i64 dx, .int .i64 xx] 79) = w15 at *
  generalize w14.heap.size = ghX at *
  clear Km Kx
  rcases Nat.lt_trichotomy s.size 27 with h27 | h27 | h27
  · obtain rfl : Em = 5 := hEm.out.symm.trans (gmE_short h27)
    obtain rfl : Ex = 5 := hEx.out.symm.trans (gdE_short h27)
    have hlt : (s.size : Int) < 27 := by omega
    clear hEm hEx Vm Vx hM hX h27
    go_wp2_with fail
    go_ret
    exact ⟨rfl, hb⟩
  · have q1 := msg_law s h27
    have q2 := done_law s h27
    have i0 := run_index_str Try.underlying9 s .i64 0 0 rfl (by omega)
    have i26 := run_index_str Try.underlying9 s .i64 26 26 rfl (by omega)
    have z0 : byteN s 0 = (s[0].toNat : Int) := byteN_in (by omega)
    have z26 : byteN s 26 = (s[26].toNat : Int) := byteN_in (by omega)
    have l26 := s[26].toNat_lt
    have w26 : IntKind.i64.wrap (s[26].toNat : Int) = (s[26].toNat : Int) := IntWalk.i64_in _ (by omega)
    rw [z0] at q1
    rw [z26] at q2
    have s1 := run_slice_str_lo Try.underlying9 s .i64 1 1 rfl (by omega) hm
    have s2 := run_slice_str0 Try.underlying9 s .i64 26 26 rfl (by omega)
    have hlt : ¬ (s.size : Int) < 27 := by omega
    have hgt : ¬ (27 : Int) < (s.size : Int) := by omega
    have Ky := fun W => rgev_any (s.extract 1 s.size) W
    have Kz := fun W => rgev_any (s.extract 0 26) W
    obtain ⟨ty, ay, by_, cy, dy, Vy⟩ := gevV_shape (s.extract 1 s.size)
    obtain ⟨tz, az, bz, cz, dz, Vz⟩ := gevV_shape (s.extract 0 26)
    simp only [Vy] at Ky
    simp only [Vz] at Kz
    have q3 := fun h => q1.resolve_left h
    clear q3
    replace Vy := hide Vy
    replace Vz := hide Vz
    obtain ⟨Ey, hEy⟩ : ∃ e, gevE (s.extract 1 s.size) = e := ⟨_, rfl⟩
    obtain ⟨Ez, hEz⟩ : ∃ e, gevE (s.extract 0 26) = e := ⟨_, rfl⟩
    simp only [hEy] at Ky q1
    simp only [hEz] at Kz q2
    simp only [hEm.out] at q1
    simp only [hEx.out] at q2
    replace Ky := hide Ky
    replace Kz := hide Kz
    have Q1 : (Ey ≠ 0 ∧ Em = 6) ∨ (Ey = 0 ∧ 1 < (s[0].toNat : Int) ∧ Em = 6) ∨ (Ey = 0 ∧ (s[0].toNat : Int) ≤ 1 ∧ Em = 0 ∧ tm = ty ∧ am = ay ∧ bm = by_ ∧ cm = cy ∧ dm = dy ∧ xm = ((s[0].toNat : Int) == 1)) := by
      rcases q1 with q | q | ⟨g1, g2, g3, g4⟩
      · exact .inl q
      · exact .inr (.inl q)
      · exact .inr (.inr ⟨g1, g2, g3, g4 _ _ _ _ _ _ _ _ _ _ _ Vy.out Vm.out⟩)
    have Q2 : (Ez ≠ 0 ∧ Ex = 6) ∨ (Ez = 0 ∧ 7 < (s[26].toNat : Int) ∧ Ex = 6) ∨ (Ez = 0 ∧ (s[26].toNat : Int) ≤ 7 ∧ Ex = 0 ∧ tx = tz ∧ ax = az ∧ bx = bz ∧ cx = cz ∧ dx = dz ∧ xx = (s[26].toNat : Int)) := by
      rcases q2 with q | q | ⟨g1, g2, g3, g4⟩
      · exact .inl q
      · exact .inr (.inl q)
      · exact .inr (.inr ⟨g1, g2, g3, g4 _ _ _ _ _ _ _ _ _ _ _ Vz.out Vx.out⟩)
    clear q1 q2 hEm hEx hEy hEz Vm Vx Vy Vz z0 z26 l26
    generalize (s[0].toNat : Int) = B0 at *
    generalize (s[26].toNat : Int) = B26 at *
    generalize s.extract 1 s.size = S1 at *
    generalize s.extract 0 26 = S2 at *
    clear h27
    replace Q1 := hide Q1
    replace Q2 := hide Q2
    go_wp2_with fail
    refine (Ky.out _).mono ?_
    rintro e w16 ⟨rfl, k16⟩
    replace hM := hM.below k16 hM.lt
    replace hX := hX.below k16 hX.lt
    replace hb := below_after hb k16
    clear k16
    go_wp2_with fail
    have hY := Blk.new w16 70 #[.float .f64 ty, .int .i64 ay, .int .i64 by_, .int .i64 cy, .int .i64 dy]
    replace hM := hM.alloc (.cells #[.float .f64 ty, .int .i64 ay, .int .i64 by_, .int .i64 cy, .int .i64 dy] 70)
    replace hX := hX.alloc (.cells #[.float .f64 ty, .int .i64 ay, .int .i64 by_, .int .i64 cy, .int .i64 dy] 70)
    replace hb := hb.alloc hb.size (.cells #[.float .f64 ty, .int .i64 ay, .int .i64 by_, .int .i64 cy, .int .i64 dy] 70)
    generalize w16.alloc (.cells #[.float .f64 ty, .int .i64 ay, .int .i64 by_, .int .i64 cy, .int .i64 dy] 70) = w17 at *
    generalize w16.heap.size = ghY at *
    refine (Kz.out _).mono ?_
    rintro e w18 ⟨rfl, k18⟩
    replace hM := hM.below k18 hM.lt
    replace hX := hX.below k18 hX.lt
    replace hY := hY.below k18 hY.lt
    replace hb := below_after hb k18
    clear k18
    go_upto_region 17 with fail
    have hZ := Blk.new w18 70 #[.float .f64 tz, .int .i64 az, .int .i64 bz, .int .i64 cz, .int .i64 dz]
    replace hM := hM.alloc (.cells #[.float .f64 tz, .int .i64 az, .int .i64 bz, .int .i64 cz, .int .i64 dz] 70)
    replace hX := hX.alloc (.cells #[.float .f64 tz, .int .i64 az, .int .i64 bz, .int .i64 cz, .int .i64 dz] 70)
    replace hY := hY.alloc (.cells #[.float .f64 tz, .int .i64 az, .int .i64 bz, .int .i64 cz, .int .i64 dz] 70)
    replace hb := hb.alloc hb.size (.cells #[.float .f64 tz, .int .i64 az, .int .i64 bz, .int .i64 cz, .int .i64 dz] 70)
    generalize w18.alloc (.cells #[.float .f64 tz, .int .i64 az, .int .i64 bz, .int .i64 cz, .int .i64 dz] 70) = w19 at *
    generalize w18.heap.size = ghZ at *
    clear Ky Kz
    rcases Q1.out with ⟨n1, rfl⟩ | ⟨rfl, n2, rfl⟩ | ⟨rfl, n2, rfl, rfl, rfl, rfl, rfl, rfl, rfl⟩
    · have n3 : (Ey != 0) = true := by rw [bne_iff_ne]; exact n1
      clear Q1 n1 hM hY
      go_upto_region 22 with fail
      rcases Q2.out with ⟨n1, rfl⟩ | ⟨rfl, n2, rfl⟩ | ⟨rfl, n2, rfl, rfl, rfl, rfl, rfl, rfl, rfl⟩
      · have n3 : (Ez != 0) = true := by rw [bne_iff_ne]; exact n1
        clear Q2 n1 hX hZ
        go_wp2_with fail
        go_ret
        exact ⟨rfl, hb⟩
      · clear Q2 hX hZ
        go_wp2_with fail
        go_ret
        exact ⟨rfl, hb⟩
      · have n3 : ¬ 7 < xx := by omega
        clear Q2
        go_upto_region 24 with fail
        obtain ⟨P, hO, h0, hne, hI⟩ := BoxC.hidden _ _ _ (BoxC.two w _ _ _ _ _ _ _ hb hX hZ)
        have hQ1 : ∀ i : Wo P, Blk i.W ghX 79 #[.float .f64 tx, .int .i64 ax, .int .i64 bx, .int .i64 cx, .int .i64 dx, .int .i64 xx] := fun i => (hI i).2 (ghX, 79, #[.float .f64 tx, .int .i64 ax, .int .i64 bx, .int .i64 cx, .int .i64 dx, .int .i64 xx]) (by simp)
        have hQ2 : ∀ i : Wo P, Blk i.W ghZ 70 #[.float .f64 tx, .int .i64 ax, .int .i64 bx, .int .i64 cx, .int .i64 dx] := fun i => (hI i).2 (ghZ, 70, #[.float .f64 tx, .int .i64 ax, .int .i64 bx, .int .i64 cx, .int .i64 dx]) (by simp)
        have u0 := fun i => (hQ1 i).cell 0
        have u1 := fun i => (hQ1 i).cell 1
        have u2 := fun i => (hQ1 i).cell 2
        have u3 := fun i => (hQ1 i).cell 3
        have u4 := fun i => (hQ1 i).cell 4
        have u5 := fun i => (hQ1 i).cell 5
        have v0 := fun i => (hQ2 i).cell 0
        have v1 := fun i => (hQ2 i).cell 1
        have v2 := fun i => (hQ2 i).cell 2
        have v3 := fun i => (hQ2 i).cell 3
        have v4 := fun i => (hQ2 i).cell 4
        have HI := hide hI
        have HO := hide hO
        have H0 := hide h0
        clear hO h0 hI hQ1 hQ2
        refine wp_region_quietC (by kernel_rfl) (by kernel_rfl) H0.out ?_
        repeat (go_big_quiet_step ((go_at_call 70; exact Calls.quietC HO.out (same20_self _ _ _ _ _ _))))
        refine wpQuiet_nil ?_
        intro _ hw'
        obtain ⟨iw, rfl⟩ := hw'
        go_wp2
        go_ret
        exact ⟨rfl, (HI.out iw).1⟩
    · clear Q1 hM hY
      go_upto_region 22 with fail
      clear n2
      rcases Q2.out with ⟨n1, rfl⟩ | ⟨rfl, n2, rfl⟩ | ⟨rfl, n2, rfl, rfl, rfl, rfl, rfl, rfl, rfl⟩
      · have n3 : (Ez != 0) = true := by rw [bne_iff_ne]; exact n1
        clear Q2 n1 hX hZ
        go_wp2_with fail
        go_ret
        exact ⟨rfl, hb⟩
      · clear Q2 hX hZ
        go_wp2_with fail
        go_ret
        exact ⟨rfl, hb⟩
      · have n3 : ¬ 7 < xx := by omega
        clear Q2
        go_upto_region 24 with fail
        obtain ⟨P, hO, h0, hne, hI⟩ := BoxC.hidden _ _ _ (BoxC.two w _ _ _ _ _ _ _ hb hX hZ)
        have hQ1 : ∀ i : Wo P, Blk i.W ghX 79 #[.float .f64 tx, .int .i64 ax, .int .i64 bx, .int .i64 cx, .int .i64 dx, .int .i64 xx] := fun i => (hI i).2 (ghX, 79, #[.float .f64 tx, .int .i64 ax, .int .i64 bx, .int .i64 cx, .int .i64 dx, .int .i64 xx]) (by simp)
        have hQ2 : ∀ i : Wo P, Blk i.W ghZ 70 #[.float .f64 tx, .int .i64 ax, .int .i64 bx, .int .i64 cx, .int .i64 dx] := fun i => (hI i).2 (ghZ, 70, #[.float .f64 tx, .int .i64 ax, .int .i64 bx, .int .i64 cx, .int .i64 dx]) (by simp)
        have u0 := fun i => (hQ1 i).cell 0
        have u1 := fun i => (hQ1 i).cell 1
        have u2 := fun i => (hQ1 i).cell 2
        have u3 := fun i => (hQ1 i).cell 3
        have u4 := fun i => (hQ1 i).cell 4
        have u5 := fun i => (hQ1 i).cell 5
        have v0 := fun i => (hQ2 i).cell 0
        have v1 := fun i => (hQ2 i).cell 1
        have v2 := fun i => (hQ2 i).cell 2
        have v3 := fun i => (hQ2 i).cell 3
        have v4 := fun i => (hQ2 i).cell 4
        have HI := hide hI
        have HO := hide hO
        have H0 := hide h0
        clear hO h0 hI hQ1 hQ2
        refine wp_region_quietC (by kernel_rfl) (by kernel_rfl) H0.out ?_
        repeat (go_big_quiet_step ((go_at_call 70; exact Calls.quietC HO.out (same20_self _ _ _ _ _ _))))
        refine wpQuiet_nil ?_
        intro _ hw'
        obtain ⟨iw, rfl⟩ := hw'
        go_wp2
        go_ret
        exact ⟨rfl, (HI.out iw).1⟩
    · have n3 : ¬ 1 < B0 := by omega
      clear Q1
      go_upto_region 20 with fail
      go_cut [136] (fun b wx => b = .bool false ∧ Below w.heap.size w wx ∧ Blk wx ghX 79 #[.float .f64 tx, .int .i64 ax, .int .i64 bx, .int .i64 cx, .int .i64 dx, .int .i64 xx] ∧ Blk wx ghZ 70 #[.float .f64 tz, .int .i64 az, .int .i64 bz, .int .i64 cz, .int .i64 dz])
      case first =>
        obtain ⟨P, hO, h0, hne, hI⟩ := BoxC.hidden _ _ _ (BoxC.four w _ _ _ _ _ _ _ _ _ _ _ _ _ hb hM hY hX hZ)
        have hQ1 : ∀ i : Wo P, Blk i.W ghM 76 #[.float .f64 tm, .int .i64 am, .int .i64 bm, .int .i64 cm, .int .i64 dm, .bool (B0 == 1)] := fun i => (hI i).2 (ghM, 76, #[.float .f64 tm, .int .i64 am, .int .i64 bm, .int .i64 cm, .int .i64 dm, .bool (B0 == 1)]) (by simp)
        have hQ2 : ∀ i : Wo P, Blk i.W ghY 70 #[.float .f64 tm, .int .i64 am, .int .i64 bm, .int .i64 cm, .int .i64 dm] := fun i => (hI i).2 (ghY, 70, #[.float .f64 tm, .int .i64 am, .int .i64 bm, .int .i64 cm, .int .i64 dm]) (by simp)
        have hQ3 : ∀ i : Wo P, Blk i.W ghX 79 #[.float .f64 tx, .int .i64 ax, .int .i64 bx, .int .i64 cx, .int .i64 dx, .int .i64 xx] := fun i => (hI i).2 (ghX, 79, #[.float .f64 tx, .int .i64 ax, .int .i64 bx, .int .i64 cx, .int .i64 dx, .int .i64 xx]) (by simp)
        have hQ4 : ∀ i : Wo P, Blk i.W ghZ 70 #[.float .f64 tz, .int .i64 az, .int .i64 bz, .int .i64 cz, .int .i64 dz] := fun i => (hI i).2 (ghZ, 70, #[.float .f64 tz, .int .i64 az, .int .i64 bz, .int .i64 cz, .int .i64 dz]) (by simp)
        replace hQ3 := hide hQ3
        replace hQ4 := hide hQ4
        have u0 := fun i => (hQ1 i).cell 0
        have u1 := fun i => (hQ1 i).cell 1
        have u2 := fun i => (hQ1 i).cell 2
        have u3 := fun i => (hQ1 i).cell 3
        have u4 := fun i => (hQ1 i).cell 4
        have u5 := fun i => (hQ1 i).cell 5
        have v0 := fun i => (hQ2 i).cell 0
        have v1 := fun i => (hQ2 i).cell 1
        have v2 := fun i => (hQ2 i).cell 2
        have v3 := fun i => (hQ2 i).cell 3
        have v4 := fun i => (hQ2 i).cell 4
        have HI := hide hI
        have HO := hide hO
        have H0 := hide h0
        clear hO h0 hI hQ1 hQ2
        refine wp_region_quietC (by kernel_rfl) (by kernel_rfl) H0.out ?_
        repeat (go_big_quiet_step ((go_at_call 70; exact Calls.quietC HO.out (same20_self _ _ _ _ _ _))))
        refine wpQuiet_nil ?_
        intro _ hw'
        obtain ⟨iw, rfl⟩ := hw'
        go_wp2_with fail
        go_meet
        exact ⟨rfl, (HI.out iw).1, hQ3.out iw, hQ4.out iw⟩
      case rest =>
        obtain ⟨rfl, hb, hX, hZ⟩ := hcut
        clear hM hY n2 n3
        go_upto_region 22 with fail
        rcases Q2.out with ⟨n1, rfl⟩ | ⟨rfl, n2, rfl⟩ | ⟨rfl, n2, rfl, rfl, rfl, rfl, rfl, rfl, rfl⟩
        · have n3 : (Ez != 0) = true := by rw [bne_iff_ne]; exact n1
          clear Q2 n1 hX hZ
          go_wp2_with fail
          go_ret
          exact ⟨rfl, hb⟩
        · clear Q2 hX hZ
          go_wp2_with fail
          go_ret
          exact ⟨rfl, hb⟩
        · have n3 : ¬ 7 < xx := by omega
          clear Q2
          go_upto_region 24 with fail
          obtain ⟨P, hO, h0, hne, hI⟩ := BoxC.hidden _ _ _ (BoxC.two w _ _ _ _ _ _ _ hb hX hZ)
          have hQ1 : ∀ i : Wo P, Blk i.W ghX 79 #[.float .f64 tx, .int .i64 ax, .int .i64 bx, .int .i64 cx, .int .i64 dx, .int .i64 xx] := fun i => (hI i).2 (ghX, 79, #[.float .f64 tx, .int .i64 ax, .int .i64 bx, .int .i64 cx, .int .i64 dx, .int .i64 xx]) (by simp)
          have hQ2 : ∀ i : Wo P, Blk i.W ghZ 70 #[.float .f64 tx, .int .i64 ax, .int .i64 bx, .int .i64 cx, .int .i64 dx] := fun i => (hI i).2 (ghZ, 70, #[.float .f64 tx, .int .i64 ax, .int .i64 bx, .int .i64 cx, .int .i64 dx]) (by simp)
          have u0 := fun i => (hQ1 i).cell 0
          have u1 := fun i => (hQ1 i).cell 1
          have u2 := fun i => (hQ1 i).cell 2
          have u3 := fun i => (hQ1 i).cell 3
          have u4 := fun i => (hQ1 i).cell 4
          have u5 := fun i => (hQ1 i).cell 5
          have v0 := fun i => (hQ2 i).cell 0
          have v1 := fun i => (hQ2 i).cell 1
          have v2 := fun i => (hQ2 i).cell 2
          have v3 := fun i => (hQ2 i).cell 3
          have v4 := fun i => (hQ2 i).cell 4
          have HI := hide hI
          have HO := hide hO
          have H0 := hide h0
          clear hO h0 hI hQ1 hQ2
          refine wp_region_quietC (by kernel_rfl) (by kernel_rfl) H0.out ?_
          repeat (go_big_quiet_step ((go_at_call 70; exact Calls.quietC HO.out (same20_self _ _ _ _ _ _))))
          refine wpQuiet_nil ?_
          intro _ hw'
          obtain ⟨iw, rfl⟩ := hw'
          go_wp2
          go_ret
          exact ⟨rfl, (HI.out iw).1⟩
  · obtain rfl : Em = 6 := hEm.out.symm.trans (gmE_long h27)
    obtain rfl : Ex = 6 := hEx.out.symm.trans (gdE_long h27)
    have hlt : ¬ (s.size : Int) < 27 := by omega
    have hgt : (27 : Int) < (s.size : Int) := by omega
    clear hEm hEx Vm Vx hM hX h27
    go_wp2_with fail
    go_ret
    exact ⟨rfl, hb⟩
theorem reads20_all (s : ByteArray) (D : Int) (w : World) :
    Calls Try.prog 19 #[.string s, .int .i64 D] w fun e w' => e = .returned (.bool true) ∧ Below w.heap.size w w' := by
  by_cases h : s.size ≤ 200
  · exact reads20_walk s D w h
  · have hz : (200 : Int) < (s.size : Int) := by omega
    clear h
    go_enter Try.func19, Try.ntmps19
    go_wp2_with fail
    refine (awake20 _).mono ?_
    rintro e w1 ⟨rfl, h1⟩
    go_wp2
    go_ret
    exact ⟨rfl, h1⟩
end Go.Proofs.Ytpgbfglfmmohdaa
