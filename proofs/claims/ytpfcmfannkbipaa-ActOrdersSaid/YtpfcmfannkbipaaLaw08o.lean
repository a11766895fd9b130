/- The walk of the law ActOrders. No condition. -/
import Derived.Test.YtpfcmfannkbipaaOrd8
import Derived.Test.YtpfcmfannkbipaaAw8c
set_option linter.unusedVariables false
set_option linter.unusedSimpArgs false
set_option maxRecDepth 20000
namespace Go.Proofs.Ytpfcmfannkbipaa
open Go.RowKit Go.Deep

attribute [local go_sem] run_store_float
theorem ac_any (a b : Ev) (w : World) : Calls Try.prog 54 #[.agg #[.float .f64 a.1, .int .i64 a.2.1, .int .i64 a.2.2.1, .int .i64 a.2.2.2.1, .int .i64 a.2.2.2.2], .agg #[.float .f64 b.1, .int .i64 b.2.1, .int .i64 b.2.2.1, .int .i64 b.2.2.2.1, .int .i64 b.2.2.2.2]] w fun e w' => e = .returned (.int .i64 (cmpE a b)) ∧ Below w.heap.size w w' := actcmp_any _ _ _ _ _ _ _ _ _ _ w
theorem rc_any (a b : Ev) (w : World) : Calls Try.prog 32 #[.agg #[.float .f64 a.1, .int .i64 a.2.1, .int .i64 a.2.2.1, .int .i64 a.2.2.2.1, .int .i64 a.2.2.2.2], .agg #[.float .f64 b.1, .int .i64 b.2.1, .int .i64 b.2.2.1, .int .i64 b.2.2.2.1, .int .i64 b.2.2.2.2]] w fun e w' => e = .returned (.int .i64 (cmpE a b)) ∧ Below w.heap.size w w' := cmp08_any _ _ _ _ _ _ _ _ _ _ w
/-- Worlds in which three boxes stand. -/
theorem box3_hidden (w W0 : World) (g1 g2 g3 : Nat) (t1 t2 t3 : TypeId) (c1 c2 c3 : Array Value) (hb : Below w.heap.size w W0) (h1 : Blk W0 g1 t1 c1) (h2 : Blk W0 g2 t2 c2) (h3 : Blk W0 g3 t3 c3) :
    ∃ p : World → Prop, Outlives p ∧ p W0 ∧ Nonempty (Wo p) ∧ ∀ i : Wo p, Below w.heap.size w i.W ∧ Blk i.W g1 t1 c1 ∧ Blk i.W g2 t2 c2 ∧ Blk i.W g3 t3 c3 :=
  ⟨fun W => Below w.heap.size w W ∧ Blk W g1 t1 c1 ∧ Blk W g2 t2 c2 ∧ Blk W g3 t3 c3, fun W W' h hb' => ⟨below_after h.1 hb', h.2.1.below hb' h.2.1.lt, h.2.2.1.below hb' h.2.2.1.lt, h.2.2.2.below hb' h.2.2.2.lt⟩, ⟨hb, h1, h2, h3⟩, ⟨⟨W0, hb, h1, h2, h3⟩⟩, fun i => i.ok⟩
theorem ord_ways (x y z : Int) (hx : x = -1 ∨ x = 0 ∨ x = 1) (hy : y = -1 ∨ y = 0 ∨ y = 1) (hz : z = -1 ∨ z = 0 ∨ z = 1) (h1 : x ≤ 0 → y ≤ 0 → z ≤ 0) (h2 : x < 0 → y ≤ 0 → z < 0) (h3 : x ≤ 0 → y < 0 → z < 0) :
    x = 1 ∨ (x = 0 ∧ y = 1) ∨ (x = 0 ∧ y = 0 ∧ z = -1) ∨ (x = 0 ∧ y = 0 ∧ z = 0) ∨ (x = 0 ∧ y = -1 ∧ z = -1) ∨ (x = -1 ∧ y = 1) ∨ (x = -1 ∧ y = 0 ∧ z = -1) ∨ (x = -1 ∧ y = -1 ∧ z = -1) := by
  rcases hx with rfl | rfl | rfl <;> rcases hy with rfl | rfl | rfl <;> rcases hz with rfl | rfl | rfl <;> first | omega | simp_all
set_option maxHeartbeats 4000000 in
theorem orders_walk (a b c : Ev) (w : World) : Calls Try.prog 14 #[.agg #[.float .f64 a.1, .int .i64 a.2.1, .int .i64 a.2.2.1, .int .i64 a.2.2.2.1, .int .i64 a.2.2.2.2], .agg #[.float .f64 b.1, .int .i64 b.2.1, .int .i64 b.2.2.1, .int .i64 b.2.2.2.1, .int .i64 b.2.2.2.2], .agg #[.float .f64 c.1, .int .i64 c.2.1, .int .i64 c.2.2.1, .int .i64 c.2.2.2.1, .int .i64 c.2.2.2.2]] w fun e w' => e = .returned (.bool true) ∧ Below w.heap.size w w' := by
  obtain ⟨hb, hX, hY, hZ⟩ := box3 w #[.float .f64 a.1, .int .i64 a.2.1, .int .i64 a.2.2.1, .int .i64 a.2.2.2.1, .int .i64 a.2.2.2.2] #[.float .f64 b.1, .int .i64 b.2.1, .int .i64 b.2.2.1, .int .i64 b.2.2.2.1, .int .i64 b.2.2.2.2] #[.float .f64 c.1, .int .i64 c.2.1, .int .i64 c.2.2.1, .int .i64 c.2.2.2.1, .int .i64 c.2.2.2.2] 37 37 37
  have k1 := fun W => ac_any a b W
  have k2 := fun W => ac_any b c W
  have k3 := fun W => ac_any a c W
  have k4 := fun W => rc_any a b W
  have k5 := fun W => ac_any a a W
  have k6 := fun W => ac_any b a W
  rw [cmpE_self] at k5
  rw [cmpE_neg a b] at k6
  have t := cmpE_trans a b c
  have hW := hide (ord_ways _ _ _ (cmpE_rng a b) (cmpE_rng b c) (cmpE_rng a c) t.1 t.2.1 t.2.2)
  clear t
  generalize cmpE a b = x at *
  generalize cmpE b c = y at *
  generalize cmpE a c = z at *
  obtain ⟨a0, a1, a2, a3, a4⟩ := a
  obtain ⟨b0, b1, b2, b3, b4⟩ := b
  obtain ⟨c0, c1, c2, c3, c4⟩ := c
  simp only at *
  obtain ⟨p, hO, h0, hne, hI⟩ := box3_hidden _ _ _ _ _ _ _ _ _ _ _ hb.drew hX.drew hY.drew hZ.drew
  have x0 := fun i : Wo p => (hI i).2.1.cell 0
  have x1 := fun i : Wo p => (hI i).2.1.cell 1
  have x2 := fun i : Wo p => (hI i).2.1.cell 2
  have x3 := fun i : Wo p => (hI i).2.1.cell 3
  have x4 := fun i : Wo p => (hI i).2.1.cell 4
  have y0 := fun i : Wo p => (hI i).2.2.1.cell 0
  have y1 := fun i : Wo p => (hI i).2.2.1.cell 1
  have y2 := fun i : Wo p => (hI i).2.2.1.cell 2
  have y3 := fun i : Wo p => (hI i).2.2.1.cell 3
  have y4 := fun i : Wo p => (hI i).2.2.1.cell 4
  have z0 := fun i : Wo p => (hI i).2.2.2.cell 0
  have z1 := fun i : Wo p => (hI i).2.2.2.cell 1
  have z2 := fun i : Wo p => (hI i).2.2.2.cell 2
  have z3 := fun i : Wo p => (hI i).2.2.2.cell 3
  have z4 := fun i : Wo p => (hI i).2.2.2.cell 4
  simp only [List.getElem?_toArray, List.getElem?_cons_zero, List.getElem?_cons_succ] at x0 x1 x2 x3 x4 y0 y1 y2 y3 y4 z0 z1 z2 z3 z4
  have HI := hide hI
  have HP := hide hO
  have H0 := hide h0
  have K1 := hide k1
  have K2 := hide k2
  have K3 := hide k3
  have K4 := hide k4
  have K5 := hide k5
  have K6 := hide k6
  clear hI hO h0 hb hX hY hZ k1 k2 k3 k4 k5 k6
  go_enter Try.func14, Try.ntmps14
  go_upto_region 1 with fail
  refine wp_region_quietC (by kernel_rfl) (by kernel_rfl) H0.out ?_
  repeat (go_big_quiet_step (first
    | (go_at_call 54; with_reducible exact Calls.quietC HP.out (K1.out _))
    | (go_at_call 54; with_reducible exact Calls.quietC HP.out (K2.out _))
    | (go_at_call 54; with_reducible exact Calls.quietC HP.out (K3.out _))))
  refine wpQuiet_nil ?_
  intro _ hw'
  obtain ⟨i, rfl⟩ := hw'
  clear x0 x1 x2 x3 x4 y0 y1 y2 y3 y4 z0 z1 z2 z3 z4
  obtain ⟨hb, hX, hY, hZ⟩ := HI.out i
  generalize i.W = w1 at *
  clear HI HP H0 hne i hZ K1 K2 K3
  go_wp2_with fail
  refine (awake08 _).mono ?_
  rintro e w2 ⟨rfl, hb2⟩
  replace hX := hX.below hb2 hX.lt
  replace hY := hY.below hb2 hY.lt
  replace hb := below_after hb hb2
  clear hb2
  have x0 := hX.cell 0
  have x1 := hX.cell 1
  have x2 := hX.cell 2
  have x3 := hX.cell 3
  have x4 := hX.cell 4
  simp only [List.getElem?_toArray, List.getElem?_cons_zero, List.getElem?_cons_succ] at x0 x1 x2 x3 x4
  have y0 := hY.cell 0
  have y1 := hY.cell 1
  have y2 := hY.cell 2
  have y3 := hY.cell 3
  have y4 := hY.cell 4
  simp only [List.getElem?_toArray, List.getElem?_cons_zero, List.getElem?_cons_succ] at y0 y1 y2 y3 y4
  go_wp2_with fail
  refine (K4.out _).mono ?_
  rintro e w3 ⟨rfl, hb2⟩
  clear x0 x1 x2 x3 x4 y0 y1 y2 y3 y4
  replace hX := hX.below hb2 hX.lt
  replace hY := hY.below hb2 hY.lt
  replace hb := below_after hb hb2
  clear hb2
  have hxx : (x == x) = true := beq_self_eq_true x
  have x0 := hX.cell 0
  have x1 := hX.cell 1
  have x2 := hX.cell 2
  have x3 := hX.cell 3
  have x4 := hX.cell 4
  simp only [List.getElem?_toArray, List.getElem?_cons_zero, List.getElem?_cons_succ] at x0 x1 x2 x3 x4
  have y0 := hY.cell 0
  have y1 := hY.cell 1
  have y2 := hY.cell 2
  have y3 := hY.cell 3
  have y4 := hY.cell 4
  simp only [List.getElem?_toArray, List.getElem?_cons_zero, List.getElem?_cons_succ] at y0 y1 y2 y3 y4
  go_wp2_with fail
  refine (K5.out _).mono ?_
  rintro e w4 ⟨rfl, hb2⟩
  clear x0 x1 x2 x3 x4 y0 y1 y2 y3 y4
  replace hX := hX.below hb2 hX.lt
  replace hY := hY.below hb2 hY.lt
  replace hb := below_after hb hb2
  clear hb2 hxx
  have x0 := hX.cell 0
  have x1 := hX.cell 1
  have x2 := hX.cell 2
  have x3 := hX.cell 3
  have x4 := hX.cell 4
  simp only [List.getElem?_toArray, List.getElem?_cons_zero, List.getElem?_cons_succ] at x0 x1 x2 x3 x4
  have y0 := hY.cell 0
  have y1 := hY.cell 1
  have y2 := hY.cell 2
  have y3 := hY.cell 3
  have y4 := hY.cell 4
  simp only [List.getElem?_toArray, List.getElem?_cons_zero, List.getElem?_cons_succ] at y0 y1 y2 y3 y4
  go_wp2_with fail
  refine (K6.out _).mono ?_
  rintro e w5 ⟨rfl, hb2⟩
  clear x0 x1 x2 x3 x4 y0 y1 y2 y3 y4
  have HB := hide (below_after hb hb2)
  clear hb2 hb hX hY K4 K5 K6
  rcases hW.out with rfl | ⟨rfl, rfl⟩ | ⟨rfl, rfl, rfl⟩ | ⟨rfl, rfl, rfl⟩ | ⟨rfl, rfl, rfl⟩ | ⟨rfl, rfl⟩ | ⟨rfl, rfl, rfl⟩ | ⟨rfl, rfl, rfl⟩
  all_goals
    clear hW
    go_wp2_with fail
    go_ret
    exact ⟨rfl, HB.out⟩
end Go.Proofs.Ytpfcmfannkbipaa
