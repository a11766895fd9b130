/- The walks of model.Same and of its reference: when two models are the same. No condition. -/
import Derived.Test.YtegegljpmelomaaSame
set_option linter.unusedVariables false
set_option maxRecDepth 20000
namespace Go.Proofs.Ytegegljpmelomaa
open Go.RowKit Go.Deep

attribute [local go_sem] run_store_float
def sameB (m m' : Mdl) : Bool := decide (m.seed = m'.seed) && (fsame m.fin m'.fin && (eqL fsame m.dl.L m'.dl.L && (eqL initSame m.il.L m'.il.L && (eqL progSame m.pl.L m'.pl.L && eqL lpSame m.ll.L m'.ll.L))))
theorem two_boxes (w : World) (T : TypeId) (X Y : Array Value) : Blk ((w.alloc (.cells X T)).alloc (.cells Y T)) w.heap.size T X ∧ Blk ((w.alloc (.cells X T)).alloc (.cells Y T)) (w.heap.size + 1) T Y ∧ Below w.heap.size w ((w.alloc (.cells X T)).alloc (.cells Y T)) := by
  refine ⟨(Blk.new w _ _).alloc _, ?_, ((Below.refl _ _).alloc (Nat.le_refl _) _).alloc (by simp) _⟩
  have := Blk.new (w.alloc (.cells X T)) T Y
  simpa using this
set_option maxHeartbeats 800000 in
theorem same_0 (m m' : Mdl) (w : World) (h : m.At w) (h' : m'.At w) (q0 : (decide (m.seed = m'.seed)) = false) : Calls Try.prog 19 #[m.val, m'.val] w fun e w' => e = .returned (.bool (sameB m m')) ∧ Below w.heap.size w w' := by
  have HS := hide (show sameB m m' = false by unfold sameB; rw [q0]; rfl)
  generalize sameB m m' = S at *
  obtain ⟨seed, fin, ⟨dA, dc, dl⟩, ⟨pA, pc, pl⟩, ⟨lA, lc, ll⟩, ⟨iA, ic, il⟩⟩ := m
  obtain ⟨seed', fin', ⟨dA', dc', dl'⟩, ⟨pA', pc', pl'⟩, ⟨lA', lc', ll'⟩, ⟨iA', ic', il'⟩⟩ := m'
  obtain ⟨hX, hY, hb⟩ := two_boxes w 28 #[.int .i64 seed, .float .f64 fin, .slice dA dl.length dc, .slice pA pl.length pc, .slice lA ll.length lc, .slice iA il.length ic] #[.int .i64 seed', .float .f64 fin', .slice dA' dl'.length dc', .slice pA' pl'.length pc', .slice lA' ll'.length lc', .slice iA' il'.length ic']
  have hm := h.below hb
  have hm' := h'.below hb
  clear h h'
  simp only [Sl.val, Mdl.val] at *
  have e0 : (seed != seed') = true := by rw [bne_iff_ne]; exact of_decide_eq_false q0
  clear q0
  go_enter Try.func19, Try.ntmps19
  go_wp2_with fail
  go_ret
  exact ⟨ret_bool HS.out.symm, hb⟩
set_option maxHeartbeats 800000 in
theorem same_1 (m m' : Mdl) (w : World) (h : m.At w) (h' : m'.At w) (q0 : (decide (m.seed = m'.seed)) = true) (q1 : (fsame m.fin m'.fin) = false) : Calls Try.prog 19 #[m.val, m'.val] w fun e w' => e = .returned (.bool (sameB m m')) ∧ Below w.heap.size w w' := by
  have HS := hide (show sameB m m' = false by unfold sameB; rw [q0, q1]; rfl)
  generalize sameB m m' = S at *
  obtain ⟨seed, fin, ⟨dA, dc, dl⟩, ⟨pA, pc, pl⟩, ⟨lA, lc, ll⟩, ⟨iA, ic, il⟩⟩ := m
  obtain ⟨seed', fin', ⟨dA', dc', dl'⟩, ⟨pA', pc', pl'⟩, ⟨lA', lc', ll'⟩, ⟨iA', ic', il'⟩⟩ := m'
  obtain ⟨hX, hY, hb⟩ := two_boxes w 28 #[.int .i64 seed, .float .f64 fin, .slice dA dl.length dc, .slice pA pl.length pc, .slice lA ll.length lc, .slice iA il.length ic] #[.int .i64 seed', .float .f64 fin', .slice dA' dl'.length dc', .slice pA' pl'.length pc', .slice lA' ll'.length lc', .slice iA' il'.length ic']
  have hm := h.below hb
  have hm' := h'.below hb
  clear h h'
  simp only [Sl.val, Mdl.val] at *
  have e0 : (seed != seed') = false := by rw [bne_eq_false_iff_eq]; exact of_decide_eq_true q0
  clear q0
  have Q1 := hide q1
  clear q1
  go_enter Try.func19, Try.ntmps19
  go_wp2_with fail
  refine (float_any _ _ _).mono ?_
  rw [Q1.out]
  rintro e w' ⟨rfl, rfl⟩
  generalize (w.alloc (.cells #[.int .i64 seed, .float .f64 fin, .slice dA dl.length dc, .slice pA pl.length pc, .slice lA ll.length lc, .slice iA il.length ic] 28)).alloc (.cells #[.int .i64 seed', .float .f64 fin', .slice dA' dl'.length dc', .slice pA' pl'.length pc', .slice lA' ll'.length lc', .slice iA' il'.length ic'] 28) = w1 at *
  have c0 := hX.cell 0
  have c1 := hX.cell 1
  have c2 := hX.cell 2
  have c3 := hX.cell 3
  have c4 := hX.cell 4
  have c5 := hX.cell 5
  have d0 := hY.cell 0
  have d1 := hY.cell 1
  have d2 := hY.cell 2
  have d3 := hY.cell 3
  have d4 := hY.cell 4
  have d5 := hY.cell 5
  go_wp2_with fail
  go_ret
  exact ⟨ret_bool HS.out.symm, hb⟩
set_option maxHeartbeats 800000 in
theorem same_2 (m m' : Mdl) (w : World) (h : m.At w) (h' : m'.At w) (q0 : (decide (m.seed = m'.seed)) = true) (q1 : (fsame m.fin m'.fin) = true) (q2 : (eqL fsame m.dl.L m'.dl.L) = false) : Calls Try.prog 19 #[m.val, m'.val] w fun e w' => e = .returned (.bool (sameB m m')) ∧ Below w.heap.size w w' := by
  have HS := hide (show sameB m m' = false by unfold sameB; rw [q0, q1, q2]; rfl)
  generalize sameB m m' = S at *
  obtain ⟨seed, fin, ⟨dA, dc, dl⟩, ⟨pA, pc, pl⟩, ⟨lA, lc, ll⟩, ⟨iA, ic, il⟩⟩ := m
  obtain ⟨seed', fin', ⟨dA', dc', dl'⟩, ⟨pA', pc', pl'⟩, ⟨lA', lc', ll'⟩, ⟨iA', ic', il'⟩⟩ := m'
  obtain ⟨hX, hY, hb⟩ := two_boxes w 28 #[.int .i64 seed, .float .f64 fin, .slice dA dl.length dc, .slice pA pl.length pc, .slice lA ll.length lc, .slice iA il.length ic] #[.int .i64 seed', .float .f64 fin', .slice dA' dl'.length dc', .slice pA' pl'.length pc', .slice lA' ll'.length lc', .slice iA' il'.length ic']
  have hm := h.below hb
  have hm' := h'.below hb
  clear h h'
  simp only [Sl.val, Mdl.val] at *
  have e0 : (seed != seed') = false := by rw [bne_eq_false_iff_eq]; exact of_decide_eq_true q0
  clear q0
  have Q1 := hide q1
  clear q1
  have Q2 := hide q2
  clear q2
  go_enter Try.func19, Try.ntmps19
  go_wp2_with fail
  refine (float_any _ _ _).mono ?_
  rw [Q1.out]
  rintro e w' ⟨rfl, rfl⟩
  generalize (w.alloc (.cells #[.int .i64 seed, .float .f64 fin, .slice dA dl.length dc, .slice pA pl.length pc, .slice lA ll.length lc, .slice iA il.length ic] 28)).alloc (.cells #[.int .i64 seed', .float .f64 fin', .slice dA' dl'.length dc', .slice pA' pl'.length pc', .slice lA' ll'.length lc', .slice iA' il'.length ic'] 28) = w1 at *
  have c0 := hX.cell 0
  have c1 := hX.cell 1
  have c2 := hX.cell 2
  have c3 := hX.cell 3
  have c4 := hX.cell 4
  have c5 := hX.cell 5
  have d0 := hY.cell 0
  have d1 := hY.cell 1
  have d2 := hY.cell 2
  have d3 := hY.cell 3
  have d4 := hY.cell 4
  have d5 := hY.cell 5
  go_wp2_with fail
  refine (eqf_fl ⟨dA, dc, dl⟩ ⟨dA', dc', dl'⟩ _ hm.2.2.1 hm'.2.2.1).mono ?_
  rw [Q2.out]
  clear c0 c1 c2 c3 c4 c5 d0 d1 d2 d3 d4 d5
  rintro e w2 ⟨rfl, hb2⟩
  have hX := hX.below hb2 hX.lt
  have hY := hY.below hb2 hY.lt
  have hm := hm.below hb2
  have hm' := hm'.below hb2
  have hb := below_after hb hb2
  clear hb2
  have c0 := hX.cell 0
  have c1 := hX.cell 1
  have c2 := hX.cell 2
  have c3 := hX.cell 3
  have c4 := hX.cell 4
  have c5 := hX.cell 5
  have d0 := hY.cell 0
  have d1 := hY.cell 1
  have d2 := hY.cell 2
  have d3 := hY.cell 3
  have d4 := hY.cell 4
  have d5 := hY.cell 5
  go_wp2_with fail
  go_ret
  exact ⟨ret_bool HS.out.symm, hb⟩
set_option maxHeartbeats 800000 in
theorem same_3 (m m' : Mdl) (w : World) (h : m.At w) (h' : m'.At w) (q0 : (decide (m.seed = m'.seed)) = true) (q1 : (fsame m.fin m'.fin) = true) (q2 : (eqL fsame m.dl.L m'.dl.L) = true) (q3 : (eqL initSame m.il.L m'.il.L) = false) : Calls Try.prog 19 #[m.val, m'.val] w fun e w' => e = .returned (.bool (sameB m m')) ∧ Below w.heap.size w w' := by
  have HS := hide (show sameB m m' = false by unfold sameB; rw [q0, q1, q2, q3]; rfl)
  generalize sameB m m' = S at *
  obtain ⟨seed, fin, ⟨dA, dc, dl⟩, ⟨pA, pc, pl⟩, ⟨lA, lc, ll⟩, ⟨iA, ic, il⟩⟩ := m
  obtain ⟨seed', fin', ⟨dA', dc', dl'⟩, ⟨pA', pc', pl'⟩, ⟨lA', lc', ll'⟩, ⟨iA', ic', il'⟩⟩ := m'
  obtain ⟨hX, hY, hb⟩ := two_boxes w 28 #[.int .i64 seed, .float .f64 fin, .slice dA dl.length dc, .slice pA pl.length pc, .slice lA ll.length lc, .slice iA il.length ic] #[.int .i64 seed', .float .f64 fin', .slice dA' dl'.length dc', .slice pA' pl'.length pc', .slice lA' ll'.length lc', .slice iA' il'.length ic']
  have hm := h.below hb
  have hm' := h'.below hb
  clear h h'
  simp only [Sl.val, Mdl.val] at *
  have e0 : (seed != seed') = false := by rw [bne_eq_false_iff_eq]; exact of_decide_eq_true q0
  clear q0
  have Q1 := hide q1
  clear q1
  have Q2 := hide q2
  clear q2
  have Q3 := hide q3
  clear q3
  go_enter Try.func19, Try.ntmps19
  go_wp2_with fail
  refine (float_any _ _ _).mono ?_
  rw [Q1.out]
  rintro e w' ⟨rfl, rfl⟩
  generalize (w.alloc (.cells #[.int .i64 seed, .float .f64 fin, .slice dA dl.length dc, .slice pA pl.length pc, .slice lA ll.length lc, .slice iA il.length ic] 28)).alloc (.cells #[.int .i64 seed', .float .f64 fin', .slice dA' dl'.length dc', .slice pA' pl'.length pc', .slice lA' ll'.length lc', .slice iA' il'.length ic'] 28) = w1 at *
  have c0 := hX.cell 0
  have c1 := hX.cell 1
  have c2 := hX.cell 2
  have c3 := hX.cell 3
  have c4 := hX.cell 4
  have c5 := hX.cell 5
  have d0 := hY.cell 0
  have d1 := hY.cell 1
  have d2 := hY.cell 2
  have d3 := hY.cell 3
  have d4 := hY.cell 4
  have d5 := hY.cell 5
  go_wp2_with fail
  refine (eqf_fl ⟨dA, dc, dl⟩ ⟨dA', dc', dl'⟩ _ hm.2.2.1 hm'.2.2.1).mono ?_
  rw [Q2.out]
  clear c0 c1 c2 c3 c4 c5 d0 d1 d2 d3 d4 d5
  rintro e w2 ⟨rfl, hb2⟩
  have hX := hX.below hb2 hX.lt
  have hY := hY.below hb2 hY.lt
  have hm := hm.below hb2
  have hm' := hm'.below hb2
  have hb := below_after hb hb2
  clear hb2
  have c0 := hX.cell 0
  have c1 := hX.cell 1
  have c2 := hX.cell 2
  have c3 := hX.cell 3
  have c4 := hX.cell 4
  have c5 := hX.cell 5
  have d0 := hY.cell 0
  have d1 := hY.cell 1
  have d2 := hY.cell 2
  have d3 := hY.cell 3
  have d4 := hY.cell 4
  have d5 := hY.cell 5
  go_wp2_with fail
  refine (eqf_init ⟨iA, ic, il⟩ ⟨iA', ic', il'⟩ _ hm.2.2.2.2.2 hm'.2.2.2.2.2).mono ?_
  rw [Q3.out]
  clear c0 c1 c2 c3 c4 c5 d0 d1 d2 d3 d4 d5
  rintro e w3 ⟨rfl, hb3⟩
  have hX := hX.below hb3 hX.lt
  have hY := hY.below hb3 hY.lt
  have hm := hm.below hb3
  have hm' := hm'.below hb3
  have hb := below_after hb hb3
  clear hb3
  have c0 := hX.cell 0
  have c1 := hX.cell 1
  have c2 := hX.cell 2
  have c3 := hX.cell 3
  have c4 := hX.cell 4
  have c5 := hX.cell 5
  have d0 := hY.cell 0
  have d1 := hY.cell 1
  have d2 := hY.cell 2
  have d3 := hY.cell 3
  have d4 := hY.cell 4
  have d5 := hY.cell 5
  go_wp2_with fail
  go_ret
  exact ⟨ret_bool HS.out.symm, hb⟩
set_option maxHeartbeats 800000 in
theorem same_4 (m m' : Mdl) (w : World) (h : m.At w) (h' : m'.At w) (q0 : (decide (m.seed = m'.seed)) = true) (q1 : (fsame m.fin m'.fin) = true) (q2 : (eqL fsame m.dl.L m'.dl.L) = true) (q3 : (eqL initSame m.il.L m'.il.L) = true) (q4 : (eqL progSame m.pl.L m'.pl.L) = false) : Calls Try.prog 19 #[m.val, m'.val] w fun e w' => e = .returned (.bool (sameB m m')) ∧ Below w.heap.size w w' := by
  have HS := hide (show sameB m m' = false by unfold sameB; rw [q0, q1, q2, q3, q4]; rfl)
  generalize sameB m m' = S at *
  obtain ⟨seed, fin, ⟨dA, dc, dl⟩, ⟨pA, pc, pl⟩, ⟨lA, lc, ll⟩, ⟨iA, ic, il⟩⟩ := m
  obtain ⟨seed', fin', ⟨dA', dc', dl'⟩, ⟨pA', pc', pl'⟩, ⟨lA', lc', ll'⟩, ⟨iA', ic', il'⟩⟩ := m'
  obtain ⟨hX, hY, hb⟩ := two_boxes w 28 #[.int .i64 seed, .float .f64 fin, .slice dA dl.length dc, .slice pA pl.length pc, .slice lA ll.length lc, .slice iA il.length ic] #[.int .i64 seed', .float .f64 fin', .slice dA' dl'.length dc', .slice pA' pl'.length pc', .slice lA' ll'.length lc', .slice iA' il'.length ic']
  have hm := h.below hb
  have hm' := h'.below hb
  clear h h'
  simp only [Sl.val, Mdl.val] at *
  have e0 : (seed != seed') = false := by rw [bne_eq_false_iff_eq]; exact of_decide_eq_true q0
  clear q0
  have Q1 := hide q1
  clear q1
  have Q2 := hide q2
  clear q2
  have Q3 := hide q3
  clear q3
  have Q4 := hide q4
  clear q4
  go_enter Try.func19, Try.ntmps19
  go_wp2_with fail
  refine (float_any _ _ _).mono ?_
  rw [Q1.out]
  rintro e w' ⟨rfl, rfl⟩
  generalize (w.alloc (.cells #[.int .i64 seed, .float .f64 fin, .slice dA dl.length dc, .slice pA pl.length pc, .slice lA ll.length lc, .slice iA il.length ic] 28)).alloc (.cells #[.int .i64 seed', .float .f64 fin', .slice dA' dl'.length dc', .slice pA' pl'.length pc', .slice lA' ll'.length lc', .slice iA' il'.length ic'] 28) = w1 at *
  have c0 := hX.cell 0
  have c1 := hX.cell 1
  have c2 := hX.cell 2
  have c3 := hX.cell 3
  have c4 := hX.cell 4
  have c5 := hX.cell 5
  have d0 := hY.cell 0
  have d1 := hY.cell 1
  have d2 := hY.cell 2
  have d3 := hY.cell 3
  have d4 := hY.cell 4
  have d5 := hY.cell 5
  go_wp2_with fail
  refine (eqf_fl ⟨dA, dc, dl⟩ ⟨dA', dc', dl'⟩ _ hm.2.2.1 hm'.2.2.1).mono ?_
  rw [Q2.out]
  clear c0 c1 c2 c3 c4 c5 d0 d1 d2 d3 d4 d5
  rintro e w2 ⟨rfl, hb2⟩
  have hX := hX.below hb2 hX.lt
  have hY := hY.below hb2 hY.lt
  have hm := hm.below hb2
  have hm' := hm'.below hb2
  have hb := below_after hb hb2
  clear hb2
  have c0 := hX.cell 0
  have c1 := hX.cell 1
  have c2 := hX.cell 2
  have c3 := hX.cell 3
  have c4 := hX.cell 4
  have c5 := hX.cell 5
  have d0 := hY.cell 0
  have d1 := hY.cell 1
  have d2 := hY.cell 2
  have d3 := hY.cell 3
  have d4 := hY.cell 4
  have d5 := hY.cell 5
  go_wp2_with fail
  refine (eqf_init ⟨iA, ic, il⟩ ⟨iA', ic', il'⟩ _ hm.2.2.2.2.2 hm'.2.2.2.2.2).mono ?_
  rw [Q3.out]
  clear c0 c1 c2 c3 c4 c5 d0 d1 d2 d3 d4 d5
  rintro e w3 ⟨rfl, hb3⟩
  have hX := hX.below hb3 hX.lt
  have hY := hY.below hb3 hY.lt
  have hm := hm.below hb3
  have hm' := hm'.below hb3
  have hb := below_after hb hb3
  clear hb3
  have c0 := hX.cell 0
  have c1 := hX.cell 1
  have c2 := hX.cell 2
  have c3 := hX.cell 3
  have c4 := hX.cell 4
  have c5 := hX.cell 5
  have d0 := hY.cell 0
  have d1 := hY.cell 1
  have d2 := hY.cell 2
  have d3 := hY.cell 3
  have d4 := hY.cell 4
  have d5 := hY.cell 5
  go_wp2_with fail
  refine (eqf_prog ⟨pA, pc, pl⟩ ⟨pA', pc', pl'⟩ _ hm.2.2.2.1 hm'.2.2.2.1).mono ?_
  rw [Q4.out]
  clear c0 c1 c2 c3 c4 c5 d0 d1 d2 d3 d4 d5
  rintro e w4 ⟨rfl, hb4⟩
  have hX := hX.below hb4 hX.lt
  have hY := hY.below hb4 hY.lt
  have hm := hm.below hb4
  have hm' := hm'.below hb4
  have hb := below_after hb hb4
  clear hb4
  have c0 := hX.cell 0
  have c1 := hX.cell 1
  have c2 := hX.cell 2
  have c3 := hX.cell 3
  have c4 := hX.cell 4
  have c5 := hX.cell 5
  have d0 := hY.cell 0
  have d1 := hY.cell 1
  have d2 := hY.cell 2
  have d3 := hY.cell 3
  have d4 := hY.cell 4
  have d5 := hY.cell 5
  go_wp2_with fail
  go_ret
  exact ⟨ret_bool HS.out.symm, hb⟩
set_option maxHeartbeats 800000 in
theorem same_5 (m m' : Mdl) (w : World) (h : m.At w) (h' : m'.At w) (q0 : (decide (m.seed = m'.seed)) = true) (q1 : (fsame m.fin m'.fin) = true) (q2 : (eqL fsame m.dl.L m'.dl.L) = true) (q3 : (eqL initSame m.il.L m'.il.L) = true) (q4 : (eqL progSame m.pl.L m'.pl.L) = true) : Calls Try.prog 19 #[m.val, m'.val] w fun e w' => e = .returned (.bool (sameB m m')) ∧ Below w.heap.size w w' := by
  have HS := hide (show sameB m m' = eqL lpSame m.ll.L m'.ll.L by unfold sameB; rw [q0, q1, q2, q3, q4]; rfl)
  generalize sameB m m' = S at *
  obtain ⟨seed, fin, ⟨dA, dc, dl⟩, ⟨pA, pc, pl⟩, ⟨lA, lc, ll⟩, ⟨iA, ic, il⟩⟩ := m
  obtain ⟨seed', fin', ⟨dA', dc', dl'⟩, ⟨pA', pc', pl'⟩, ⟨lA', lc', ll'⟩, ⟨iA', ic', il'⟩⟩ := m'
  obtain ⟨hX, hY, hb⟩ := two_boxes w 28 #[.int .i64 seed, .float .f64 fin, .slice dA dl.length dc, .slice pA pl.length pc, .slice lA ll.length lc, .slice iA il.length ic] #[.int .i64 seed', .float .f64 fin', .slice dA' dl'.length dc', .slice pA' pl'.length pc', .slice lA' ll'.length lc', .slice iA' il'.length ic']
  have hm := h.below hb
  have hm' := h'.below hb
  clear h h'
  simp only [Sl.val, Mdl.val] at *
  have e0 : (seed != seed') = false := by rw [bne_eq_false_iff_eq]; exact of_decide_eq_true q0
  clear q0
  have Q1 := hide q1
  clear q1
  have Q2 := hide q2
  clear q2
  have Q3 := hide q3
  clear q3
  have Q4 := hide q4
  clear q4
  go_enter Try.func19, Try.ntmps19
  go_wp2_with fail
  refine (float_any _ _ _).mono ?_
  rw [Q1.out]
  rintro e w' ⟨rfl, rfl⟩
  generalize (w.alloc (.cells #[.int .i64 seed, .float .f64 fin, .slice dA dl.length dc, .slice pA pl.length pc, .slice lA ll.length lc, .slice iA il.length ic] 28)).alloc (.cells #[.int .i64 seed', .float .f64 fin', .slice dA' dl'.length dc', .slice pA' pl'.length pc', .slice lA' ll'.length lc', .slice iA' il'.length ic'] 28) = w1 at *
  have c0 := hX.cell 0
  have c1 := hX.cell 1
  have c2 := hX.cell 2
  have c3 := hX.cell 3
  have c4 := hX.cell 4
  have c5 := hX.cell 5
  have d0 := hY.cell 0
  have d1 := hY.cell 1
  have d2 := hY.cell 2
  have d3 := hY.cell 3
  have d4 := hY.cell 4
  have d5 := hY.cell 5
  go_wp2_with fail
  refine (eqf_fl ⟨dA, dc, dl⟩ ⟨dA', dc', dl'⟩ _ hm.2.2.1 hm'.2.2.1).mono ?_
  rw [Q2.out]
  clear c0 c1 c2 c3 c4 c5 d0 d1 d2 d3 d4 d5
  rintro e w2 ⟨rfl, hb2⟩
  have hX := hX.below hb2 hX.lt
  have hY := hY.below hb2 hY.lt
  have hm := hm.below hb2
  have hm' := hm'.below hb2
  have hb := below_after hb hb2
  clear hb2
  have c0 := hX.cell 0
  have c1 := hX.cell 1
  have c2 := hX.cell 2
  have c3 := hX.cell 3
  have c4 := hX.cell 4
  have c5 := hX.cell 5
  have d0 := hY.cell 0
  have d1 := hY.cell 1
  have d2 := hY.cell 2
  have d3 := hY.cell 3
  have d4 := hY.cell 4
  have d5 := hY.cell 5
  go_wp2_with fail
  refine (eqf_init ⟨iA, ic, il⟩ ⟨iA', ic', il'⟩ _ hm.2.2.2.2.2 hm'.2.2.2.2.2).mono ?_
  rw [Q3.out]
  clear c0 c1 c2 c3 c4 c5 d0 d1 d2 d3 d4 d5
  rintro e w3 ⟨rfl, hb3⟩
  have hX := hX.below hb3 hX.lt
  have hY := hY.below hb3 hY.lt
  have hm := hm.below hb3
  have hm' := hm'.below hb3
  have hb := below_after hb hb3
  clear hb3
  have c0 := hX.cell 0
  have c1 := hX.cell 1
  have c2 := hX.cell 2
  have c3 := hX.cell 3
  have c4 := hX.cell 4
  have c5 := hX.cell 5
  have d0 := hY.cell 0
  have d1 := hY.cell 1
  have d2 := hY.cell 2
  have d3 := hY.cell 3
  have d4 := hY.cell 4
  have d5 := hY.cell 5
  go_wp2_with fail
  refine (eqf_prog ⟨pA, pc, pl⟩ ⟨pA', pc', pl'⟩ _ hm.2.2.2.1 hm'.2.2.2.1).mono ?_
  rw [Q4.out]
  clear c0 c1 c2 c3 c4 c5 d0 d1 d2 d3 d4 d5
  rintro e w4 ⟨rfl, hb4⟩
  have hX := hX.below hb4 hX.lt
  have hY := hY.below hb4 hY.lt
  have hm := hm.below hb4
  have hm' := hm'.below hb4
  have hb := below_after hb hb4
  clear hb4
  have c0 := hX.cell 0
  have c1 := hX.cell 1
  have c2 := hX.cell 2
  have c3 := hX.cell 3
  have c4 := hX.cell 4
  have c5 := hX.cell 5
  have d0 := hY.cell 0
  have d1 := hY.cell 1
  have d2 := hY.cell 2
  have d3 := hY.cell 3
  have d4 := hY.cell 4
  have d5 := hY.cell 5
  go_wp2_with fail
  refine (eqf_lp ⟨lA, lc, ll⟩ ⟨lA', lc', ll'⟩ _ hm.2.2.2.2.1 hm'.2.2.2.2.1).mono ?_
  clear c0 c1 c2 c3 c4 c5 d0 d1 d2 d3 d4 d5
  rintro e w5 ⟨rfl, hb5⟩
  have hX := hX.below hb5 hX.lt
  have hY := hY.below hb5 hY.lt
  have hm := hm.below hb5
  have hm' := hm'.below hb5
  have hb := below_after hb hb5
  clear hb5
  have c0 := hX.cell 0
  have c1 := hX.cell 1
  have c2 := hX.cell 2
  have c3 := hX.cell 3
  have c4 := hX.cell 4
  have c5 := hX.cell 5
  have d0 := hY.cell 0
  have d1 := hY.cell 1
  have d2 := hY.cell 2
  have d3 := hY.cell 3
  have d4 := hY.cell 4
  have d5 := hY.cell 5
  go_wp2_with fail
  go_ret
  exact ⟨ret_bool HS.out.symm, hb⟩
theorem same_any (m m' : Mdl) (w : World) (h : m.At w) (h' : m'.At w) : Calls Try.prog 19 #[m.val, m'.val] w fun e w' => e = .returned (.bool (sameB m m')) ∧ Below w.heap.size w w' := by
  cases q0 : (decide (m.seed = m'.seed))
  · exact same_0 m m' w h h' q0
  · skip
    cases q1 : (fsame m.fin m'.fin)
    · exact same_1 m m' w h h' q0 q1
    · skip
      cases q2 : (eqL fsame m.dl.L m'.dl.L)
      · exact same_2 m m' w h h' q0 q1 q2
      · skip
        cases q3 : (eqL initSame m.il.L m'.il.L)
        · exact same_3 m m' w h h' q0 q1 q2 q3
        · skip
          cases q4 : (eqL progSame m.pl.L m'.pl.L)
          · exact same_4 m m' w h h' q0 q1 q2 q3 q4
          · exact same_5 m m' w h h' q0 q1 q2 q3 q4
end Go.Proofs.Ytegegljpmelomaa
