/- The walk of R05.Same, whole. No condition. -/
import Derived.Test.YtegegljpmelomaaRSame
set_option linter.unusedVariables false
set_option maxRecDepth 20000
namespace Go.Proofs.Ytegegljpmelomaa
open Go.RowKit Go.Deep

attribute [local go_sem] run_store_float
theorem rsame_bad0 (m m' : Mdl) (w : World)  (q0 : ¬ m.seed = m'.seed) : Calls Try.prog 20 #[m.val, m'.val] w fun e w' => e = .returned (.bool (sameB m m')) ∧ Below w.heap.size w w' := by
  have HS := hide (show sameB m m' = false by
    unfold sameB
    rw [decide_eq_false q0]
    rfl)
  generalize sameB m m' = S at *
  obtain ⟨seed, fin, ⟨dA, dc, dl⟩, ⟨pA, pc, pl⟩, ⟨lA, lc, ll⟩, ⟨iA, ic, il⟩⟩ := m
  obtain ⟨seed', fin', ⟨dA', dc', dl'⟩, ⟨pA', pc', pl'⟩, ⟨lA', lc', ll'⟩, ⟨iA', ic', il'⟩⟩ := m'
  obtain ⟨hX, hY, hb⟩ := two_boxes w 28 #[.int .i64 seed, .float .f64 fin, .slice dA dl.length dc, .slice pA pl.length pc, .slice lA ll.length lc, .slice iA il.length ic] #[.int .i64 seed', .float .f64 fin', .slice dA' dl'.length dc', .slice pA' pl'.length pc', .slice lA' ll'.length lc', .slice iA' il'.length ic']
  simp only [Sl.val, Mdl.val] at *
  have e0 : (seed != seed') = true := by rw [bne_iff_ne]; exact q0
  clear q0
  go_enter Try.func20, Try.ntmps20
  go_wp2_with fail
  go_ret
  exact ⟨ret_bool HS.out.symm, hb⟩
theorem rsame_bad1 (m m' : Mdl) (w : World) (q0 : m.seed = m'.seed) (q1 : ¬ fsame m.fin m'.fin = true) : Calls Try.prog 20 #[m.val, m'.val] w fun e w' => e = .returned (.bool (sameB m m')) ∧ Below w.heap.size w w' := by
  have HS := hide (show sameB m m' = false by
    unfold sameB
    rw [Bool.eq_false_iff.2 q1]
    simp)
  generalize sameB m m' = S at *
  obtain ⟨seed, fin, ⟨dA, dc, dl⟩, ⟨pA, pc, pl⟩, ⟨lA, lc, ll⟩, ⟨iA, ic, il⟩⟩ := m
  obtain ⟨seed', fin', ⟨dA', dc', dl'⟩, ⟨pA', pc', pl'⟩, ⟨lA', lc', ll'⟩, ⟨iA', ic', il'⟩⟩ := m'
  obtain ⟨hX, hY, hb⟩ := two_boxes w 28 #[.int .i64 seed, .float .f64 fin, .slice dA dl.length dc, .slice pA pl.length pc, .slice lA ll.length lc, .slice iA il.length ic] #[.int .i64 seed', .float .f64 fin', .slice dA' dl'.length dc', .slice pA' pl'.length pc', .slice lA' ll'.length lc', .slice iA' il'.length ic']
  simp only [Sl.val, Mdl.val] at *
  have e0 : (seed != seed') = false := by rw [bne_eq_false_iff_eq]; exact q0
  clear q0
  have q1 := Bool.eq_false_iff.2 q1
  have Q1 := hide q1
  clear q1
  go_enter Try.func20, Try.ntmps20
  go_wp2_with fail
  refine (rfloat_any _ _ _).mono ?_
  rw [Q1.out]
  rintro e w' ⟨rfl, rfl⟩
  generalize (w.alloc (.cells #[.int .i64 seed, .float .f64 fin, .slice dA dl.length dc, .slice pA pl.length pc, .slice lA ll.length lc, .slice iA il.length ic] 28)).alloc (.cells #[.int .i64 seed', .float .f64 fin', .slice dA' dl'.length dc', .slice pA' pl'.length pc', .slice lA' ll'.length lc', .slice iA' il'.length ic'] 28) = w1 at *
  have c2 := hX.cell 2
  have d2 := hY.cell 2
  have c3 := hX.cell 3
  have d3 := hY.cell 3
  have c4 := hX.cell 4
  have d4 := hY.cell 4
  have c5 := hX.cell 5
  have d5 := hY.cell 5
  go_wp2_with fail
  go_ret
  exact ⟨ret_bool HS.out.symm, hb⟩
theorem rsame_bad2 (m m' : Mdl) (w : World) (q0 : m.seed = m'.seed) (q1 : fsame m.fin m'.fin = true) (q2 : ¬ m.dl.L.length = m'.dl.L.length) : Calls Try.prog 20 #[m.val, m'.val] w fun e w' => e = .returned (.bool (sameB m m')) ∧ Below w.heap.size w w' := by
  have HS := hide (show sameB m m' = false by
    unfold sameB
    rw [eqL_len (f := fsame) q2]
    simp)
  generalize sameB m m' = S at *
  obtain ⟨seed, fin, ⟨dA, dc, dl⟩, ⟨pA, pc, pl⟩, ⟨lA, lc, ll⟩, ⟨iA, ic, il⟩⟩ := m
  obtain ⟨seed', fin', ⟨dA', dc', dl'⟩, ⟨pA', pc', pl'⟩, ⟨lA', lc', ll'⟩, ⟨iA', ic', il'⟩⟩ := m'
  obtain ⟨hX, hY, hb⟩ := two_boxes w 28 #[.int .i64 seed, .float .f64 fin, .slice dA dl.length dc, .slice pA pl.length pc, .slice lA ll.length lc, .slice iA il.length ic] #[.int .i64 seed', .float .f64 fin', .slice dA' dl'.length dc', .slice pA' pl'.length pc', .slice lA' ll'.length lc', .slice iA' il'.length ic']
  simp only [Sl.val, Mdl.val] at *
  have e0 : (seed != seed') = false := by rw [bne_eq_false_iff_eq]; exact q0
  clear q0
  have e2 : ((dl.length : Int) != (dl'.length : Int)) = true := by rw [bne_iff_ne]; omega
  clear q2
  have Q1 := hide q1
  clear q1
  go_enter Try.func20, Try.ntmps20
  go_wp2_with fail
  refine (rfloat_any _ _ _).mono ?_
  rw [Q1.out]
  rintro e w' ⟨rfl, rfl⟩
  generalize (w.alloc (.cells #[.int .i64 seed, .float .f64 fin, .slice dA dl.length dc, .slice pA pl.length pc, .slice lA ll.length lc, .slice iA il.length ic] 28)).alloc (.cells #[.int .i64 seed', .float .f64 fin', .slice dA' dl'.length dc', .slice pA' pl'.length pc', .slice lA' ll'.length lc', .slice iA' il'.length ic'] 28) = w1 at *
  have c2 := hX.cell 2
  have d2 := hY.cell 2
  have c3 := hX.cell 3
  have d3 := hY.cell 3
  have c4 := hX.cell 4
  have d4 := hY.cell 4
  have c5 := hX.cell 5
  have d5 := hY.cell 5
  go_wp2_with fail
  go_ret
  exact ⟨ret_bool HS.out.symm, hb⟩
theorem rsame_bad3 (m m' : Mdl) (w : World) (q0 : m.seed = m'.seed) (q1 : fsame m.fin m'.fin = true) (q2 : m.dl.L.length = m'.dl.L.length) (q3 : ¬ m.pl.L.length = m'.pl.L.length) : Calls Try.prog 20 #[m.val, m'.val] w fun e w' => e = .returned (.bool (sameB m m')) ∧ Below w.heap.size w w' := by
  have HS := hide (show sameB m m' = false by
    unfold sameB
    rw [eqL_len (f := progSame) q3]
    simp)
  generalize sameB m m' = S at *
  obtain ⟨seed, fin, ⟨dA, dc, dl⟩, ⟨pA, pc, pl⟩, ⟨lA, lc, ll⟩, ⟨iA, ic, il⟩⟩ := m
  obtain ⟨seed', fin', ⟨dA', dc', dl'⟩, ⟨pA', pc', pl'⟩, ⟨lA', lc', ll'⟩, ⟨iA', ic', il'⟩⟩ := m'
  obtain ⟨hX, hY, hb⟩ := two_boxes w 28 #[.int .i64 seed, .float .f64 fin, .slice dA dl.length dc, .slice pA pl.length pc, .slice lA ll.length lc, .slice iA il.length ic] #[.int .i64 seed', .float .f64 fin', .slice dA' dl'.length dc', .slice pA' pl'.length pc', .slice lA' ll'.length lc', .slice iA' il'.length ic']
  simp only [Sl.val, Mdl.val] at *
  have e0 : (seed != seed') = false := by rw [bne_eq_false_iff_eq]; exact q0
  clear q0
  have e2 : ((dl.length : Int) != (dl'.length : Int)) = false := by rw [bne_eq_false_iff_eq]; omega
  clear q2
  have e3 : ((pl.length : Int) != (pl'.length : Int)) = true := by rw [bne_iff_ne]; omega
  clear q3
  have Q1 := hide q1
  clear q1
  go_enter Try.func20, Try.ntmps20
  go_wp2_with fail
  refine (rfloat_any _ _ _).mono ?_
  rw [Q1.out]
  rintro e w' ⟨rfl, rfl⟩
  generalize (w.alloc (.cells #[.int .i64 seed, .float .f64 fin, .slice dA dl.length dc, .slice pA pl.length pc, .slice lA ll.length lc, .slice iA il.length ic] 28)).alloc (.cells #[.int .i64 seed', .float .f64 fin', .slice dA' dl'.length dc', .slice pA' pl'.length pc', .slice lA' ll'.length lc', .slice iA' il'.length ic'] 28) = w1 at *
  have c2 := hX.cell 2
  have d2 := hY.cell 2
  have c3 := hX.cell 3
  have d3 := hY.cell 3
  have c4 := hX.cell 4
  have d4 := hY.cell 4
  have c5 := hX.cell 5
  have d5 := hY.cell 5
  go_wp2_with fail
  go_ret
  exact ⟨ret_bool HS.out.symm, hb⟩
theorem rsame_bad4 (m m' : Mdl) (w : World) (q0 : m.seed = m'.seed) (q1 : fsame m.fin m'.fin = true) (q2 : m.dl.L.length = m'.dl.L.length) (q3 : m.pl.L.length = m'.pl.L.length) (q4 : ¬ m.ll.L.length = m'.ll.L.length) : Calls Try.prog 20 #[m.val, m'.val] w fun e w' => e = .returned (.bool (sameB m m')) ∧ Below w.heap.size w w' := by
  have HS := hide (show sameB m m' = false by
    unfold sameB
    rw [eqL_len (f := lpSame) q4]
    simp)
  generalize sameB m m' = S at *
  obtain ⟨seed, fin, ⟨dA, dc, dl⟩, ⟨pA, pc, pl⟩, ⟨lA, lc, ll⟩, ⟨iA, ic, il⟩⟩ := m
  obtain ⟨seed', fin', ⟨dA', dc', dl'⟩, ⟨pA', pc', pl'⟩, ⟨lA', lc', ll'⟩, ⟨iA', ic', il'⟩⟩ := m'
  obtain ⟨hX, hY, hb⟩ := two_boxes w 28 #[.int .i64 seed, .float .f64 fin, .slice dA dl.length dc, .slice pA pl.length pc, .slice lA ll.length lc, .slice iA il.length ic] #[.int .i64 seed', .float .f64 fin', .slice dA' dl'.length dc', .slice pA' pl'.length pc', .slice lA' ll'.length lc', .slice iA' il'.length ic']
  simp only [Sl.val, Mdl.val] at *
  have e0 : (seed != seed') = false := by rw [bne_eq_false_iff_eq]; exact q0
  clear q0
  have e2 : ((dl.length : Int) != (dl'.length : Int)) = false := by rw [bne_eq_false_iff_eq]; omega
  clear q2
  have e3 : ((pl.length : Int) != (pl'.length : Int)) = false := by rw [bne_eq_false_iff_eq]; omega
  clear q3
  have e4 : ((ll.length : Int) != (ll'.length : Int)) = true := by rw [bne_iff_ne]; omega
  clear q4
  have Q1 := hide q1
  clear q1
  go_enter Try.func20, Try.ntmps20
  go_wp2_with fail
  refine (rfloat_any _ _ _).mono ?_
  rw [Q1.out]
  rintro e w' ⟨rfl, rfl⟩
  generalize (w.alloc (.cells #[.int .i64 seed, .float .f64 fin, .slice dA dl.length dc, .slice pA pl.length pc, .slice lA ll.length lc, .slice iA il.length ic] 28)).alloc (.cells #[.int .i64 seed', .float .f64 fin', .slice dA' dl'.length dc', .slice pA' pl'.length pc', .slice lA' ll'.length lc', .slice iA' il'.length ic'] 28) = w1 at *
  have c2 := hX.cell 2
  have d2 := hY.cell 2
  have c3 := hX.cell 3
  have d3 := hY.cell 3
  have c4 := hX.cell 4
  have d4 := hY.cell 4
  have c5 := hX.cell 5
  have d5 := hY.cell 5
  go_wp2_with fail
  go_ret
  exact ⟨ret_bool HS.out.symm, hb⟩
theorem rsame_bad5 (m m' : Mdl) (w : World) (q0 : m.seed = m'.seed) (q1 : fsame m.fin m'.fin = true) (q2 : m.dl.L.length = m'.dl.L.length) (q3 : m.pl.L.length = m'.pl.L.length) (q4 : m.ll.L.length = m'.ll.L.length) (q5 : ¬ m.il.L.length = m'.il.L.length) : Calls Try.prog 20 #[m.val, m'.val] w fun e w' => e = .returned (.bool (sameB m m')) ∧ Below w.heap.size w w' := by
  have HS := hide (show sameB m m' = false by
    unfold sameB
    rw [eqL_len (f := initSame) q5]
    simp)
  generalize sameB m m' = S at *
  obtain ⟨seed, fin, ⟨dA, dc, dl⟩, ⟨pA, pc, pl⟩, ⟨lA, lc, ll⟩, ⟨iA, ic, il⟩⟩ := m
  obtain ⟨seed', fin', ⟨dA', dc', dl'⟩, ⟨pA', pc', pl'⟩, ⟨lA', lc', ll'⟩, ⟨iA', ic', il'⟩⟩ := m'
  obtain ⟨hX, hY, hb⟩ := two_boxes w 28 #[.int .i64 seed, .float .f64 fin, .slice dA dl.length dc, .slice pA pl.length pc, .slice lA ll.length lc, .slice iA il.length ic] #[.int .i64 seed', .float .f64 fin', .slice dA' dl'.length dc', .slice pA' pl'.length pc', .slice lA' ll'.length lc', .slice iA' il'.length ic']
  simp only [Sl.val, Mdl.val] at *
  have e0 : (seed != seed') = false := by rw [bne_eq_false_iff_eq]; exact q0
  clear q0
  have e2 : ((dl.length : Int) != (dl'.length : Int)) = false := by rw [bne_eq_false_iff_eq]; omega
  clear q2
  have e3 : ((pl.length : Int) != (pl'.length : Int)) = false := by rw [bne_eq_false_iff_eq]; omega
  clear q3
  have e4 : ((ll.length : Int) != (ll'.length : Int)) = false := by rw [bne_eq_false_iff_eq]; omega
  clear q4
  have e5 : ((il.length : Int) != (il'.length : Int)) = true := by rw [bne_iff_ne]; omega
  clear q5
  have Q1 := hide q1
  clear q1
  go_enter Try.func20, Try.ntmps20
  go_wp2_with fail
  refine (rfloat_any _ _ _).mono ?_
  rw [Q1.out]
  rintro e w' ⟨rfl, rfl⟩
  generalize (w.alloc (.cells #[.int .i64 seed, .float .f64 fin, .slice dA dl.length dc, .slice pA pl.length pc, .slice lA ll.length lc, .slice iA il.length ic] 28)).alloc (.cells #[.int .i64 seed', .float .f64 fin', .slice dA' dl'.length dc', .slice pA' pl'.length pc', .slice lA' ll'.length lc', .slice iA' il'.length ic'] 28) = w1 at *
  have c2 := hX.cell 2
  have d2 := hY.cell 2
  have c3 := hX.cell 3
  have d3 := hY.cell 3
  have c4 := hX.cell 4
  have d4 := hY.cell 4
  have c5 := hX.cell 5
  have d5 := hY.cell 5
  go_wp2_with fail
  go_ret
  exact ⟨ret_bool HS.out.symm, hb⟩
theorem rsame_any (m m' : Mdl) (w : World) (h : m.At w) (h' : m'.At w) : Calls Try.prog 20 #[m.val, m'.val] w fun e w' => e = .returned (.bool (sameB m m')) ∧ Below w.heap.size w w' := by
  by_cases q0 : m.seed = m'.seed
  · skip
    by_cases q1 : fsame m.fin m'.fin = true
    · skip
      by_cases q2 : m.dl.L.length = m'.dl.L.length
      · skip
        by_cases q3 : m.pl.L.length = m'.pl.L.length
        · skip
          by_cases q4 : m.ll.L.length = m'.ll.L.length
          · skip
            by_cases q5 : m.il.L.length = m'.il.L.length
            · exact rsame_good m m' w h h' q0 q1 q2 q3 q4 q5
            · exact rsame_bad5 m m' w q0 q1 q2 q3 q4 q5
          · exact rsame_bad4 m m' w q0 q1 q2 q3 q4
        · exact rsame_bad3 m m' w q0 q1 q2 q3
      · exact rsame_bad2 m m' w q0 q1 q2
    · exact rsame_bad1 m m' w q0 q1
  · exact rsame_bad0 m m' w q0
end Go.Proofs.Ytegegljpmelomaa
