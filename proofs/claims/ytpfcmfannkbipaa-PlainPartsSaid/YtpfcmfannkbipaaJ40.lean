/- Texts of this claim in one. No condition. -/
import Derived.Test.YtpfcmfannkbipaaJ39
section
set_option linter.unusedVariables false
set_option linter.unusedSimpArgs false
set_option maxRecDepth 20000
namespace Go.Proofs.Ytpfcmfannkbipaa
open Go.RowKit Go.Deep

attribute [local go_sem] run_store_float
/-- Not too many. -/
def fewS (s : Sl Dn) : Sl Dn := ⟨s.A, s.c, s.L.take 40⟩
theorem fewS_len (s : Sl Dn) : (fewS s).L.length ≤ 40 := by unfold fewS; simp only [List.length_take]; omega
theorem fewS_at {s : Sl Dn} {w : World} (h : s.At DnB 6 w) : (fewS s).At DnB 6 w := take_at h 40
theorem few34_any (s : Sl Dn) (w : World) (h : s.At DnB 6 w) : Calls Try.prog 20 #[s.val] w fun e w' => e = .returned (fewS s).val ∧ w' = w := by
  obtain ⟨A, c, L⟩ := s
  have hc := h.2
  simp only at hc
  clear h
  unfold fewS Sl.val
  simp only [List.length_take]
  by_cases hl : 40 < L.length
  · have hl2 : (40 : Int) < (L.length : Int) := by omega
    have hm : min 40 L.length = 40 := by omega
    rw [hm]
    have hc2 : (40 : Int) ≤ (c : Int) := by omega
    go_enter Try.func20, Try.ntmps20
    go_wp2_with fail
    go_ret
    exact ⟨rfl, rfl⟩
  · have hl2 : ¬ (40 : Int) < (L.length : Int) := by omega
    have hm : min 40 L.length = L.length := by omega
    rw [hm]
    go_enter Try.func20, Try.ntmps20
    go_wp2_with fail
    go_ret
    exact ⟨rfl, rfl⟩
theorem rsame34_self (L : List Dn) (w : World) : Calls Try.prog 22 #[.agg (sumR L), .agg (sumR L)] w fun e w' => e = .returned (.bool true) ∧ Below w.heap.size w w' := by
  unfold sumR sumC
  have h1 := fun W => rfloat_any (firT L) (firT L) W
  have h2 := fun W => rfloat_any (lasT L L.length) (lasT L L.length) W
  rw [fsame_eq] at h1 h2
  generalize (L.length : Int) = n at *
  generalize cntI badP L L.length = c0 at *
  generalize cntI (ofP 0) L L.length = c1 at *
  generalize cntI (ofP 1) L L.length = c2 at *
  generalize cntI (ofP 2) L L.length = c3 at *
  generalize cntI (ofP 3) L L.length = c4 at *
  generalize cntI (ofP 4) L L.length = c5 at *
  generalize cntI (ofP 5) L L.length = c6 at *
  generalize ordUp L L.length = o at *
  generalize firT L = t at *
  generalize lasT L L.length = u at *
  obtain ⟨hb, hX, hY⟩ := box2 w #[.int .i64 n, .int .i64 c0, .int .i64 c1, .int .i64 c2, .int .i64 c3, .int .i64 c4, .int .i64 c5, .int .i64 c6, .float .f64 t, .float .f64 u, .bool o] #[.int .i64 n, .int .i64 c0, .int .i64 c1, .int .i64 c2, .int .i64 c3, .int .i64 c4, .int .i64 c5, .int .i64 c6, .float .f64 t, .float .f64 u, .bool o] 29 29
  have x0 := hX.cell 0
  have x1 := hX.cell 1
  have x2 := hX.cell 2
  have x3 := hX.cell 3
  have x4 := hX.cell 4
  have x5 := hX.cell 5
  have x6 := hX.cell 6
  have x7 := hX.cell 7
  have x8 := hX.cell 8
  have x9 := hX.cell 9
  have x10 := hX.cell 10
  simp only [List.getElem?_toArray, List.getElem?_cons_zero, List.getElem?_cons_succ] at x0 x1 x2 x3 x4 x5 x6 x7 x8 x9 x10
  have y0 := hY.cell 0
  have y1 := hY.cell 1
  have y2 := hY.cell 2
  have y3 := hY.cell 3
  have y4 := hY.cell 4
  have y5 := hY.cell 5
  have y6 := hY.cell 6
  have y7 := hY.cell 7
  have y8 := hY.cell 8
  have y9 := hY.cell 9
  have y10 := hY.cell 10
  simp only [List.getElem?_toArray, List.getElem?_cons_zero, List.getElem?_cons_succ] at y0 y1 y2 y3 y4 y5 y6 y7 y8 y9 y10
  have HB := hide hb
  have he := eq6_run c1 c2 c3 c4 c5 c6
  clear hb hX hY
  go_enter Try.func22, Try.ntmps22
  go_upto_region 1 with fail
  generalize (World.alloc (World.alloc w _) _) = w1 at *
  go_wp2_with fail
  refine (h1 _).mono ?_
  rintro e w' ⟨rfl, rfl⟩
  go_wp2_with fail
  refine (h2 _).mono ?_
  rintro e w' ⟨rfl, rfl⟩
  go_wp2_with fail
  go_ret
  exact ⟨ret_bool (by simp), HB.out⟩
theorem sums34_walk (s : Sl Dn) (w : World) (h : s.At DnB 6 w) : Calls Try.prog 3 #[s.val] w fun e w' => e = .returned (.bool true) ∧ Below w.heap.size w w' := by
  have HF := hide (few34_any s w h)
  have HA := hide (fewS_at h)
  have HL := hide (fewS_len s)
  clear h
  generalize fewS s = q at *
  go_enter Try.func3, Try.ntmps3
  go_wp2_with fail
  refine HF.out.mono ?_
  rintro e w' ⟨rfl, rfl⟩
  go_wp2_with fail
  refine (awake34 _).mono ?_
  rintro e w1 ⟨rfl, hb1⟩
  have HA1 := hide (HA.out.below DnB.keeps hb1)
  have HB1 := hide hb1
  clear hb1 HF
  go_wp2_with fail
  refine (sum34_any q w1 HA1.out (by have := HL.out; omega)).mono ?_
  rintro e w2 ⟨rfl, hb2⟩
  have HA2 := hide (HA1.out.below DnB.keeps hb2)
  have HB2 := hide (below_after HB1.out hb2)
  clear hb2
  go_wp2_with fail
  refine (rsum34_any q w2 HA2.out (by have := HL.out; omega)).mono ?_
  rintro e w3 ⟨rfl, hb3⟩
  have HB3 := hide (below_after HB2.out hb3)
  clear hb3
  go_wp2_with fail
  refine (rsame34_self q.L w3).mono ?_
  rintro e w4 ⟨rfl, hb4⟩
  have HB4 := hide (below_after HB3.out hb4)
  clear hb4
  go_wp2_with fail
  go_ret
  exact ⟨rfl, HB4.out⟩
end Go.Proofs.Ytpfcmfannkbipaa
end
