/- The walk of the law ModelioPuts: every model's bytes, or that it is none. No condition. Printed by wip/tools/law06.py. -/
import Derived.Test.YtegegljpmelomaaLaw06
set_option linter.unusedVariables false
set_option linter.unusedSimpArgs false
set_option maxRecDepth 20000
namespace Go.Proofs.Ytegegljpmelomaa
open Go.RowKit Go.Deep
attribute [local go_sem] run_store_float
theorem puts_dark (m : Mdl) (w : World) (h : m.At w) (q : L06.lightB m = false) : Calls Try.prog 8 #[m.val] w fun e w' => e = .returned (.bool true) ∧ Below w.heap.size w w' := by
  obtain ⟨hX, hb⟩ := mbox w m h
  have hm := h.below hb
  have hli := L06.light_any m _ hm
  rw [q] at hli
  obtain ⟨seed, fin, ⟨dA, dc, dl⟩, ⟨pA, pc, pl⟩, ⟨lA, lc, ll⟩, ⟨iA, ic, il⟩⟩ := m
  simp only [Sl.val, Mdl.val] at *
  have HB0 := hide hb
  have HX0 := hide hX
  have HM0 := hide hm
  clear h hb hX hm
  go_enter Try.func8, Try.ntmps8
  go_wp2_with fail
  refine hli.mono ?_
  rintro e w1 ⟨rfl, hb1⟩
  go_wp2_with (go_at_call 23; refine (awake06 _).mono ?_; rintro e wA ⟨rfl, hbA⟩)
  go_ret
  exact ⟨rfl, below_after (below_after HB0.out hb1) hbA⟩
set_option maxHeartbeats 1000000 in
theorem puts_bad (m : Mdl) (w : World) (h : m.At w) (q : L06.lightB m = true) (hc : chkB m = false) : Calls Try.prog 8 #[m.val] w fun e w' => e = .returned (.bool true) ∧ Below w.heap.size w w' := by
  obtain ⟨hX, hb⟩ := mbox w m h
  have hm := h.below hb
  have hli := L06.light_any m _ hm
  rw [q] at hli
  have hput := fun W (hW : m.At W) => put_any m W hW
  have hrc := fun W (hW : m.At W) => rcheck_any m W hW
  simp only [show putR m = ⟨#[]⟩ by unfold putR; rw [hc]; rfl, show chkE m = 15 from chk_no hc] at hput hrc
  clear hc
  obtain ⟨seed, fin, ⟨dA, dc, dl⟩, ⟨pA, pc, pl⟩, ⟨lA, lc, ll⟩, ⟨iA, ic, il⟩⟩ := m
  simp only [Sl.val, Mdl.val] at *
  have HB0 := hide hb
  have HX0 := hide hX
  have HM0 := hide hm
  clear h hb hX hm
  go_enter Try.func8, Try.ntmps8
  go_wp2_with fail
  refine hli.mono ?_
  rintro e w1 ⟨rfl, hb1⟩
  have HB1 := hide (below_after HB0.out hb1)
  have HX1 := hide (HX0.out.below hb1 HX0.out.lt)
  have HM1 := hide (HM0.out.below hb1)
  clear hb1 HB0 HX0 HM0 hli
  have k0 := HX1.out.cell 0
  have k1 := HX1.out.cell 1
  have k2 := HX1.out.cell 2
  have k3 := HX1.out.cell 3
  have k4 := HX1.out.cell 4
  have k5 := HX1.out.cell 5
  simp only [List.getElem?_toArray, List.getElem?_cons_zero, List.getElem?_cons_succ] at k0 k1 k2 k3 k4 k5
  go_wp2_with fail
  refine (hput _ HM1.out).mono ?_
  rintro e w2 ⟨rfl, hb2⟩
  have HB2 := hide (below_after HB1.out hb2)
  have HX2 := hide (HX1.out.below hb2 HX1.out.lt)
  have HM2 := hide (HM1.out.below hb2)
  clear hb2 HB1 HX1 HM1 k0 k1 k2 k3 k4 k5
  have k0 := HX2.out.cell 0
  have k1 := HX2.out.cell 1
  have k2 := HX2.out.cell 2
  have k3 := HX2.out.cell 3
  have k4 := HX2.out.cell 4
  have k5 := HX2.out.cell 5
  simp only [List.getElem?_toArray, List.getElem?_cons_zero, List.getElem?_cons_succ] at k0 k1 k2 k3 k4 k5
  go_wp2_with fail
  refine (hrc _ HM2.out).mono ?_
  rintro e w3 ⟨rfl, hb3⟩
  have HB3 := hide (below_after HB2.out hb3)
  have HX3 := hide (HX2.out.below hb3 HX2.out.lt)
  have HM3 := hide (HM2.out.below hb3)
  clear hb3 HB2 HX2 HM2 k0 k1 k2 k3 k4 k5
  have k0 := HX3.out.cell 0
  have k1 := HX3.out.cell 1
  have k2 := HX3.out.cell 2
  have k3 := HX3.out.cell 3
  have k4 := HX3.out.cell 4
  have k5 := HX3.out.cell 5
  simp only [List.getElem?_toArray, List.getElem?_cons_zero, List.getElem?_cons_succ] at k0 k1 k2 k3 k4 k5
  clear k0 k1 k2 k3 k4 k5
  go_wp2_with (go_at_call 23; refine (awake06 _).mono ?_; rintro e wA ⟨rfl, hbA⟩)
  go_ret
  exact ⟨rfl, below_after HB3.out hbA⟩
set_option maxHeartbeats 1000000 in
theorem puts_good (m : Mdl) (w : World) (h : m.At w) (q : L06.lightB m = true) (hc : chkB m = true) : Calls Try.prog 8 #[m.val] w fun e w' => e = .returned (.bool true) ∧ Below w.heap.size w w' := by
  obtain ⟨hX, hb⟩ := mbox w m h
  have hm := h.below hb
  have hli := L06.light_any m _ hm
  rw [q] at hli
  have hput := fun W (hW : m.At W) => put_any m W hW
  have hrc := fun W (hW : m.At W) => rcheck_any m W hW
  have hla := fun W (hW : m.At W) => lay_any m W hW (chk_fits hc)
  simp only [show putR m = putS (modOf m) by unfold putR; rw [if_pos hc], show chkE m = 0 by unfold chkE; rw [if_pos hc]] at hput hrc
  generalize putS (modOf m) = S at *
  clear hc
  obtain ⟨seed, fin, ⟨dA, dc, dl⟩, ⟨pA, pc, pl⟩, ⟨lA, lc, ll⟩, ⟨iA, ic, il⟩⟩ := m
  simp only [Sl.val, Mdl.val] at *
  have HB0 := hide hb
  have HX0 := hide hX
  have HM0 := hide hm
  clear h hb hX hm
  go_enter Try.func8, Try.ntmps8
  go_wp2_with fail
  refine hli.mono ?_
  rintro e w1 ⟨rfl, hb1⟩
  have HB1 := hide (below_after HB0.out hb1)
  have HX1 := hide (HX0.out.below hb1 HX0.out.lt)
  have HM1 := hide (HM0.out.below hb1)
  clear hb1 HB0 HX0 HM0 hli
  have k0 := HX1.out.cell 0
  have k1 := HX1.out.cell 1
  have k2 := HX1.out.cell 2
  have k3 := HX1.out.cell 3
  have k4 := HX1.out.cell 4
  have k5 := HX1.out.cell 5
  simp only [List.getElem?_toArray, List.getElem?_cons_zero, List.getElem?_cons_succ] at k0 k1 k2 k3 k4 k5
  go_wp2_with fail
  refine (hput _ HM1.out).mono ?_
  rintro e w2 ⟨rfl, hb2⟩
  have HB2 := hide (below_after HB1.out hb2)
  have HX2 := hide (HX1.out.below hb2 HX1.out.lt)
  have HM2 := hide (HM1.out.below hb2)
  clear hb2 HB1 HX1 HM1 k0 k1 k2 k3 k4 k5
  have k0 := HX2.out.cell 0
  have k1 := HX2.out.cell 1
  have k2 := HX2.out.cell 2
  have k3 := HX2.out.cell 3
  have k4 := HX2.out.cell 4
  have k5 := HX2.out.cell 5
  simp only [List.getElem?_toArray, List.getElem?_cons_zero, List.getElem?_cons_succ] at k0 k1 k2 k3 k4 k5
  go_wp2_with fail
  refine (hrc _ HM2.out).mono ?_
  rintro e w3 ⟨rfl, hb3⟩
  have HB3 := hide (below_after HB2.out hb3)
  have HX3 := hide (HX2.out.below hb3 HX2.out.lt)
  have HM3 := hide (HM2.out.below hb3)
  clear hb3 HB2 HX2 HM2 k0 k1 k2 k3 k4 k5
  have k0 := HX3.out.cell 0
  have k1 := HX3.out.cell 1
  have k2 := HX3.out.cell 2
  have k3 := HX3.out.cell 3
  have k4 := HX3.out.cell 4
  have k5 := HX3.out.cell 5
  simp only [List.getElem?_toArray, List.getElem?_cons_zero, List.getElem?_cons_succ] at k0 k1 k2 k3 k4 k5
  go_wp2_with fail
  refine (awake06 _).mono ?_
  rintro e w4 ⟨rfl, hb4⟩
  have HB4 := hide (below_after HB3.out hb4)
  have HX4 := hide (HX3.out.below hb4 HX3.out.lt)
  have HM4 := hide (HM3.out.below hb4)
  clear hb4 HB3 HX3 HM3 k0 k1 k2 k3 k4 k5
  have k0 := HX4.out.cell 0
  have k1 := HX4.out.cell 1
  have k2 := HX4.out.cell 2
  have k3 := HX4.out.cell 3
  have k4 := HX4.out.cell 4
  have k5 := HX4.out.cell 5
  simp only [List.getElem?_toArray, List.getElem?_cons_zero, List.getElem?_cons_succ] at k0 k1 k2 k3 k4 k5
  go_wp2_with fail
  refine (hla _ HM4.out).mono ?_
  rintro e w5 ⟨rfl, hb5⟩
  clear k0 k1 k2 k3 k4 k5
  go_wp2_with fail
  go_ret
  exact ⟨by simp, below_after HB4.out hb5⟩
theorem puts_walk (m : Mdl) (w : World) (h : m.At w) : Calls Try.prog 8 #[m.val] w fun e w' => e = .returned (.bool true) ∧ Below w.heap.size w w' := by
  cases q : L06.lightB m
  · exact puts_dark m w h q
  · cases hc : chkB m
    · exact puts_bad m w h q hc
    · exact puts_good m w h q hc
end Go.Proofs.Ytegegljpmelomaa
