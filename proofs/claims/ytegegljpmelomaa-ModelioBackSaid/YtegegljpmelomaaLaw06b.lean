/- The walk of the law ModelioBack: what was put is got as it was. No condition. Printed by wip/tools/law06.py. -/
import Derived.Test.YtegegljpmelomaaLaw06
set_option linter.unusedVariables false
set_option linter.unusedSimpArgs false
set_option maxRecDepth 20000
namespace Go.Proofs.Ytegegljpmelomaa
open Go.RowKit Go.Deep
attribute [local go_sem] run_store_float
theorem back6_dark (m : Mdl) (w : World) (h : m.At w) (q : L06.lightB m = false) : Calls Try.prog 10 #[m.val] w fun e w' => e = .returned (.bool true) ∧ Below w.heap.size w w' := by
  obtain ⟨hX, hb⟩ := mbox w m h
  have hm := h.below hb
  have hli := L06.light_any m _ hm
  rw [q] at hli
  obtain ⟨seed, fin, ⟨dA, dc, dl⟩, ⟨pA, pc, pl⟩, ⟨lA, lc, ll⟩, ⟨iA, ic, il⟩⟩ := m
  simp only [Sl.val, Mdl.val] at *
  have HB0 := hide hb
  have HX0 := hide hX
  have HM0 := hide hm
  clear h hb hX hm
  go_enter Try.func10, Try.ntmps10
  go_wp2_with fail
  refine hli.mono ?_
  rintro e w1 ⟨rfl, hb1⟩
  go_wp2_with (go_at_call 23; refine (awake06 _).mono ?_; rintro e wA ⟨rfl, hbA⟩)
  go_ret
  exact ⟨rfl, below_after (below_after HB0.out hb1) hbA⟩
set_option maxHeartbeats 1000000 in
theorem back6_bad (m : Mdl) (w : World) (h : m.At w) (q : L06.lightB m = true) (hc : chkB m = false) : Calls Try.prog 10 #[m.val] w fun e w' => e = .returned (.bool true) ∧ Below w.heap.size w w' := by
  obtain ⟨hX, hb⟩ := mbox w m h
  have hm := h.below hb
  have hli := L06.light_any m _ hm
  rw [q] at hli
  have hput := fun W (hW : m.At W) => put_any m W hW
  simp only [show putR m = ⟨#[]⟩ by unfold putR; rw [hc]; rfl, show chkE m = 15 from chk_no hc] at hput
  clear hc
  obtain ⟨seed, fin, ⟨dA, dc, dl⟩, ⟨pA, pc, pl⟩, ⟨lA, lc, ll⟩, ⟨iA, ic, il⟩⟩ := m
  simp only [Sl.val, Mdl.val] at *
  have HB0 := hide hb
  have HX0 := hide hX
  have HM0 := hide hm
  clear h hb hX hm
  go_enter Try.func10, Try.ntmps10
  go_wp2_with fail
  refine hli.mono ?_
  rintro e w1 ⟨rfl, hb1⟩
  have HB1 := hide (below_after HB0.out hb1)
  have HX1 := hide (HX0.out.below hb1 HX0.out.lt)
  have HM1 := hide (HM0.out.below hb1)
  clear hb1 HB0 HX0 HM0 hli
  have k0 := HX1.out.cell 0
  have k1 := HX1.out.cell 1
  have k2 := HX1.out.cell 2
  have k3 := HX1.out.cell 3
  have k4 := HX1.out.cell 4
  have k5 := HX1.out.cell 5
  simp only [List.getElem?_toArray, List.getElem?_cons_zero, List.getElem?_cons_succ] at k0 k1 k2 k3 k4 k5
  go_wp2_with fail
  refine (hput _ HM1.out).mono ?_
  rintro e w2 ⟨rfl, hb2⟩
  have HB2 := hide (below_after HB1.out hb2)
  have HX2 := hide (HX1.out.below hb2 HX1.out.lt)
  have HM2 := hide (HM1.out.below hb2)
  clear hb2 HB1 HX1 HM1 k0 k1 k2 k3 k4 k5
  have k0 := HX2.out.cell 0
  have k1 := HX2.out.cell 1
  have k2 := HX2.out.cell 2
  have k3 := HX2.out.cell 3
  have k4 := HX2.out.cell 4
  have k5 := HX2.out.cell 5
  simp only [List.getElem?_toArray, List.getElem?_cons_zero, List.getElem?_cons_succ] at k0 k1 k2 k3 k4 k5
  clear k0 k1 k2 k3 k4 k5
  go_wp2_with (go_at_call 23; refine (awake06 _).mono ?_; rintro e wA ⟨rfl, hbA⟩)
  go_ret
  exact ⟨rfl, below_after HB2.out hbA⟩
set_option maxHeartbeats 1000000 in
theorem back6_good (m : Mdl) (w : World) (h : m.At w) (q : L06.lightB m = true) (hc : chkB m = true) : Calls Try.prog 10 #[m.val] w fun e w' => e = .returned (.bool true) ∧ Below w.heap.size w w' := by
  obtain ⟨hX, hb⟩ := mbox w m h
  have hm := h.below hb
  have hli := L06.light_any m _ hm
  rw [q] at hli
  have hput := fun W (hW : m.At W) => put_any m W hW
  have hgo := put_got h hc
  have hsz := put_size hc
  have hget : ∀ W, Calls Try.prog 26 #[.string (putS (modOf m))] W fun e w' => ∃ c : Mdl, e = .returned (.tuple #[c.val, .int .i64 0]) ∧ c.At w' ∧ sameB c m = true ∧ Below W.heap.size W w' := fun W => by
    have := get_any (putS (modOf m)) W (by omega)
    unfold GotRd at this
    rw [hgo.1, hgo.2] at this
    exact this.mono fun e w' ⟨c, h1, h2, h3, h4⟩ => ⟨c, h1, h2, sameB_con (con_of_mod h3), h4⟩
  simp only [show putR m = putS (modOf m) by unfold putR; rw [if_pos hc], show chkE m = 0 by unfold chkE; rw [if_pos hc]] at hput
  generalize putS (modOf m) = S at *
  clear hc hgo hsz
  obtain ⟨seed, fin, ⟨dA, dc, dl⟩, ⟨pA, pc, pl⟩, ⟨lA, lc, ll⟩, ⟨iA, ic, il⟩⟩ := m
  simp only [Sl.val, Mdl.val] at *
  have HB0 := hide hb
  have HX0 := hide hX
  have HM0 := hide hm
  clear h hb hX hm
  go_enter Try.func10, Try.ntmps10
  go_wp2_with fail
  refine hli.mono ?_
  rintro e w1 ⟨rfl, hb1⟩
  have HB1 := hide (below_after HB0.out hb1)
  have HX1 := hide (HX0.out.below hb1 HX0.out.lt)
  have HM1 := hide (HM0.out.below hb1)
  clear hb1 HB0 HX0 HM0 hli
  have k0 := HX1.out.cell 0
  have k1 := HX1.out.cell 1
  have k2 := HX1.out.cell 2
  have k3 := HX1.out.cell 3
  have k4 := HX1.out.cell 4
  have k5 := HX1.out.cell 5
  simp only [List.getElem?_toArray, List.getElem?_cons_zero, List.getElem?_cons_succ] at k0 k1 k2 k3 k4 k5
  go_wp2_with fail
  refine (hput _ HM1.out).mono ?_
  rintro e w2 ⟨rfl, hb2⟩
  have HB2 := hide (below_after HB1.out hb2)
  have HX2 := hide (HX1.out.below hb2 HX1.out.lt)
  have HM2 := hide (HM1.out.below hb2)
  clear hb2 HB1 HX1 HM1 k0 k1 k2 k3 k4 k5
  have k0 := HX2.out.cell 0
  have k1 := HX2.out.cell 1
  have k2 := HX2.out.cell 2
  have k3 := HX2.out.cell 3
  have k4 := HX2.out.cell 4
  have k5 := HX2.out.cell 5
  simp only [List.getElem?_toArray, List.getElem?_cons_zero, List.getElem?_cons_succ] at k0 k1 k2 k3 k4 k5
  go_wp2_with fail
  refine (hget _).mono ?_
  rintro e w3 ⟨⟨xs, xf, ⟨xdA, xdc, xdl⟩, ⟨xpA, xpc, xpl⟩, ⟨xlA, xlc, xll⟩, ⟨xiA, xic, xil⟩⟩, rfl, hxa, hxm, hb3⟩
  have HXA3 := hide hxa
  have HXS := hide hxm
  clear hxa hxm hget
  simp only [Mdl.val, Sl.val]
  have HB3 := hide (below_after HB2.out hb3)
  have HX3 := hide (HX2.out.below hb3 HX2.out.lt)
  have HM3 := hide (HM2.out.below hb3)
  clear hb3 HB2 HX2 HM2 k0 k1 k2 k3 k4 k5
  have k0 := HX3.out.cell 0
  have k1 := HX3.out.cell 1
  have k2 := HX3.out.cell 2
  have k3 := HX3.out.cell 3
  have k4 := HX3.out.cell 4
  have k5 := HX3.out.cell 5
  simp only [List.getElem?_toArray, List.getElem?_cons_zero, List.getElem?_cons_succ] at k0 k1 k2 k3 k4 k5
  go_upto_region 7 with fail
  have hbx := (Below.refl w3.heap.size w3).alloc (Nat.le_refl _) (.cells #[.int .i64 xs, .float .f64 xf, .slice xdA xdl.length xdc, .slice xpA xpl.length xpc, .slice xlA xll.length xlc, .slice xiA xil.length xic] 28)
  have HB4 := hide (below_after HB3.out hbx)
  have HX4 := hide (HX3.out.below hbx HX3.out.lt)
  have HM4 := hide (HM3.out.below hbx)
  have HXA4 := hide (HXA3.out.below hbx)
  have HY4 := hide (Blk.new w3 28 #[.int .i64 xs, .float .f64 xf, .slice xdA xdl.length xdc, .slice xpA xpl.length xpc, .slice xlA xll.length xlc, .slice xiA xil.length xic])
  clear hbx HB3 HX3 HM3 HXA3 k0 k1 k2 k3 k4 k5
  generalize w3.alloc (.cells #[.int .i64 xs, .float .f64 xf, .slice xdA xdl.length xdc, .slice xpA xpl.length xpc, .slice xlA xll.length xlc, .slice xiA xil.length xic] 28) = w4 at *
  generalize w3.heap.size = gx at *
  go_wp2_with fail
  refine (awake06 _).mono ?_
  rintro e w5 ⟨rfl, hb5⟩
  have HY5 := hide (HY4.out.below hb5 HY4.out.lt)
  have HXA5 := hide (HXA4.out.below hb5)
  have HB5 := hide (below_after HB4.out hb5)
  have HX5 := hide (HX4.out.below hb5 HX4.out.lt)
  have HM5 := hide (HM4.out.below hb5)
  clear HY4 HXA4 hb5 HB4 HX4 HM4
  have k0 := HX5.out.cell 0
  have k1 := HX5.out.cell 1
  have k2 := HX5.out.cell 2
  have k3 := HX5.out.cell 3
  have k4 := HX5.out.cell 4
  have k5 := HX5.out.cell 5
  simp only [List.getElem?_toArray, List.getElem?_cons_zero, List.getElem?_cons_succ] at k0 k1 k2 k3 k4 k5
  have j0 := HY5.out.cell 0
  have j1 := HY5.out.cell 1
  have j2 := HY5.out.cell 2
  have j3 := HY5.out.cell 3
  have j4 := HY5.out.cell 4
  have j5 := HY5.out.cell 5
  simp only [List.getElem?_toArray, List.getElem?_cons_zero, List.getElem?_cons_succ] at j0 j1 j2 j3 j4 j5
  have hsm := rsame_any ⟨xs, xf, ⟨xdA, xdc, xdl⟩, ⟨xpA, xpc, xpl⟩, ⟨xlA, xlc, xll⟩, ⟨xiA, xic, xil⟩⟩ ⟨seed, fin, ⟨dA, dc, dl⟩, ⟨pA, pc, pl⟩, ⟨lA, lc, ll⟩, ⟨iA, ic, il⟩⟩ w5 HXA5.out HM5.out
  rw [HXS.out] at hsm
  simp only [Mdl.val, Sl.val] at hsm
  go_wp2_with fail
  refine hsm.mono ?_
  rintro e w6 ⟨rfl, hb6⟩
  clear hsm k0 k1 k2 k3 k4 k5 j0 j1 j2 j3 j4 j5
  go_wp2_with fail
  go_ret
  exact ⟨by simp, below_after HB5.out hb6⟩
theorem back6_walk (m : Mdl) (w : World) (h : m.At w) : Calls Try.prog 10 #[m.val] w fun e w' => e = .returned (.bool true) ∧ Below w.heap.size w w' := by
  cases q : L06.lightB m
  · exact back6_dark m w h q
  · cases hc : chkB m
    · exact back6_bad m w h q hc
    · exact back6_good m w h q hc
end Go.Proofs.Ytegegljpmelomaa
