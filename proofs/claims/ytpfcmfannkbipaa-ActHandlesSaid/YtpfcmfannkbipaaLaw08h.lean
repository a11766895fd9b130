/- The walk of the law ActHandles. No condition. -/
import Derived.Test.YtpfcmfannkbipaaHan8
import Derived.Test.YtpfcmfannkbipaaAw8c
set_option linter.unusedVariables false
set_option linter.unusedSimpArgs false
set_option maxRecDepth 20000
namespace Go.Proofs.Ytpfcmfannkbipaa
open Go.RowKit Go.Deep

attribute [local go_sem] run_store_float
set_option maxHeartbeats 4000000 in
theorem handles_walk (c : Cas) (w : World) (h : c.At w) : Calls Try.prog 10 #[c.val] w fun e w' => e = .returned (.bool true) ∧ Below w.heap.size w w' := by
  have hX := Blk.new w 63 c.cells
  have hb0 : Below w.heap.size w (w.alloc (.cells c.cells 63)) := (Below.refl _ _).alloc (Nat.le_refl _) _
  have HLI := hide (light8_any c _ (h.below hb0))
  have HCK := hide (fun W (hb : Below w.heap.size w W) => rcheck_any c.m W (h.m.below hb))
  have HHA := hide (fun W (hb : Below w.heap.size w W) => handlew_any c.m c.lp c.s c.e W (h.m.below hb) (h.s.below hb) h.e)
  have HRH := hide (fun (hc : chkB c.m = true) W (hb : Below w.heap.size w W) => rhandlew_any c.m c.lp c.s c.e W (h.m.below hb) (h.s.below hb) h.e hc)
  have HOK := hide (hR_ok (lp := c.lp) h.m h.s h.e)
  have HZ := hide (fun (hc : chkB c.m = false) => (show hE c.m c.lp c.s.pl c.e = 15 ∧ hR c.m c.lp c.s.pl c.e = (([], 0, 0), [], 0) from by
    have h1 : hE c.m c.lp c.s.pl c.e = 15 := by unfold hE; rw [hc]; rfl
    exact ⟨h1, if_neg (by rw [h1]; decide)⟩))
  have hC : chkE c.m = if chkB c.m = true then 0 else 15 := rfl
  generalize lightC c = LB at *
  generalize hE c.m c.lp c.s.pl c.e = E at *
  generalize hR c.m c.lp c.s.pl c.e = R at *
  generalize hckb : chkB c.m = CB at *
  generalize chkE c.m = CE at *
  clear h hckb
  obtain ⟨⟨seed, fin, dl, pl, ll, il⟩, lp, ⟨wd, sent, dice⟩, ⟨et, es, en, ed, ep⟩⟩ := c
  obtain ⟨⟨r1, r2, r3⟩, r4, r5⟩ := R
  simp only [Cas.val, Cas.cells, Mdl.val, St.val, St.pl] at *
  generalize hdv : dl.val = v2 at *
  generalize hpv : pl.val = v3 at *
  generalize hlv : ll.val = v4 at *
  generalize hiv : il.val = v5 at *
  generalize hwv : wd.val = v7 at *
  have HB := hide hb0
  clear hdv hpv hlv hiv hwv hb0
  have x0 := hX.cell 0
  have x1 := hX.cell 1
  have x2 := hX.cell 2
  have x3 := hX.cell 3
  have x4 := hX.cell 4
  have x5 := hX.cell 5
  have x6 := hX.cell 6
  have x7 := hX.cell 7
  have x8 := hX.cell 8
  have x9 := hX.cell 9
  have x10 := hX.cell 10
  have x11 := hX.cell 11
  have x12 := hX.cell 12
  have x13 := hX.cell 13
  have x14 := hX.cell 14
  simp only [List.getElem?_toArray, List.getElem?_cons_zero, List.getElem?_cons_succ] at x0 x1 x2 x3 x4 x5 x6 x7 x8 x9 x10 x11 x12 x13 x14
  go_enter Try.func10, Try.ntmps10
  go_upto_region 1 with fail
  generalize World.alloc w _ = w0 at *
  go_wp2_with fail
  refine HLI.out.mono ?_
  rintro e w1 ⟨rfl, hb1⟩
  clear x0 x1 x2 x3 x4 x5 x6 x7 x8 x9 x10 x11 x12 x13 x14
  replace hX := hX.below hb1 hX.lt
  have hb2 := below_after HB.out hb1
  clear HB HLI hb1
  cases LB
  · clear HCK HHA HRH HZ HOK hC hX
    have HB := hide hb2
    clear hb2
    go_wp2_with fail
    refine (awake08 _).mono ?_
    rintro e w2 ⟨rfl, hb1⟩
    have HE := hide (below_after HB.out hb1)
    clear hb1 HB
    go_wp2_with fail
    go_ret
    exact ⟨rfl, HE.out⟩
  · have HB := hide hb2
    have x0 := hX.cell 0
    have x1 := hX.cell 1
    have x2 := hX.cell 2
    have x3 := hX.cell 3
    have x4 := hX.cell 4
    have x5 := hX.cell 5
    have x6 := hX.cell 6
    have x7 := hX.cell 7
    have x8 := hX.cell 8
    have x9 := hX.cell 9
    have x10 := hX.cell 10
    have x11 := hX.cell 11
    have x12 := hX.cell 12
    have x13 := hX.cell 13
    have x14 := hX.cell 14
    simp only [List.getElem?_toArray, List.getElem?_cons_zero, List.getElem?_cons_succ] at x0 x1 x2 x3 x4 x5 x6 x7 x8 x9 x10 x11 x12 x13 x14
    go_upto_region 3 with fail
    go_wp2_with fail
    refine (HHA.out _ HB.out).mono ?_
    rintro e w2 ⟨⟨aA, ac, aL⟩, ⟨qA, qc, qL⟩, rfl, haL, hqL, hwA, hqA, _, _, hb3⟩
    simp only at haL hqL
    subst haL hqL
    clear x0 x1 x2 x3 x4 x5 x6 x7 x8 x9 x10 x11 x12 x13 x14
    replace hX := hX.below hb3 hX.lt
    replace hb2 := below_after HB.out hb3
    clear HB HHA hb3
    simp only [Sl.val]
    have hS := Blk.new w2 61 #[.slice aA aL.length ac, .int .i64 r2, .int .i64 r3]
    replace hX := hX.alloc (.cells #[.slice aA aL.length ac, .int .i64 r2, .int .i64 r3] 61)
    have ha := (Below.refl w2.heap.size w2).alloc (Nat.le_refl _) (.cells #[.slice aA aL.length ac, .int .i64 r2, .int .i64 r3] 61)
    replace hwA := hwA.below IntAt.keeps ha
    replace hqA := hqA.below EvB.keeps ha
    have HB := hide (below_after hb2 ha)
    clear hb2 ha
    go_upto_region 4 with fail
    generalize World.alloc w2 _ = w3 at *
    generalize w2.heap.size = gS at *
    have x0 := hX.cell 0
    have x1 := hX.cell 1
    have x2 := hX.cell 2
    have x3 := hX.cell 3
    have x4 := hX.cell 4
    have x5 := hX.cell 5
    have x6 := hX.cell 6
    have x7 := hX.cell 7
    have x8 := hX.cell 8
    have x9 := hX.cell 9
    have x10 := hX.cell 10
    have x11 := hX.cell 11
    have x12 := hX.cell 12
    have x13 := hX.cell 13
    have x14 := hX.cell 14
    simp only [List.getElem?_toArray, List.getElem?_cons_zero, List.getElem?_cons_succ] at x0 x1 x2 x3 x4 x5 x6 x7 x8 x9 x10 x11 x12 x13 x14
    go_wp2_with fail
    refine (HCK.out _ HB.out).mono ?_
    rintro e w4 ⟨rfl, hb3⟩
    clear x0 x1 x2 x3 x4 x5 x6 x7 x8 x9 x10 x11 x12 x13 x14
    replace hX := hX.below hb3 hX.lt
    replace hS := hS.below hb3 hS.lt
    replace hwA := hwA.below IntAt.keeps hb3
    replace hqA := hqA.below EvB.keeps hb3
    have hb2 := below_after HB.out hb3
    clear HB HCK hb3
    cases CB
    · obtain rfl : CE = 15 := hC
      obtain ⟨rfl, hz⟩ := HZ.out rfl
      simp only [Prod.mk.injEq] at hz
      obtain ⟨⟨rfl, rfl, rfl⟩, rfl, rfl⟩ := hz
      have HB := hide hb2
      clear HZ hX hS hwA hqA hb2 HRH HOK
      go_wp2_with fail
      refine (awake08 _).mono ?_
      rintro e w5 ⟨rfl, hb1⟩
      have HE := hide (below_after HB.out hb1)
      clear hb1 HB
      go_wp2_with fail
      go_ret
      exact ⟨rfl, HE.out⟩
    · obtain rfl : CE = 0 := hC
      have HB := hide hb2
      have HR := hide (HRH.out rfl _ hb2)
      clear HZ HRH hb2
      have x0 := hX.cell 0
      have x1 := hX.cell 1
      have x2 := hX.cell 2
      have x3 := hX.cell 3
      have x4 := hX.cell 4
      have x5 := hX.cell 5
      have x6 := hX.cell 6
      have x7 := hX.cell 7
      have x8 := hX.cell 8
      have x9 := hX.cell 9
      have x10 := hX.cell 10
      have x11 := hX.cell 11
      have x12 := hX.cell 12
      have x13 := hX.cell 13
      have x14 := hX.cell 14
      simp only [List.getElem?_toArray, List.getElem?_cons_zero, List.getElem?_cons_succ] at x0 x1 x2 x3 x4 x5 x6 x7 x8 x9 x10 x11 x12 x13 x14
      go_upto_region 6 with fail
      go_wp2_with fail
      refine HR.out.mono ?_
      rintro e w5 ⟨⟨bA, bc, bL⟩, ⟨uA, uc, uL⟩, rfl, hbL, huL, hwB, hqB, hb3⟩
      simp only at hbL huL
      subst hbL huL
      clear x0 x1 x2 x3 x4 x5 x6 x7 x8 x9 x10 x11 x12 x13 x14
      replace hS := hS.below hb3 hS.lt
      replace hwA := hwA.below IntAt.keeps hb3
      replace hqA := hqA.below EvB.keeps hb3
      have hb2 := below_after HB.out hb3
      clear HB HR hb3 hX
      simp only [Sl.val]
      have hT := Blk.new w5 61 #[.slice bA bL.length bc, .int .i64 r2, .int .i64 r3]
      replace hS := hS.alloc (.cells #[.slice bA bL.length bc, .int .i64 r2, .int .i64 r3] 61)
      have ha := (Below.refl w5.heap.size w5).alloc (Nat.le_refl _) (.cells #[.slice bA bL.length bc, .int .i64 r2, .int .i64 r3] 61)
      replace hwA := hwA.below IntAt.keeps ha
      replace hqA := hqA.below EvB.keeps ha
      replace hwB := hwB.below IntAt.keeps ha
      replace hqB := hqB.below EvB.keeps ha
      have HB := hide (below_after hb2 ha)
      clear hb2 ha
      go_upto_region 7 with fail
      generalize World.alloc w5 _ = w6 at *
      generalize w5.heap.size = gT at *
      go_wp2_with fail
      refine (awake08 _).mono ?_
      rintro e w7 ⟨rfl, hb3⟩
      replace hS := hS.below hb3 hS.lt
      replace hT := hT.below hb3 hT.lt
      replace hwA := hwA.below IntAt.keeps hb3
      replace hqA := hqA.below EvB.keeps hb3
      replace hwB := hwB.below IntAt.keeps hb3
      replace hqB := hqB.below EvB.keeps hb3
      have hb2 := below_after HB.out hb3
      clear HB hb3
      have HSA := hide (rsame8_any ⟨⟨aA, ac, bL⟩, r2, r3⟩ ⟨⟨bA, bc, bL⟩, r2, r3⟩ w7 ⟨hwA, HOK.out.si, HOK.out.di⟩ ⟨hwB, HOK.out.si, HOK.out.di⟩)
      have HBS := hide (show sameP (St.pl ⟨⟨aA, ac, bL⟩, r2, r3⟩) (St.pl ⟨⟨bA, bc, bL⟩, r2, r3⟩) = true from sameP_iff.2 rfl)
      rw [HBS.out] at HSA
      simp only [St.val, Sl.val] at HSA
      have HQA := hide hqA
      have HQB := hide hqB
      have HB := hide hb2
      have e1 : (E == E) = true := beq_self_eq_true E
      have e2 : (r5 == r5) = true := beq_self_eq_true r5
      have s0 := hS.cell 0
      have s1 := hS.cell 1
      have s2 := hS.cell 2
      simp only [List.getElem?_toArray, List.getElem?_cons_zero, List.getElem?_cons_succ] at s0 s1 s2
      have t0 := hT.cell 0
      have t1 := hT.cell 1
      have t2 := hT.cell 2
      simp only [List.getElem?_toArray, List.getElem?_cons_zero, List.getElem?_cons_succ] at t0 t1 t2
      clear hb2 hqA hqB hwA hwB hS hT HOK HBS
      go_wp2_with fail
      refine HSA.out.mono ?_
      rintro e w8 ⟨rfl, hb3⟩
      have HSE := hide (sameev_self ⟨qA, qc, uL⟩ ⟨uA, uc, uL⟩ w8 (HQA.out.below EvB.keeps hb3) (HQB.out.below EvB.keeps hb3) rfl)
      simp only [Sl.val] at HSE
      have HE := hide (below_after HB.out hb3)
      clear s0 s1 s2 t0 t1 t2
      clear hb3 HQA HQB HB HSA e1 e2
      go_wp2_with fail
      refine HSE.out.mono ?_
      rintro e w9 ⟨rfl, hb3⟩
      have HE2 := hide (below_after HE.out hb3)
      clear hb3 HSE HE
      go_wp2_with fail
      go_ret
      exact ⟨rfl, HE2.out⟩
end Go.Proofs.Ytpfcmfannkbipaa
