/- The walk of law07's VmSteps. No condition. -/
import Derived.Test.YtgohdpnlaedeiaaLaw07b
set_option linter.unusedVariables false
set_option linter.unusedSimpArgs false
set_option maxRecDepth 20000
namespace Go.Proofs.Ytgohdpnlaedeiaa
open Go.RowKit Go.Deep

set_option maxHeartbeats 4000000 in
theorem steps_walk (w : World) (p : Sl Ins4) (i : Inp) (hp : p.At InsAt 4 w) (hi : i.At w) : Calls Try.prog 7 #[p.val, i.val] w fun e w' => e = .returned (.bool true) ∧ Below w.heap.size w w' := by
  have hX := Blk.new w 25 i.cells
  have hb : Below w.heap.size w (w.alloc (.cells i.cells 25)) := (Below.refl _ _).alloc (Nat.le_refl _) _
  have hF := few_any (w.alloc (.cells i.cells 25)) p i hp.2.1 hp.2.2
  have HF := hide hF
  have HX := hide hX
  have HB := hide hb
  have HI := hide (And.intro hp hi)
  clear hF hX hb hp hi
  have HC := hide (show i.cells = #[.slice i.wd.A i.wd.L.length i.wd.c, .int .i64 i.pay, .int .i64 i.me, .int .i64 i.lps, .int .i64 i.seed, .int .i64 i.dice] from rfl)
  unfold Inp.val at *
  generalize hcs : i.cells = cs at *
  obtain rfl := HC.out
  clear hcs HC
  unfold Sl.val at *
  go_enter Try.func7, Try.ntmps7
  go_upto_region 1 with fail
  generalize w.alloc _ = w1 at *
  have x0 := HX.out.cell 0
  have x1 := HX.out.cell 1
  have x2 := HX.out.cell 2
  have x3 := HX.out.cell 3
  have x4 := HX.out.cell 4
  have x5 := HX.out.cell 5
  simp only [List.getElem?_toArray, List.getElem?_cons_zero, List.getElem?_cons_succ] at x0 x1 x2 x3 x4 x5
  go_wp2_with fail
  refine HF.out.mono ?_
  rintro e w2 ⟨rfl, h2⟩
  have hb2 := below_after HB.out h2
  have hX2 := HX.out.below h2 HX.out.lt
  clear HF HB HX h2 x0 x1 x2 x3 x4 x5
  cases hfw : (decide (p.L.length ≤ 100) && decide (i.wd.L.length ≤ 60))
  · have HB := hide hb2
    clear hfw hb2 hX2
    go_wp2_with fail
    refine (awake07 _).mono ?_
    rintro e w3 ⟨rfl, h3⟩
    have HE := hide (below_after HB.out h3)
    clear h3 HB
    go_wp2_with fail
    go_ret
    exact ⟨rfl, HE.out⟩
  · clear hfw
    have HX := hide hX2
    have HB := hide hb2
    clear hX2 hb2
    have x0 := HX.out.cell 0
    have x1 := HX.out.cell 1
    have x2 := HX.out.cell 2
    have x3 := HX.out.cell 3
    have x4 := HX.out.cell 4
    have x5 := HX.out.cell 5
    simp only [List.getElem?_toArray, List.getElem?_cons_zero, List.getElem?_cons_succ] at x0 x1 x2 x3 x4 x5
    have SA := hide fun (W : World) (h : Below w.heap.size w W) => steps_any W p i (HI.out.1.below InsAt.keeps h) (HI.out.2.below h)
    have MA := hide fun (W : World) (h : Below w.heap.size w W) => rmay_any W p i (HI.out.1.below InsAt.keeps h) (HI.out.2.below h)
    obtain ⟨V, hV⟩ : ∃ V, vmay p.L i.wd.L.length = V := ⟨_, rfl⟩
    obtain ⟨N, hN⟩ : ∃ N, stepsV p.L i.wd.L i.pay i.me i.lps i.seed i.dice = N := ⟨_, rfl⟩
    unfold Inp.val Inp.cells Sl.val at SA MA
    rw [hV] at MA
    rw [hN] at SA
    have HV := hide hV
    have HN := hide hN
    clear hV hN
    go_upto_region 3 with fail
    go_wp2_with fail
    refine (SA.out _ HB.out).mono ?_
    rintro e w3 ⟨rfl, h3⟩
    have hb3 := below_after HB.out h3
    have hX3 := HX.out.below h3 HX.out.lt
    clear h3 HB HX SA x0 x1 x2 x3 x4 x5
    have HB := hide hb3
    have HX := hide hX3
    clear hb3 hX3
    have x0 := HX.out.cell 0
    have x1 := HX.out.cell 1
    have x2 := HX.out.cell 2
    have x3 := HX.out.cell 3
    have x4 := HX.out.cell 4
    have x5 := HX.out.cell 5
    simp only [List.getElem?_toArray, List.getElem?_cons_zero, List.getElem?_cons_succ] at x0 x1 x2 x3 x4 x5
    go_wp2_with fail
    refine (MA.out _ HB.out).mono ?_
    rintro e w4 ⟨rfl, h4⟩
    have hb4 := below_after HB.out h4
    have hX4 := HX.out.below h4 HX.out.lt
    clear h4 HB HX MA x0 x1 x2 x3 x4 x5
    by_cases h0 : V = 0
    · subst h0
      have HVo := hide (vmay_ok HV.out)
      obtain ⟨R, hR⟩ : ∃ R, vall p.L i.wd.L i.pay i.me i.lps i.seed i.dice = R := ⟨_, rfl⟩
      have HNR := hide (show N = R.1.n from by rw [← HN.out, ← hR]; exact if_pos HV.out)
      have hle := (vrun_ok (W := wordI i.seed i.me) (lps := i.lps) (nw := i.wd.L.length) (ins_ok HI.out.1 HVo.out.2.2.1) 120 (vbeg i.wd.L i.pay i.me i.lps i.dice) (vbeg_ok (sl_ints HI.out.2.wd) HVo.out.2.2.2 HI.out.2.pay HI.out.2.me HI.out.2.lps HI.out.2.dice)).2.2.2
      have hle2 : R.1.n ≤ 120 := by
        have hr := hR
        unfold vall at hr
        rw [hr] at hle
        simpa [vbeg] using hle
      have OA := hide fun (W : World) (h : Below w.heap.size w W) => rof_any W p i (HI.out.1.below InsAt.keeps h) (HI.out.2.below h) HVo.out.2.2.2 HVo.out.2.1 HVo.out.2.2.1 R hR
      unfold Inp.val Inp.cells Sl.val at OA
      have HB := hide hb4
      have HX := hide hX4
      clear hb4 hX4 hle hR
      go_upto_region 6 with fail
      go_wp2_with fail
      refine (awake07 _).mono ?_
      rintro e w5 ⟨rfl, h5⟩
      have hb5 := below_after HB.out h5
      have hX5 := HX.out.below h5 HX.out.lt
      clear h5 HB HX
      have HB := hide hb5
      have HX := hide hX5
      clear hb5 hX5
      have x0 := HX.out.cell 0
      have x1 := HX.out.cell 1
      have x2 := HX.out.cell 2
      have x3 := HX.out.cell 3
      have x4 := HX.out.cell 4
      have x5 := HX.out.cell 5
      simp only [List.getElem?_toArray, List.getElem?_cons_zero, List.getElem?_cons_succ] at x0 x1 x2 x3 x4 x5
      go_wp2_with fail
      refine (OA.out _ HB.out).mono ?_
      rintro e w6 ⟨b, gb, wv, sv, rfl, hS⟩
      have c5 := hS.cells.2.2.2.2.2.1
      have HE := hide (below_after HB.out hS.bel)
      obtain rfl := HNR.out
      have dN : (((R.1.n : Nat) : Int) == ((R.1.n : Nat) : Int)) = true := beq_self_eq_true _
      have d120 : decide (((R.1.n : Nat) : Int) ≤ 120) = true := decide_eq_true (by omega)
      clear HB HX hS x0 x1 x2 x3 x4 x5 HN HV OA hle2
      generalize ((R.1.n : Nat) : Int) = n at *
      go_wp2_with fail
      go_ret
      exact ⟨rfl, HE.out⟩
    · have hVb : (V != 0) = true := by rw [bne_iff_ne]; exact h0
      have HN0 := hide (show N = 0 from by rw [← HN.out]; exact if_neg (by rw [HV.out]; exact h0))
      have HB := hide hb4
      obtain rfl := HN0.out
      clear h0 hb4 hX4 HN HV
      go_wp2_with fail
      refine (awake07 _).mono ?_
      rintro e w5 ⟨rfl, h5⟩
      have HE := hide (below_after HB.out h5)
      clear h5 HB
      go_wp2_with fail
      go_ret
      exact ⟨rfl, HE.out⟩
end Go.Proofs.Ytgohdpnlaedeiaa
