/- The walks of law07's VmRuns and VmSteps. No condition. -/
import Derived.Test.YtgohdpnlaedeiaaLaw07
set_option linter.unusedVariables false
set_option linter.unusedSimpArgs false
set_option maxRecDepth 20000
namespace Go.Proofs.Ytgohdpnlaedeiaa
open Go.RowKit Go.Deep

theorem outV_i64 {w : World} {p : Sl Ins4} {i : Inp} (hp : p.At InsAt 4 w) (hi : i.At w) : ∀ z ∈ (outV p.L i.wd.L i.pay i.me i.lps i.seed i.dice).1, I64 z := by
  intro z hz
  unfold outV at hz
  split at hz
  · rename_i hm
    obtain ⟨h1, h2, h3, h4⟩ := vmay_ok hm
    split at hz
    · exact (vrun_ok (W := wordI i.seed i.me) (lps := i.lps) (nw := i.wd.L.length) (ins_ok hp h3) 120 (vbeg i.wd.L i.pay i.me i.lps i.dice) (vbeg_ok (sl_ints hi.wd) h4 hi.pay hi.me hi.lps hi.dice)).1.wi z hz
    · simp at hz
  · simp at hz
/-- An output in memory, as slices. -/
theorem out_at {w : World} {N : Nat} {v : Value} {o : OutV} (h : OutAt w N v o) (hz : ∀ z ∈ o.1, I64 z) :
    ∃ (s : Sl Int) (u : Sl Snt), v = .agg #[s.val, u.val, .int .i64 o.2.2.1, .int .i64 o.2.2.2] ∧ s.L = o.1 ∧ u.L = o.2.1 ∧ s.At IntAt 1 w ∧ u.At SntAt 3 w := by
  obtain ⟨A, c, A', c', rfl, h1, h2⟩ := h
  obtain ⟨s, hv, hL, hs⟩ := OwnR.at_ (d := IntAt) (enc := encInt) (ok := fun _ x => I64 x) (size := 1) (by decide) (fun _ => rfl) makes_int h1 hz
  obtain ⟨u, hv2, hL2, hu⟩ := OwnR.at_ (d := SntAt) (enc := encSnt) (ok := fun _ _ => True) (size := 3) (by decide) (fun _ => rfl) makes_snt h2 (fun _ _ => trivial)
  exact ⟨s, u, by rw [hv, hv2], hL, hL2, hs, hu⟩
set_option maxHeartbeats 4000000 in
theorem runs_walk (w : World) (p : Sl Ins4) (i : Inp) (hp : p.At InsAt 4 w) (hi : i.At w) : Calls Try.prog 3 #[p.val, i.val] w fun e w' => e = .returned (.bool true) ∧ Below w.heap.size w w' := by
  have hX := Blk.new w 25 i.cells
  have hb : Below w.heap.size w (w.alloc (.cells i.cells 25)) := (Below.refl _ _).alloc (Nat.le_refl _) _
  have hF := few_any (w.alloc (.cells i.cells 25)) p i hp.2.1 hp.2.2
  have HF := hide hF
  have HX := hide hX
  have HB := hide hb
  have HI := hide (And.intro hp hi)
  clear hF hX hb hp hi
  have HC := hide (show i.cells = #[.slice i.wd.A i.wd.L.length i.wd.c, .int .i64 i.pay, .int .i64 i.me, .int .i64 i.lps, .int .i64 i.seed, .int .i64 i.dice] from rfl)
  unfold Inp.val at *
  generalize hcs : i.cells = cs at *
  obtain rfl := HC.out
  clear hcs HC
  unfold Sl.val at *
  go_enter Try.func3, Try.ntmps3
  go_upto_region 1 with fail
  generalize w.alloc _ = w1 at *
  have x0 := HX.out.cell 0
  have x1 := HX.out.cell 1
  have x2 := HX.out.cell 2
  have x3 := HX.out.cell 3
  have x4 := HX.out.cell 4
  have x5 := HX.out.cell 5
  simp only [List.getElem?_toArray, List.getElem?_cons_zero, List.getElem?_cons_succ] at x0 x1 x2 x3 x4 x5
  go_wp2_with fail
  refine HF.out.mono ?_
  rintro e w2 ⟨rfl, h2⟩
  have hb2 := below_after HB.out h2
  have hX2 := HX.out.below h2 HX.out.lt
  clear HF HB HX h2 x0 x1 x2 x3 x4 x5
  cases hfw : (decide (p.L.length ≤ 100) && decide (i.wd.L.length ≤ 60))
  · have HB := hide hb2
    clear hfw hb2 hX2
    go_wp2_with fail
    refine (awake07 _).mono ?_
    rintro e w3 ⟨rfl, h3⟩
    have HE := hide (below_after HB.out h3)
    clear h3 HB
    go_wp2_with fail
    go_ret
    exact ⟨rfl, HE.out⟩
  · clear hfw
    have x0 := hX2.cell 0
    have x1 := hX2.cell 1
    have x2 := hX2.cell 2
    have x3 := hX2.cell 3
    have x4 := hX2.cell 4
    have x5 := hX2.cell 5
    simp only [List.getElem?_toArray, List.getElem?_cons_zero, List.getElem?_cons_succ] at x0 x1 x2 x3 x4 x5
    have RA := hide fun (W : World) (h : Below w.heap.size w W) => run_any W p i (HI.out.1.below InsAt.keeps h) (HI.out.2.below h)
    have DA := hide fun (W : World) (h : Below w.heap.size w W) => rdo_any W p i (HI.out.1.below InsAt.keeps h) (HI.out.2.below h)
    have OZ := hide (outV_i64 HI.out.1 HI.out.2)
    unfold Inp.val Inp.cells Sl.val at RA DA
    generalize vmay p.L i.wd.L.length = V at *
    generalize outV p.L i.wd.L i.pay i.me i.lps i.seed i.dice = O at *
    obtain ⟨o1, o2, o3, o4⟩ := O
    have HB := hide hb2
    have HX := hide hX2
    clear hb2 hX2
    go_upto_region 3 with fail
    go_wp2_with fail
    refine (RA.out _ HB.out).mono ?_
    rintro e w3 ⟨v, rfl, ho, h3⟩
    obtain ⟨⟨sA, sc, sL⟩, ⟨uA, uc, uL⟩, rfl, hsL, huL, hs, hu⟩ := out_at ho OZ.out
    simp only at hsL huL
    subst hsL
    subst huL
    have hb3 := below_after HB.out h3
    have hX3 := HX.out.below h3 HX.out.lt
    clear ho h3 HB HX x0 x1 x2 x3 x4 x5
    simp only [Sl.val]
    have hY := Blk.new w3 30 #[.slice sA sL.length sc, .slice uA uL.length uc, .int .i64 o3, .int .i64 o4]
    have hb4 := hb3.alloc hb3.size (.cells #[.slice sA sL.length sc, .slice uA uL.length uc, .int .i64 o3, .int .i64 o4] 30)
    have hX4 := hX3.alloc (.cells #[.slice sA sL.length sc, .slice uA uL.length uc, .int .i64 o3, .int .i64 o4] 30)
    have hs4 := hs.below IntAt.keeps ((Below.refl _ _).alloc (Nat.le_refl _) (.cells #[.slice sA sL.length sc, .slice uA uL.length uc, .int .i64 o3, .int .i64 o4] 30))
    have hu4 := hu.below SntAt.keeps ((Below.refl _ _).alloc (Nat.le_refl _) (.cells #[.slice sA sL.length sc, .slice uA uL.length uc, .int .i64 o3, .int .i64 o4] 30))
    have HB := hide hb4
    have HX := hide hX4
    have HY := hide hY
    have HS := hide (And.intro hs4 hu4)
    clear hb3 hX3 hY hb4 hX4 hs4 hu4 hs hu
    go_upto_region 4 with fail
    generalize w3.alloc _ = w4 at *
    generalize w3.heap.size = y0 at *
    have x0 := HX.out.cell 0
    have x1 := HX.out.cell 1
    have x2 := HX.out.cell 2
    have x3 := HX.out.cell 3
    have x4 := HX.out.cell 4
    have x5 := HX.out.cell 5
    simp only [List.getElem?_toArray, List.getElem?_cons_zero, List.getElem?_cons_succ] at x0 x1 x2 x3 x4 x5
    go_wp2_with fail
    refine (DA.out _ HB.out).mono ?_
    rintro e w5 ⟨v, rfl, ho, h5⟩
    obtain ⟨⟨tA, tc, tL⟩, ⟨vA, vc, vL⟩, rfl, htL, hvL, ht, hv⟩ := out_at ho OZ.out
    simp only at htL hvL
    subst htL
    subst hvL
    have hb5 := below_after HB.out h5
    have hY5 := HY.out.below h5 HY.out.lt
    have hs5 := HS.out.1.below IntAt.keeps h5
    have hu5 := HS.out.2.below SntAt.keeps h5
    clear ho h5 HB HX HY HS x0 x1 x2 x3 x4 x5
    simp only [Sl.val]
    have hA := (Below.refl w5.heap.size w5).alloc (Nat.le_refl _) (.cells #[.slice tA tL.length tc, .slice vA vL.length vc, .int .i64 o3, .int .i64 o4] 30)
    have hZ := Blk.new w5 30 #[.slice tA tL.length tc, .slice vA vL.length vc, .int .i64 o3, .int .i64 o4]
    have hb6 := hb5.alloc hb5.size (.cells #[.slice tA tL.length tc, .slice vA vL.length vc, .int .i64 o3, .int .i64 o4] 30)
    have hY6 := hY5.alloc (.cells #[.slice tA tL.length tc, .slice vA vL.length vc, .int .i64 o3, .int .i64 o4] 30)
    have HS := hide (And.intro (hs5.below IntAt.keeps hA) (And.intro (hu5.below SntAt.keeps hA) (And.intro (ht.below IntAt.keeps hA) (hv.below SntAt.keeps hA))))
    have HB := hide hb6
    have HY := hide hY6
    have HZ := hide hZ
    clear hb5 hY5 hs5 hu5 hA hZ hb6 hY6 ht hv
    go_upto_region 5 with fail
    generalize w5.alloc _ = w6 at *
    generalize w5.heap.size = z0 at *
    go_wp2_with fail
    refine (awake07 _).mono ?_
    rintro e w7 ⟨rfl, h7⟩
    have hs7 := HS.out.1.below IntAt.keeps h7
    have hu7 := HS.out.2.1.below SntAt.keeps h7
    have ht7 := HS.out.2.2.1.below IntAt.keeps h7
    have hv7 := HS.out.2.2.2.below SntAt.keeps h7
    have SA := hide (rsame_self w7 ⟨sA, sc, _⟩ ⟨tA, tc, _⟩ ⟨uA, uc, _⟩ ⟨vA, vc, _⟩ o3 o4 hs7 ht7 hu7 hv7 rfl rfl)
    unfold Sl.val at SA
    have hY7 := HY.out.below h7 HY.out.lt
    have hZ7 := HZ.out.below h7 HZ.out.lt
    have HE := hide (below_after HB.out h7)
    clear HS hs7 hu7 ht7 hv7 HB HY HZ h7
    have p0 := hY7.cell 0
    have p1 := hY7.cell 1
    have p2 := hY7.cell 2
    have p3 := hY7.cell 3
    have q0 := hZ7.cell 0
    have q1 := hZ7.cell 1
    have q2 := hZ7.cell 2
    have q3 := hZ7.cell 3
    simp only [List.getElem?_toArray, List.getElem?_cons_zero, List.getElem?_cons_succ] at p0 p1 p2 p3 q0 q1 q2 q3
    have hVV : (V == V) = true := beq_self_eq_true V
    clear hY7 hZ7
    go_wp2_with fail
    refine SA.out.mono ?_
    rintro e w8 ⟨rfl, h8⟩
    have HE2 := hide (below_after HE.out h8)
    clear p0 p1 p2 p3 q0 q1 q2 q3 h8 HE SA hVV
    go_wp2_with fail
    go_ret
    exact ⟨rfl, HE2.out⟩
end Go.Proofs.Ytgohdpnlaedeiaa
