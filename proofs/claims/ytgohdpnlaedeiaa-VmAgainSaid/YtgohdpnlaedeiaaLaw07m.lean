/- The walk of law07's must. No condition. -/
import Derived.Test.YtgohdpnlaedeiaaLaw07b
set_option linter.unusedVariables false
set_option linter.unusedSimpArgs false
set_option maxRecDepth 20000
namespace Go.Proofs.Ytgohdpnlaedeiaa
open Go.RowKit Go.Deep

set_option maxHeartbeats 4000000 in
theorem must_any (w : World) (p : Sl Ins4) (i : Inp) (hp : p.At InsAt 4 w) (hi : i.At w) :
    Calls Try.prog 14 #[p.val, i.val] w fun e w' => ∃ v, e = .returned v ∧ OutAt w' w.heap.size v (outV p.L i.wd.L i.pay i.me i.lps i.seed i.dice) ∧ Below w.heap.size w w' := by
  have hR := (Blk.new (w.alloc (.cells i.cells 25)) 30 #[.slice none 0 0, .slice none 0 0, .int .i64 0, .int .i64 0])
  have hX := (Blk.new w 25 i.cells).alloc (.cells #[.slice none 0 0, .slice none 0 0, .int .i64 0, .int .i64 0] 30)
  have hz : (w.alloc (.cells i.cells 25)).heap.size = w.heap.size + 1 := Array.size_push ..
  have hb : Below w.heap.size w ((w.alloc (.cells i.cells 25)).alloc (.cells #[.slice none 0 0, .slice none 0 0, .int .i64 0, .int .i64 0] 30)) := ((Below.refl _ _).alloc (Nat.le_refl _) _).alloc (by rw [hz]; omega) _
  rw [hz] at hR
  clear hz
  have HC := hide (show i.cells = #[.slice i.wd.A i.wd.L.length i.wd.c, .int .i64 i.pay, .int .i64 i.me, .int .i64 i.lps, .int .i64 i.seed, .int .i64 i.dice] from rfl)
  have DA := hide (rdo_any _ p i (hp.below InsAt.keeps hb) (hi.below hb))
  have HX := hide hX
  have HR := hide hR
  have HB := hide hb
  clear hX hR hb hp hi
  unfold Inp.val at *
  generalize hcs : i.cells = cs at *
  obtain rfl := HC.out
  clear hcs HC
  unfold Sl.val at *
  generalize vmay p.L i.wd.L.length = V at *
  generalize outV p.L i.wd.L i.pay i.me i.lps i.seed i.dice = O at *
  obtain ⟨o1, o2, o3, o4⟩ := O
  go_enter Try.func14, Try.ntmps14
  go_upto_region 1 with fail
  generalize (w.alloc _).alloc _ = w1 at *
  have x0 := HX.out.cell 0
  have x1 := HX.out.cell 1
  have x2 := HX.out.cell 2
  have x3 := HX.out.cell 3
  have x4 := HX.out.cell 4
  have x5 := HX.out.cell 5
  simp only [List.getElem?_toArray, List.getElem?_cons_zero, List.getElem?_cons_succ] at x0 x1 x2 x3 x4 x5
  go_wp2_with fail
  refine DA.out.mono ?_
  rintro e w2 ⟨v, rfl, ⟨A, n, A', n', rfl, h1, h2⟩, h3⟩
  clear x0 x1 x2 x3 x4 x5 DA
  simp only at h1 h2
  have hb2 := below_after HB.out h3
  have hR2 := HR.out.below h3 HR.out.lt
  have hY := Blk.new w2 30 #[.slice A o1.length n, .slice A' o2.length n', .int .i64 o3, .int .i64 o4]
  have HR3 := hide (hR2.alloc (.cells #[.slice A o1.length n, .slice A' o2.length n', .int .i64 o3, .int .i64 o4] 30))
  have HB3 := hide (hb2.alloc hb2.size (.cells #[.slice A o1.length n, .slice A' o2.length n', .int .i64 o3, .int .i64 o4] 30))
  have HO := hide (And.intro (h1.alloc (.cells #[.slice A o1.length n, .slice A' o2.length n', .int .i64 o3, .int .i64 o4] 30)) (h2.alloc (.cells #[.slice A o1.length n, .slice A' o2.length n', .int .i64 o3, .int .i64 o4] 30)))
  have HZ := hide HB.out.size
  clear h1 h2 h3 hb2 hR2 HB HR HX
  go_upto_region 2 with fail
  generalize w2.alloc _ = w3 at *
  generalize w2.heap.size = y at *
  have y0 := hY.cell 0
  have y1 := hY.cell 1
  have y2 := hY.cell 2
  have y3 := hY.cell 3
  have r0 := HR3.out.cell 0
  have r1 := HR3.out.cell 1
  have r2 := HR3.out.cell 2
  have r3 := HR3.out.cell 3
  have f0 := HR3.out.frozen 0
  have f1 := HR3.out.frozen 1
  have f2 := HR3.out.frozen 2
  have f3 := HR3.out.frozen 3
  simp only [List.getElem?_toArray, List.getElem?_cons_zero, List.getElem?_cons_succ] at y0 y1 y2 y3 r0 r1 r2 r3
  clear hY
  go_wp2_with fail
  clear y0 y1 y2 y3 r0 r1 r2 r3 f0 f1 f2 f3
  have hZ := (((HR3.out.set_ 0 (.slice A o1.length n)).set_ 1 (.slice A' o2.length n')).set_ 2 (.int .i64 o3)).set_ 3 (.int .i64 o4)
  have bZ := ((((HB3.out.setCell (p := ⟨w.heap.size + 1, 0, none⟩) (by simp only; omega) (.slice A o1.length n)).setCell (p := ⟨w.heap.size + 1, 1, none⟩) (by simp only; omega) (.slice A' o2.length n')).setCell (p := ⟨w.heap.size + 1, 2, none⟩) (by simp only; omega) (.int .i64 o3)).setCell (p := ⟨w.heap.size + 1, 3, none⟩) (by simp only; omega) (.int .i64 o4))
  have oW := outs_kept HR3.out HO.out.1 (by decide) (.slice A o1.length n) (.slice A' o2.length n') (.int .i64 o3) (.int .i64 o4)
  have oS := outs_kept HR3.out HO.out.2 (by decide) (.slice A o1.length n) (.slice A' o2.length n') (.int .i64 o3) (.int .i64 o4)
  generalize (((w3.setCell ⟨w.heap.size + 1, 0, none⟩ (.slice A o1.length n)).setCell ⟨w.heap.size + 1, 1, none⟩ (.slice A' o2.length n')).setCell ⟨w.heap.size + 1, 2, none⟩ (.int .i64 o3)).setCell ⟨w.heap.size + 1, 3, none⟩ (.int .i64 o4) = wZ at *
  have q0 := hZ.cell 0
  have q1 := hZ.cell 1
  have q2 := hZ.cell 2
  have q3 := hZ.cell 3
  simp only [List.setIfInBounds_toArray, List.set_cons_zero, List.set_cons_succ, List.getElem?_toArray, List.getElem?_cons_zero, List.getElem?_cons_succ] at q0 q1 q2 q3
  refine bodyPost_ret (v := .agg #[.slice A o1.length n, .slice A' o2.length n', .int .i64 o3, .int .i64 o4]) (by simp [results, Try.results14, go_sem, q0, q1, q2, q3]) rfl ⟨_, rfl, ⟨A, n, A', n', rfl, oW.lower HZ.out, oS.lower HZ.out⟩, bZ⟩
end Go.Proofs.Ytgohdpnlaedeiaa
