/- The walk of the law ModelioGets: what any bytes are. No condition. Printed by wip/tools/law06.py. -/
import Derived.Test.YtegegljpmelomaaLaw06
import Derived.Test.YtegegljpmelomaaRMg6
set_option linter.unusedVariables false
set_option linter.unusedSimpArgs false
set_option maxRecDepth 20000
namespace Go.Proofs.Ytegegljpmelomaa
open Go.RowKit Go.Deep
attribute [local go_sem] run_store_float
theorem gets6_long (s : ByteArray) (w : World) (hs : ¬ s.size ≤ 9000) (hm : s.size ≤ 9223372036854775807) : Calls Try.prog 9 #[.string s] w fun e w' => e = .returned (.bool true) ∧ Below w.heap.size w w' := by
  have k0 : (9000 : Int) < (s.size : Int) := by omega
  go_enter Try.func9, Try.ntmps9
  go_wp2_with (go_at_call 23; refine (awake06 _).mono ?_; rintro e wA ⟨rfl, hbA⟩)
  go_ret
  exact ⟨rfl, hbA⟩
set_option maxHeartbeats 1000000 in
theorem gets6_some (s : ByteArray) (w : World) (hs : s.size ≤ 9000) : Calls Try.prog 9 #[.string s] w fun e w' => e = .returned (.bool true) ∧ Below w.heap.size w w' := by
  have hget : ∀ W, Calls Try.prog 26 #[.string s] W fun e w' => ∃ c : Mdl, e = .returned (.tuple #[c.val, .int .i64 (getE s)]) ∧ c.At w' ∧ modOf c = getM s ∧ Below W.heap.size W w' := fun W => get_any s W (by omega)
  have hrget : ∀ W, Calls Try.prog 27 #[.string s] W fun e w' => ∃ c : Mdl, e = .returned (.tuple #[c.val, .int .i64 (getE s)]) ∧ c.At w' ∧ modOf c = getM s ∧ Below W.heap.size W w' := fun W => rget_any s W (by omega)
  generalize getE s = E at *
  generalize getM s = M0 at *
  have k0 : ¬ (9000 : Int) < (s.size : Int) := by omega
  go_enter Try.func9, Try.ntmps9
  go_wp2_with fail
  refine (hget _).mono ?_
  rintro e w1 ⟨⟨xs, xf, ⟨xdA, xdc, xdl⟩, ⟨xpA, xpc, xpl⟩, ⟨xlA, xlc, xll⟩, ⟨xiA, xic, xil⟩⟩, rfl, hxa, hxm, hb1⟩
  have HXS := hide hxm
  clear hxm hget
  simp only [Mdl.val, Sl.val]
  go_upto_region 4 with fail
  have hbx := (Below.refl w1.heap.size w1).alloc (Nat.le_refl _) (.cells #[.int .i64 xs, .float .f64 xf, .slice xdA xdl.length xdc, .slice xpA xpl.length xpc, .slice xlA xll.length xlc, .slice xiA xil.length xic] 28)
  have HB2 := hide (below_after hb1 hbx)
  have HXA2 := hide (hxa.below hbx)
  have HY2 := hide (Blk.new w1 28 #[.int .i64 xs, .float .f64 xf, .slice xdA xdl.length xdc, .slice xpA xpl.length xpc, .slice xlA xll.length xlc, .slice xiA xil.length xic])
  clear hbx hb1 hxa
  generalize w1.alloc (.cells #[.int .i64 xs, .float .f64 xf, .slice xdA xdl.length xdc, .slice xpA xpl.length xpc, .slice xlA xll.length xlc, .slice xiA xil.length xic] 28) = w2 at *
  generalize w1.heap.size = gx at *
  go_wp2_with fail
  refine (hrget _).mono ?_
  rintro e w3 ⟨⟨ys, yf, ⟨ydA, ydc, ydl⟩, ⟨ypA, ypc, ypl⟩, ⟨ylA, ylc, yll⟩, ⟨yiA, yic, yil⟩⟩, rfl, hya, hym, hb3⟩
  have HYS := hide hym
  clear hym hrget
  simp only [Mdl.val, Sl.val]
  go_upto_region 5 with fail
  have hbx := (Below.refl w3.heap.size w3).alloc (Nat.le_refl _) (.cells #[.int .i64 ys, .float .f64 yf, .slice ydA ydl.length ydc, .slice ypA ypl.length ypc, .slice ylA yll.length ylc, .slice yiA yil.length yic] 28)
  have HT := hide (show TwoC w gx w3.heap.size ⟨xs, xf, ⟨xdA, xdc, xdl⟩, ⟨xpA, xpc, xpl⟩, ⟨xlA, xlc, xll⟩, ⟨xiA, xic, xil⟩⟩ ⟨ys, yf, ⟨ydA, ydc, ydl⟩, ⟨ypA, ypc, ypl⟩, ⟨ylA, ylc, yll⟩, ⟨yiA, yic, yil⟩⟩ (w3.alloc (.cells #[.int .i64 ys, .float .f64 yf, .slice ydA ydl.length ydc, .slice ypA ypl.length ypc, .slice ylA yll.length ylc, .slice yiA yil.length yic] 28)) from
    ⟨below_after (below_after HB2.out hb3) hbx, (HY2.out.below hb3 HY2.out.lt).below hbx (HY2.out.below hb3 HY2.out.lt).lt, Blk.new w3 _ _, (HXA2.out.below hb3).below hbx, hya.below hbx⟩)
  clear hbx hb3 hya HB2 HXA2 HY2
  generalize w3.alloc (.cells #[.int .i64 ys, .float .f64 yf, .slice ydA ydl.length ydc, .slice ypA ypl.length ypc, .slice ylA yll.length ylc, .slice yiA yil.length yic] 28) = w4 at *
  generalize w3.heap.size = gy at *
  go_wp2_with fail
  refine (awake06 _).mono ?_
  rintro e w5 ⟨rfl, hb5⟩
  have HT := hide (TwoC.out _ _ _ _ _ _ _ HT.out hb5)
  clear hb5
  have k0 := HT.out.x.cell 0
  have j0 := HT.out.y.cell 0
  have k1 := HT.out.x.cell 1
  have j1 := HT.out.y.cell 1
  have k2 := HT.out.x.cell 2
  have j2 := HT.out.y.cell 2
  have k3 := HT.out.x.cell 3
  have j3 := HT.out.y.cell 3
  have k4 := HT.out.x.cell 4
  have j4 := HT.out.y.cell 4
  have k5 := HT.out.x.cell 5
  have j5 := HT.out.y.cell 5
  simp only [Sl.val, List.getElem?_toArray, List.getElem?_cons_zero, List.getElem?_cons_succ] at k0 k1 k2 k3 k4 k5 j0 j1 j2 j3 j4 j5
  have hsm := rsame_any ⟨xs, xf, ⟨xdA, xdc, xdl⟩, ⟨xpA, xpc, xpl⟩, ⟨xlA, xlc, xll⟩, ⟨xiA, xic, xil⟩⟩ ⟨ys, yf, ⟨ydA, ydc, ydl⟩, ⟨ypA, ypc, ypl⟩, ⟨ylA, ylc, yll⟩, ⟨yiA, yic, yil⟩⟩ w5 HT.out.a HT.out.a'
  rw [sameB_con (con_of_mod (HXS.out.trans HYS.out.symm))] at hsm
  simp only [Mdl.val, Sl.val] at hsm
  go_wp2_with fail
  refine hsm.mono ?_
  rintro e w6 ⟨rfl, hb6⟩
  clear hsm k0 k1 k2 k3 k4 k5 j0 j1 j2 j3 j4 j5
  go_wp2_with fail
  go_ret
  exact ⟨by simp, below_after HT.out.bel hb6⟩
theorem gets6_walk (s : ByteArray) (w : World) (hm : s.size ≤ 9223372036854775807) : Calls Try.prog 9 #[.string s] w fun e w' => e = .returned (.bool true) ∧ Below w.heap.size w w' := by
  by_cases hs : s.size ≤ 9000
  · exact gets6_some s w hs
  · exact gets6_long s w hs hm
end Go.Proofs.Ytegegljpmelomaa
