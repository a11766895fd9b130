/- The walk of the law ModelioOnce: what was got is put as the very bytes. No condition. Printed by wip/tools/law06.py. -/
import Derived.Test.YtegegljpmelomaaLaw06
set_option linter.unusedVariables false
set_option linter.unusedSimpArgs false
set_option maxRecDepth 20000
namespace Go.Proofs.Ytegegljpmelomaa
open Go.RowKit Go.Deep
attribute [local go_sem] run_store_float
theorem get_no {s : ByteArray} (h : getE s ≠ 0) : getM s = emptyM := by
  unfold getE at h
  unfold getM
  cases hp : Mio.pM (wordsOf s) with
  | error e => rfl
  | ok q =>
    obtain ⟨m, r⟩ := q
    rw [hp] at h
    simp only at h ⊢
    split at h
    · rename_i hc
      rw [if_pos hc]
    · rename_i hc
      rw [if_neg hc]
      split at h
      · exact absurd rfl h
      · rename_i hk
        rw [if_neg hk]
theorem once6_long (s : ByteArray) (w : World) (hs : ¬ s.size ≤ 9000) (hm : s.size ≤ 9223372036854775807) : Calls Try.prog 11 #[.string s] w fun e w' => e = .returned (.bool true) ∧ Below w.heap.size w w' := by
  have k0 : (9000 : Int) < (s.size : Int) := by omega
  go_enter Try.func11, Try.ntmps11
  go_wp2_with (go_at_call 23; refine (awake06 _).mono ?_; rintro e wA ⟨rfl, hbA⟩)
  go_ret
  exact ⟨rfl, hbA⟩
set_option maxHeartbeats 1000000 in
theorem once6_none (s : ByteArray) (w : World) (hs : s.size ≤ 9000) (he : getE s ≠ 0) : Calls Try.prog 11 #[.string s] w fun e w' => e = .returned (.bool true) ∧ Below w.heap.size w w' := by
  have hget : ∀ W, Calls Try.prog 26 #[.string s] W fun e w' => ∃ c : Mdl, e = .returned (.tuple #[c.val, .int .i64 (getE s)]) ∧ c.At w' ∧ sameB c noMdl = true ∧ Below W.heap.size W w' := fun W => by
    have := get_any s W (by omega)
    unfold GotRd at this
    rw [get_no he] at this
    exact this.mono fun e w' ⟨c, h1, h2, h3, h4⟩ => ⟨c, h1, h2, sameB_con (con_of_mod (h3.trans noMdl_mod.symm)), h4⟩
  generalize getE s = E at *
  have k0 : ¬ (9000 : Int) < (s.size : Int) := by omega
  go_enter Try.func11, Try.ntmps11
  go_wp2_with fail
  refine (hget _).mono ?_
  rintro e w1 ⟨⟨xs, xf, ⟨xdA, xdc, xdl⟩, ⟨xpA, xpc, xpl⟩, ⟨xlA, xlc, xll⟩, ⟨xiA, xic, xil⟩⟩, rfl, hxa, hxm, hb1⟩
  have HXS := hide hxm
  clear hxm hget
  simp only [Mdl.val, Sl.val]
  go_upto_region 4 with fail
  have hbx := (Below.refl w1.heap.size w1).alloc (Nat.le_refl _) (.cells #[.int .i64 xs, .float .f64 xf, .slice xdA xdl.length xdc, .slice xpA xpl.length xpc, .slice xlA xll.length xlc, .slice xiA xil.length xic] 28)
  have HB2 := hide (below_after hb1 hbx)
  have HXA2 := hide (hxa.below hbx)
  have HY2 := hide (Blk.new w1 28 #[.int .i64 xs, .float .f64 xf, .slice xdA xdl.length xdc, .slice xpA xpl.length xpc, .slice xlA xll.length xlc, .slice xiA xil.length xic])
  clear hbx hb1 hxa
  generalize w1.alloc (.cells #[.int .i64 xs, .float .f64 xf, .slice xdA xdl.length xdc, .slice xpA xpl.length xpc, .slice xlA xll.length xlc, .slice xiA xil.length xic] 28) = w2 at *
  generalize w1.heap.size = gx at *
  go_wp2_with fail
  refine (awake06 _).mono ?_
  rintro e w3 ⟨rfl, hb3⟩
  have HB3 := hide (below_after HB2.out hb3)
  have HXA3 := hide (HXA2.out.below hb3)
  have HY3 := hide (HY2.out.below hb3 HY2.out.lt)
  clear hb3 HB2 HXA2 HY2
  have j0 := HY3.out.cell 0
  have j1 := HY3.out.cell 1
  have j2 := HY3.out.cell 2
  have j3 := HY3.out.cell 3
  have j4 := HY3.out.cell 4
  have j5 := HY3.out.cell 5
  simp only [List.getElem?_toArray, List.getElem?_cons_zero, List.getElem?_cons_succ] at j0 j1 j2 j3 j4 j5
  have hsm := rsame_any ⟨xs, xf, ⟨xdA, xdc, xdl⟩, ⟨xpA, xpc, xpl⟩, ⟨xlA, xlc, xll⟩, ⟨xiA, xic, xil⟩⟩ noMdl w3 HXA3.out (noMdl_at w3)
  rw [HXS.out] at hsm
  simp only [Mdl.val, noMdl, Sl.val, List.length_nil] at hsm
  go_wp2_with fail
  refine hsm.mono ?_
  rintro e w4 ⟨rfl, hb4⟩
  clear hsm j0 j1 j2 j3 j4 j5
  go_wp2_with fail
  go_ret
  exact ⟨by simp, below_after HB3.out hb4⟩
set_option maxHeartbeats 1000000 in
theorem once6_some (s : ByteArray) (w : World) (hs : s.size ≤ 9000) (he : getE s = 0) : Calls Try.prog 11 #[.string s] w fun e w' => e = .returned (.bool true) ∧ Below w.heap.size w w' := by
  obtain ⟨h1, h2⟩ := get_put he
  have hget : ∀ W, Calls Try.prog 26 #[.string s] W fun e w' => ∃ c : Mdl, e = .returned (.tuple #[c.val, .int .i64 0]) ∧ c.At w' ∧ (chkE c = 0 ∧ putR c = s) ∧ Below W.heap.size W w' := fun W => by
    have := get_any s W (by omega)
    unfold GotRd at this
    rw [he] at this
    refine this.mono fun e w' ⟨c, h3, h4, h5, h6⟩ => ⟨c, h3, h4, ?_, h6⟩
    have hc : chkB c = true := by rw [chk_mod, h5]; exact h1
    refine ⟨by unfold chkE; rw [if_pos hc], ?_⟩
    unfold putR
    rw [if_pos hc, h5]
    exact h2
  clear h1 h2 he
  have k0 : ¬ (9000 : Int) < (s.size : Int) := by omega
  go_enter Try.func11, Try.ntmps11
  go_wp2_with fail
  refine (hget _).mono ?_
  rintro e w1 ⟨⟨xs, xf, ⟨xdA, xdc, xdl⟩, ⟨xpA, xpc, xpl⟩, ⟨xlA, xlc, xll⟩, ⟨xiA, xic, xil⟩⟩, rfl, hxa, hxm, hb1⟩
  have hput := fun W hW => put_any ⟨xs, xf, ⟨xdA, xdc, xdl⟩, ⟨xpA, xpc, xpl⟩, ⟨xlA, xlc, xll⟩, ⟨xiA, xic, xil⟩⟩ W hW
  rw [hxm.1, hxm.2] at hput
  clear hxm hget
  simp only [Mdl.val, Sl.val] at hput ⊢
  go_upto_region 4 with fail
  have hbx := (Below.refl w1.heap.size w1).alloc (Nat.le_refl _) (.cells #[.int .i64 xs, .float .f64 xf, .slice xdA xdl.length xdc, .slice xpA xpl.length xpc, .slice xlA xll.length xlc, .slice xiA xil.length xic] 28)
  have HB2 := hide (below_after hb1 hbx)
  have HXA2 := hide (hxa.below hbx)
  have HY2 := hide (Blk.new w1 28 #[.int .i64 xs, .float .f64 xf, .slice xdA xdl.length xdc, .slice xpA xpl.length xpc, .slice xlA xll.length xlc, .slice xiA xil.length xic])
  clear hbx hb1 hxa
  have j0 := HY2.out.cell 0
  have j1 := HY2.out.cell 1
  have j2 := HY2.out.cell 2
  have j3 := HY2.out.cell 3
  have j4 := HY2.out.cell 4
  have j5 := HY2.out.cell 5
  simp only [List.getElem?_toArray, List.getElem?_cons_zero, List.getElem?_cons_succ] at j0 j1 j2 j3 j4 j5
  generalize w1.alloc (.cells #[.int .i64 xs, .float .f64 xf, .slice xdA xdl.length xdc, .slice xpA xpl.length xpc, .slice xlA xll.length xlc, .slice xiA xil.length xic] 28) = w2 at *
  generalize w1.heap.size = gx at *
  go_wp2_with fail
  refine (hput _ HXA2.out).mono ?_
  rintro e w3 ⟨rfl, hb3⟩
  have HB3 := hide (below_after HB2.out hb3)
  clear hput hb3 HB2 j0 j1 j2 j3 j4 j5
  go_wp2_with (go_at_call 23; refine (awake06 _).mono ?_; rintro e wA ⟨rfl, hbA⟩)
  go_ret
  exact ⟨by simp, below_after HB3.out hbA⟩
theorem once6_walk (s : ByteArray) (w : World) (hm : s.size ≤ 9223372036854775807) : Calls Try.prog 11 #[.string s] w fun e w' => e = .returned (.bool true) ∧ Below w.heap.size w w' := by
  by_cases hs : s.size ≤ 9000
  · by_cases he : getE s = 0
    · exact once6_some s w hs he
    · exact once6_none s w hs he
  · exact once6_long s w hs hm
end Go.Proofs.Ytegegljpmelomaa
