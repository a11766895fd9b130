/- Texts of this claim in one. No condition. -/
import Derived.Test.YtpfcmfannkbipaaJ51
import Derived.Test.YtpfcmfannkbipaaJ41
section
set_option linter.unusedVariables false
set_option linter.unusedSimpArgs false
set_option maxRecDepth 20000
namespace Go.Proofs.Ytpfcmfannkbipaa
open Go.RowKit Go.Deep Go.Maps

attribute [local go_sem] run_store_float
set_option maxHeartbeats 1000000 in
theorem none09_walk (n lp : Int) (w : World) : Calls Try.prog 18 #[.int .i64 n, .int .i64 lp] w fun e w' => e = .returned (.bool true) ∧ Below w.heap.size w w' := by
  have hd := dn0_run (0, 0, 0, 0, 0, 0) (0, 0, 0, 0, 0, 0)
  simp only [decide_true] at hd
  go_enter Try.func18, Try.ntmps18
  go_wp2_with fail
  refine (stepnil_any _).mono ?_
  rintro e w1 ⟨rfl, hb1⟩
  have hX := Blk.new w1 39 #[.float .f64 0, .int .i64 0, .int .i64 0, .int .i64 0, .int .i64 0, .int .i64 0]
  have hb2 := (Below.refl w1.heap.size w1).alloc (Nat.le_refl _) (.cells #[.float .f64 0, .int .i64 0, .int .i64 0, .int .i64 0, .int .i64 0, .int .i64 0] 39)
  have HB2 := hide (below_after hb1 hb2)
  have HX := hide hX
  clear hX hb1 hb2
  unfold stepNone
  have hz0 : I64 0 := ⟨by decide, by decide⟩
  have HSM := hide (fun W => rsame8_any ⟨⟨none, 0, []⟩, 0, 0⟩ ⟨⟨none, 0, []⟩, 0, 0⟩ W ⟨⟨fun i x hx => by simp at hx, Nat.le_refl _, Nat.zero_le _⟩, hz0, hz0⟩ ⟨⟨fun i x hx => by simp at hx, Nat.le_refl _, Nat.zero_le _⟩, hz0, hz0⟩)
  rw [show sameP (St.pl ⟨⟨none, 0, []⟩, 0, 0⟩) (St.pl ⟨⟨none, 0, []⟩, 0, 0⟩) = true by decide] at HSM
  unfold St.val Sl.val at HSM
  simp only [List.length_nil] at HSM
  rcases (by omega : 100 < n ∨ ¬ 100 < n) with hn | hn
  all_goals
    go_upto_region 5 with fail
    generalize World.alloc w1 _ = w2 at *
    generalize w1.heap.size = gx at *
    go_wp2_with fail
    refine (awake09 _).mono ?_
    rintro e w3 ⟨rfl, hb3⟩
    have hX3 := HX.out.below hb3 HX.out.lt
    have x0 := hX3.cell 0
    have x1 := hX3.cell 1
    have x2 := hX3.cell 2
    have x3 := hX3.cell 3
    have x4 := hX3.cell 4
    have x5 := hX3.cell 5
    simp only [List.getElem?_toArray, List.getElem?_cons_zero, List.getElem?_cons_succ] at x0 x1 x2 x3 x4 x5
    have HB3 := hide (below_after HB2.out hb3)
    clear hX3 hb3 HX HB2
    go_wp2_with fail
    refine (runnil_any _ _).mono ?_
    rintro e w4 ⟨rfl, hb4⟩
    have HB4 := hide (below_after HB3.out hb4)
    clear hb4 HB3 x0 x1 x2 x3 x4 x5 hd
    go_wp2_with fail
    refine (statenil_any _ _).mono ?_
    rintro e w5 ⟨rfl, hb5⟩
    have HB5 := hide (below_after HB4.out hb5)
    clear hb5 HB4
    go_wp2_with fail
    refine (HSM.out _).mono ?_
    rintro e w6 ⟨rfl, hb6⟩
    have HB6 := hide (below_after HB5.out hb6)
    clear hb6 HB5
    go_wp2_with fail
    refine (waitingnil_any _).mono ?_
    rintro e w7 ⟨rfl, rfl⟩
    go_wp2_with fail
    refine (handlednil_any _).mono ?_
    rintro e w7 ⟨rfl, rfl⟩
    go_wp2_with fail
    go_ret
    exact ⟨rfl, HB6.out⟩
end Go.Proofs.Ytpfcmfannkbipaa
end
