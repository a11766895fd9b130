/- The walk of law07's VmWhole. No condition. -/
import Derived.Test.YtgohdpnlaedeiaaLaw07b
set_option linter.unusedVariables false
set_option linter.unusedSimpArgs false
set_option maxRecDepth 20000
namespace Go.Proofs.Ytgohdpnlaedeiaa
open Go.RowKit Go.Deep

set_option maxHeartbeats 4000000 in
theorem whole_walk (w : World) (p : Sl Ins4) (i : Inp) (hp : p.At InsAt 4 w) (hi : i.At w) : Calls Try.prog 4 #[p.val, i.val] w fun e w' => e = .returned (.bool true) ∧ Below w.heap.size w w' := by
  have hX := Blk.new w 25 i.cells
  have hb : Below w.heap.size w (w.alloc (.cells i.cells 25)) := (Below.refl _ _).alloc (Nat.le_refl _) _
  have hF := few_any (w.alloc (.cells i.cells 25)) p i hp.2.1 hp.2.2
  have HF := hide hF
  have HX := hide hX
  have HB := hide hb
  have HI := hide (And.intro hp hi)
  clear hF hX hb hp hi
  have HC := hide (show i.cells = #[.slice i.wd.A i.wd.L.length i.wd.c, .int .i64 i.pay, .int .i64 i.me, .int .i64 i.lps, .int .i64 i.seed, .int .i64 i.dice] from rfl)
  unfold Inp.val at *
  generalize hcs : i.cells = cs at *
  obtain rfl := HC.out
  clear hcs HC
  unfold Sl.val at *
  go_enter Try.func4, Try.ntmps4
  go_upto_region 1 with fail
  generalize w.alloc _ = w1 at *
  have x0 := HX.out.cell 0
  have x1 := HX.out.cell 1
  have x2 := HX.out.cell 2
  have x3 := HX.out.cell 3
  have x4 := HX.out.cell 4
  have x5 := HX.out.cell 5
  simp only [List.getElem?_toArray, List.getElem?_cons_zero, List.getElem?_cons_succ] at x0 x1 x2 x3 x4 x5
  go_wp2_with fail
  refine HF.out.mono ?_
  rintro e w2 ⟨rfl, h2⟩
  have hb2 := below_after HB.out h2
  have hX2 := HX.out.below h2 HX.out.lt
  clear HF HB HX h2 x0 x1 x2 x3 x4 x5
  cases hfw : (decide (p.L.length ≤ 100) && decide (i.wd.L.length ≤ 60))
  · have HB := hide hb2
    clear hfw hb2 hX2
    go_wp2_with fail
    refine (awake07 _).mono ?_
    rintro e w3 ⟨rfl, h3⟩
    have HE := hide (below_after HB.out h3)
    clear h3 HB
    go_wp2_with fail
    go_ret
    exact ⟨rfl, HE.out⟩
  · clear hfw
    have HX := hide hX2
    have HB := hide hb2
    clear hX2 hb2
    have x0 := HX.out.cell 0
    have x1 := HX.out.cell 1
    have x2 := HX.out.cell 2
    have x3 := HX.out.cell 3
    have x4 := HX.out.cell 4
    have x5 := HX.out.cell 5
    simp only [List.getElem?_toArray, List.getElem?_cons_zero, List.getElem?_cons_succ] at x0 x1 x2 x3 x4 x5
    have RA := hide fun (W : World) (h : Below w.heap.size w W) => run_any W p i (HI.out.1.below InsAt.keeps h) (HI.out.2.below h)
    unfold Inp.val Inp.cells Sl.val at RA
    obtain ⟨V, hV⟩ : ∃ V, vmay p.L i.wd.L.length = V := ⟨_, rfl⟩
    obtain ⟨O, hO⟩ : ∃ O, outV p.L i.wd.L i.pay i.me i.lps i.seed i.dice = O := ⟨_, rfl⟩
    rw [hV, hO] at RA
    have HV := hide hV
    have HO := hide hO
    clear hV hO
    go_upto_region 3 with fail
    go_wp2_with fail
    refine (RA.out _ HB.out).mono ?_
    rintro e w3 ⟨v, rfl, ⟨A, c, A', c', rfl, ho, ho2⟩, h3⟩
    have hb3 := below_after HB.out h3
    have hX3 := HX.out.below h3 HX.out.lt
    clear h3 HB RA x0 x1 x2 x3 x4 x5
    by_cases h0 : V = 0
    · subst h0
      have HVo := hide (vmay_ok HV.out)
      obtain ⟨R, hR⟩ : ∃ R, vall p.L i.wd.L i.pay i.me i.lps i.seed i.dice = R := ⟨_, rfl⟩
      have hk := vrun_ok (W := wordI i.seed i.me) (lps := i.lps) (nw := i.wd.L.length) (ins_ok HI.out.1 HVo.out.2.2.1) 120 (vbeg i.wd.L i.pay i.me i.lps i.dice) (vbeg_ok (sl_ints HI.out.2.wd) HVo.out.2.2.2 HI.out.2.pay HI.out.2.me HI.out.2.lps HI.out.2.dice)
      have hr := hR
      unfold vall at hr
      rw [hr] at hk
      clear hr
      obtain ⟨kOk, k0, k6, _⟩ := hk
      obtain ⟨t, F⟩ := R
      simp only at kOk k0 k6
      by_cases hf : F = 0
      · subst hf
        have e1 : O = (t.w, t.s, t.d, 0) := by rw [← HO.out]; exact (if_pos HV.out).trans (by rw [hR]; exact if_pos rfl)
        subst e1
        clear hR HO k0 k6
        simp only at ho ho2
        obtain ⟨u, hu, huL, hsu⟩ := OwnR.at_ (d := SntAt) (enc := encSnt) (ok := fun _ _ => True) (size := 3) (by decide) (fun _ => rfl) makes_snt ho2 (fun _ _ => trivial)
        obtain ⟨uA, uc, uL⟩ := u
        simp only [Sl.val] at hu huL hsu
        subst huL
        injection hu with hA1 hA2 hA3
        subst hA1
        subst hA3
        simp only
        have hwl := kOk.wl
        have hs4 := kOk.s4
        have KS := hide kOk.si
        rw [hwl]
        have hA := (Below.refl w3.heap.size w3).alloc (Nat.le_refl _) (.cells #[.slice A i.wd.L.length c, .slice A' t.s.length c', .int .i64 t.d, .int .i64 0] 30)
        have HY := hide (Blk.new w3 30 #[.slice A i.wd.L.length c, .slice A' t.s.length c', .int .i64 t.d, .int .i64 0])
        have HB3 := hide (hb3.alloc hb3.size (.cells #[.slice A i.wd.L.length c, .slice A' t.s.length c', .int .i64 t.d, .int .i64 0] 30))
        have HX3 := hide (hX3.alloc (.cells #[.slice A i.wd.L.length c, .slice A' t.s.length c', .int .i64 t.d, .int .i64 0] 30))
        have HU := hide (hsu.below SntAt.keeps hA)
        have hlen := hsu.2
        simp only at hlen
        have hlps := HI.out.2.lps
        clear hb3 hX3 HX hA hsu ho ho2 kOk hwl
        go_upto_region 4 with fail
        generalize w3.alloc _ = w4 at *
        generalize w3.heap.size = yb at *
        have y0 := HY.out.cell 0
        have y1 := HY.out.cell 1
        have y2 := HY.out.cell 2
        have y3 := HY.out.cell 3
        simp only [List.getElem?_toArray, List.getElem?_cons_zero, List.getElem?_cons_succ] at y0 y1 y2 y3
        go_wp2_with fail
        clear y0 y1 y2 y3
        have hb4 := Below.refl w4.heap.size w4
        go_loopw [7] (fun k wr => ∃ j : Nat, j ≤ t.s.length ∧ k = .int .i64 j ∧ Below w4.heap.size w4 wr) (fun k _ => t.s.length - (intOf k).toNat)
        case atStart => exact ⟨0, Nat.zero_le _, rfl, hb4⟩
        case round =>
          clear hb4
          obtain ⟨j, hj, rfl, hbr⟩ := hrel
          have hYr := HY.out.below hbr HY.out.lt
          have hXr := HX3.out.below hbr HX3.out.lt
          have HBR := hide hbr
          have y1 := hYr.cell 1
          have x3 := hXr.cell 3
          simp only [List.getElem?_toArray, List.getElem?_cons_zero, List.getElem?_cons_succ] at y1 x3
          clear hYr hXr
          by_cases hlt : j < t.s.length
          · obtain ⟨a, ha, p0, p1, p2⟩ := (HU.out.below SntAt.keeps hbr).1 j _ (List.getElem?_eq_getElem hlt)
            simp only at ha
            subst ha
            obtain ⟨g0, g1, _, _⟩ := KS.out _ (List.getElem_mem hlt)
            have jI : (j : Int) < (t.s.length : Int) := by omega
            have jI0 : (0 : Int) ≤ (j : Int) := by omega
            generalize t.s[j] = z at *
            obtain ⟨z0, z1, z2⟩ := z
            simp only at p0 g0 g1
            have d0 : decide (z0 < 0) = false := decide_eq_false (by omega)
            have d1 : decide (i.lps ≤ z0) = false := decide_eq_false (by omega)
            have HG := hide (And.intro g0 g1)
            clear p1 p2 hbr
            go_wp2_with fail
            go_quiet (fail)
            have HBN := hide (below_drewN HBR.out nq)
            clear p0 y1 x3 HBR
            generalize wr.drewN nq = w5 at *
            go_wp2_with fail
            go_roundw
            case rel => exact ⟨j + 1, by omega, by go_num, HBN.out⟩
            case measure => simp [intOf]; omega
          · obtain rfl : j = t.s.length := by omega
            clear hlt hbr
            go_wp2_with fail
            refine (awake07 _).mono ?_
            rintro e w5 ⟨rfl, h5⟩
            have hbz := below_after HBR.out h5
            have HE := hide (HB3.out.trans (hbz.mono HB3.out.size))
            have hY5 := HY.out.below hbz HY.out.lt
            have hX5 := HX3.out.below hbz HX3.out.lt
            clear h5 y1 x3 hbz
            have y0 := hY5.cell 0
            have y1 := hY5.cell 1
            have x0 := hX5.cell 0
            simp only [List.getElem?_toArray, List.getElem?_cons_zero, List.getElem?_cons_succ] at y0 y1 x0
            have d4 : decide ((t.s.length : Int) ≤ 4) = true := decide_eq_true (by omega)
            clear hY5 hX5
            go_wp2_with fail
            go_ret
            exact ⟨rfl, HE.out⟩
      · have e1 : O = ([], [], 0, F) := by rw [← HO.out]; exact (if_pos HV.out).trans (by rw [hR]; exact if_neg hf)
        subst e1
        clear hR HO ho ho2 kOk
        simp only [List.length_nil]
        have hfb : (F != 0) = true := by rw [bne_iff_ne]; exact hf
        have d1 : decide (1 ≤ F) = true := decide_eq_true (by omega)
        have d6 : decide (F ≤ 6) = true := decide_eq_true (by omega)
        have hF1 : 1 ≤ F := by omega
        clear hf k0
        have HY := hide (Blk.new w3 30 #[.slice A 0 c, .slice A' 0 c', .int .i64 0, .int .i64 F])
        have HB3 := hide (hb3.alloc hb3.size (.cells #[.slice A 0 c, .slice A' 0 c', .int .i64 0, .int .i64 F] 30))
        clear hb3 hX3 HX
        go_upto_region 4 with fail
        generalize w3.alloc _ = w4 at *
        generalize w3.heap.size = yb at *
        have y0 := HY.out.cell 0
        have y1 := HY.out.cell 1
        have y2 := HY.out.cell 2
        have y3 := HY.out.cell 3
        simp only [List.getElem?_toArray, List.getElem?_cons_zero, List.getElem?_cons_succ] at y0 y1 y2 y3
        go_wp2_with fail
        refine (awake07 _).mono ?_
        rintro e w5 ⟨rfl, h5⟩
        have HE := hide (below_after HB3.out h5)
        replace HY := hide (HY.out.below h5 HY.out.lt)
        clear h5 HB3 y0 y1 y2 y3
        have y0 := HY.out.cell 0
        have y1 := HY.out.cell 1
        have y2 := HY.out.cell 2
        have y3 := HY.out.cell 3
        simp only [List.getElem?_toArray, List.getElem?_cons_zero, List.getElem?_cons_succ] at y0 y1 y2 y3
        go_wp2_with fail
        go_ret
        exact ⟨rfl, HE.out⟩
    · have e1 : O = ([], [], 0, 0) := by rw [← HO.out]; exact if_neg (by rw [HV.out]; exact h0)
      subst e1
      clear HO ho ho2
      simp only [List.length_nil]
      have hVb : (V != 0) = true := by rw [bne_iff_ne]; exact h0
      clear h0 HV
      have HY := hide (Blk.new w3 30 #[.slice A 0 c, .slice A' 0 c', .int .i64 0, .int .i64 0])
      have HB3 := hide (hb3.alloc hb3.size (.cells #[.slice A 0 c, .slice A' 0 c', .int .i64 0, .int .i64 0] 30))
      clear hb3 hX3 HX
      go_upto_region 4 with fail
      generalize w3.alloc _ = w4 at *
      generalize w3.heap.size = yb at *
      have y0 := HY.out.cell 0
      have y1 := HY.out.cell 1
      have y2 := HY.out.cell 2
      have y3 := HY.out.cell 3
      simp only [List.getElem?_toArray, List.getElem?_cons_zero, List.getElem?_cons_succ] at y0 y1 y2 y3
      go_wp2_with fail
      refine (awake07 _).mono ?_
      rintro e w5 ⟨rfl, h5⟩
      have HE := hide (below_after HB3.out h5)
      replace HY := hide (HY.out.below h5 HY.out.lt)
      clear h5 HB3 y0 y1 y2 y3
      have y0 := HY.out.cell 0
      have y1 := HY.out.cell 1
      have y2 := HY.out.cell 2
      have y3 := HY.out.cell 3
      simp only [List.getElem?_toArray, List.getElem?_cons_zero, List.getElem?_cons_succ] at y0 y1 y2 y3
      go_wp2_with fail
      go_ret
      exact ⟨rfl, HE.out⟩
end Go.Proofs.Ytgohdpnlaedeiaa
