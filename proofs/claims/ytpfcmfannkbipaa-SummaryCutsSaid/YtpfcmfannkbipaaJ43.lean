/- Texts of this claim in one. No condition. -/
import Derived.Test.YtpfcmfannkbipaaJ41
section
set_option linter.unusedVariables false
set_option linter.unusedSimpArgs false
set_option maxRecDepth 20000
namespace Go.Proofs.Ytpfcmfannkbipaa
open Go.RowKit Go.Deep

attribute [local go_sem] run_store_float
theorem ord_times {L : List Dn} (h : ordUp L L.length = true) : L.Pairwise fun x y => tk8 x.1 ≤ tk8 y.1 := by
  refine (ordUp_pairs h).imp fun {x y} hxy => ?_
  unfold cD at hxy
  rw [cmpE_key] at hxy
  unfold keyE cmpK at hxy
  rcases ordI_ways8 (tk8 (dnE x).1) (tk8 (dnE y).1) with ⟨h1, h2⟩ | ⟨h1, h2⟩ | ⟨h1, h2⟩
  · exact Int.le_of_lt h1
  · exact Int.le_of_eq h1
  · rw [h2, if_neg (by decide)] at hxy
    exact absurd hxy (by decide)
theorem times_lt (t u : Nat) : timesI t u < 0 ↔ tk8 t < tk8 u := by
  rw [timesI_tk8]
  rcases ordI_ways8 (tk8 t) (tk8 u) with ⟨h1, h2⟩ | ⟨h1, h2⟩ | ⟨h1, h2⟩ <;> rw [h2] <;> constructor <;> intro h <;> omega
theorem times_le (t u : Nat) : 0 ≤ timesI t u ↔ tk8 u ≤ tk8 t := by
  rw [timesI_tk8]
  rcases ordI_ways8 (tk8 t) (tk8 u) with ⟨h1, h2⟩ | ⟨h1, h2⟩ | ⟨h1, h2⟩ <;> rw [h2] <;> constructor <;> intro h <;> omega
/-- The three parts of an ordered history. -/
theorem cut_three {L : List Dn} {u v : Nat} (h : ordUp L L.length = true) (huv : ¬ 0 < timesI u v) : aheadT u L + (L.filter (cutP u v)).length = aheadT v L := by
  have hle : tk8 u ≤ tk8 v := by
    rw [timesI_tk8] at huv
    rcases ordI_ways8 (tk8 u) (tk8 v) with ⟨h1, h2⟩ | ⟨h1, h2⟩ | ⟨h1, h2⟩
    · omega
    · omega
    · rw [h2] at huv; exact absurd (by decide) huv
  have key := cut_count (fun x : Dn => tk8 x.1) L (tk8 u) (tk8 v) (ord_times h) hle
  have e1 : ∀ t, ahP t = fun x : Dn => decide (tk8 x.1 < tk8 t) := fun t => by
    funext x
    unfold ahP
    exact decide_eq_decide.2 (times_lt x.1 t)
  have e2 : cutP u v = fun x : Dn => decide (tk8 u ≤ tk8 x.1 ∧ tk8 x.1 < tk8 v) := by
    funext x
    unfold cutP
    rw [Bool.decide_and]
    congr 1
    · exact decide_eq_decide.2 (times_le x.1 u)
    · exact decide_eq_decide.2 (times_lt x.1 v)
  unfold aheadT
  rw [e1 u, e1 v, e2]
  exact key
def CtRel (w : World) (u v : Nat) (L : List Dn) (n i : Value) (wr : World) : Prop := ∃ k : Nat, k ≤ L.length ∧ i = .int .i64 k ∧ n = .int .i64 (((L.take k).filter (cutP u v)).length : Nat) ∧ Below w.heap.size w wr
set_option maxHeartbeats 8000000 in
theorem cuts34_walk (s : Sl Dn) (u v : Nat) (w : World) (h : s.At DnB 6 w) : Calls Try.prog 8 #[s.val, .float .f64 u, .float .f64 v] w fun e w' => e = .returned (.bool true) ∧ Below w.heap.size w w' := by
  have HF := hide (few34_any s w h)
  have HA := hide (fewS_at h)
  have HL := hide (fewS_len s)
  clear h
  generalize fewS s = q at *
  have hl40 := HL.out
  have hqc := HA.out.2
  have he8 := eq8_run (cntI (fltP 0) q.L q.L.length) (cntI (fltP 1) q.L q.L.length) (cntI (fltP 2) q.L q.L.length) (cntI (fltP 3) q.L q.L.length) (cntI (fltP 4) q.L q.L.length) (cntI (fltP 5) q.L q.L.length) (cntI (fltP 6) q.L q.L.length) (cntI (fltP 7) q.L q.L.length)
  go_enter Try.func8, Try.ntmps8
  go_wp2_with fail
  refine HF.out.mono ?_
  rintro e w' ⟨rfl, hww⟩
  rw [hww]
  clear HF hww
  go_wp2_with fail
  refine (faults34_any q w HA.out (by omega)).mono ?_
  rintro e w1 ⟨rfl, hb1⟩
  have HA1 := hide (HA.out.below DnB.keeps hb1)
  have HB1 := hide hb1
  clear hb1 HA
  go_wp2_with fail
  refine (rfaults34_any q w1 HA1.out (by omega)).mono ?_
  rintro e w2 ⟨rfl, hb2⟩
  have HA2 := hide (HA1.out.below DnB.keeps hb2)
  have HB2 := hide (below_after HB1.out hb2)
  clear hb2 HA1 HB1
  unfold fltC
  go_wp2_with fail
  refine (ahead34_any q u w2 HA2.out).mono ?_
  rintro e w3 ⟨rfl, hb3⟩
  have HA3 := hide (HA2.out.below DnB.keeps hb3)
  have HB3 := hide (below_after HB2.out hb3)
  clear hb3 HA2 HB2
  go_wp2_with fail
  refine (rahead34_any q u w3 HA3.out).mono ?_
  rintro e w4 ⟨rfl, hb4⟩
  have HA4 := hide (HA3.out.below DnB.keeps hb4)
  have HB4 := hide (below_after HB3.out hb4)
  clear hb4 HA3 HB3 he8
  go_wp2_with fail
  refine (cut34_any q u v w4 HA4.out (by omega)).mono ?_
  rintro e w5 ⟨c, rfl, hcL, hco, hb5⟩
  have HC := hide hcL
  have HCA := hide (own_dn hco).at_
  have HA5 := hide (HA4.out.below DnB.keeps hb5)
  have HB5 := hide (below_after HB4.out hb5)
  have hcl : c.L.length ≤ 40 := by rw [hcL]; exact Nat.le_trans (List.length_filter_le _ _) hl40
  have hcc := HCA.out.2
  have HX := hide (fun (i : Nat) (x : Dn) (h1 : q.L[i]? = some x) (h2 : cutP u v x = true) => (show c.L[((q.L.take i).filter (cutP u v)).length]? = some x by rw [hcL]; exact filter_at _ _ _ _ h1 h2))
  have HLN := hide (show ((q.L.take q.L.length).filter (cutP u v)).length = c.L.length by rw [List.take_length, hcL])
  have HFO := hide (fun k => (show ((q.L.take k).filter (cutP u v)).length ≤ q.L.length from filter_take_le (Nat.le_refl _)))
  have HCT := hide (fun h1 h2 => cut_three (L := q.L) (u := u) (v := v) h1 h2)
  clear hcL hco hb5 HA4 HB4
  obtain ⟨qA, qc, ql⟩ := q
  obtain ⟨cA, cc, cl⟩ := c
  unfold Sl.val
  simp only at *
  have hl2 : ql.length ≤ 9223372036854775807 := by omega
  go_wp2_with fail
  go_loopw [8, 9] (fun n i wr => CtRel w5 u v ql n i wr) (fun _ i _ => ql.length - (intOf i).toNat)
  case atStart => exact ⟨0, Nat.zero_le _, rfl, rfl, Below.refl _ _⟩
  case round =>
    obtain ⟨k, hk, rfl, rfl, hb⟩ := hrel
    by_cases hlt : k < ql.length
    · have hx := List.getElem?_eq_getElem hlt
      obtain ⟨a, hA, g0, g1, g2, g3, g4, g5⟩ := (HA5.out.1.below DnB.keeps hb) k _ hx
      have hA2 : qA = some a := hA
      clear hA
      subst hA2
      have HFS := hide (filter_take_one (p := cutP u v) hx)
      have HXX := hide (HX.out k _ hx)
      have hfo := HFO.out k
      have HFK := hide (HFO.out (k + 1))
      have kI : (k : Int) < (ql.length : Int) := by omega
      have kJ : (0 : Int) ≤ (k : Int) := by omega
      generalize ql[k] = x at *
      have h1 := fun W => rtimes_same x.1 u W
      have h2 := fun W => rtimes_same x.1 v W
      have hpx : cutP u v x = (decide (0 ≤ timesI x.1 u) && decide (timesI x.1 v < 0)) := rfl
      have h3 := fun W => ssame34_any x x W
      rw [sameD_self] at h3
      generalize timesI x.1 u = T1 at *
      generalize timesI x.1 v = T2 at *
      rw [hpx] at HFS HXX
      obtain ⟨n, hn⟩ : ∃ n, n = ((ql.take k).filter (cutP u v)).length := ⟨_, rfl⟩
      have HN := hide hn
      rw [← hn] at HXX hfo ⊢
      clear hn hx
      by_cases hT1 : 0 ≤ T1
      · by_cases hT2 : T2 < 0
        · have hcn := HXX.out (by rw [decide_eq_true hT1, decide_eq_true hT2]; rfl)
          have hnl := (List.getElem?_eq_some_iff.1 hcn).1
          obtain ⟨b, hB, m0, m1, m2, m3, m4, m5⟩ := (HCA.out.1.below DnB.keeps hb) n _ hcn
          have hB2 : cA = some b := hB
          clear hB
          subst hB2
          have HNE := hide (show ((ql.take (k + 1)).filter (cutP u v)).length = n + 1 by
            rw [HFS.out, List.length_append, ← HN.out, decide_eq_true hT1, decide_eq_true hT2]
            rfl)
          obtain ⟨xt, xs, xn, xd, xp, xf⟩ := x
          unfold dnV at h3
          simp only at g0 g1 g2 g3 g4 g5 m0 m1 m2 m3 m4 m5 h1 h2 h3
          have nI : (n : Int) < (cl.length : Int) := by omega
          have nJ : (0 : Int) ≤ (n : Int) := by omega
          have dn : decide ((cl.length : Int) ≤ (n : Int)) = false := decide_eq_false (by omega)
          have dn2 : decide (cl.length ≤ n) = false := decide_eq_false (by omega)
          obtain ⟨p, hO, h0, hne, hI⟩ := bel_hidden wr wr.drew (Below.refl _ _).drew
          have k0 := fun i : Wo p => keepc (hI i) g0
          have k1 := fun i : Wo p => keepc (hI i) g1
          have k2 := fun i : Wo p => keepc (hI i) g2
          have k3 := fun i : Wo p => keepc (hI i) g3
          have k4 := fun i : Wo p => keepc (hI i) g4
          have k5 := fun i : Wo p => keepc (hI i) g5
          have j0 := fun i : Wo p => keepc (hI i) m0
          have j1 := fun i : Wo p => keepc (hI i) m1
          have j2 := fun i : Wo p => keepc (hI i) m2
          have j3 := fun i : Wo p => keepc (hI i) m3
          have j4 := fun i : Wo p => keepc (hI i) m4
          have j5 := fun i : Wo p => keepc (hI i) m5
          have HBI := hide (fun i : Wo p => below_after hb (hI i))
          have HP := hide hO
          have H0 := hide h0
          clear hI hO h0 hb HFS HXX HX HCA hcn m0 m1 m2 m3 m4 m5
          go_wp2_with fail
          refine (h1 _).mono ?_
          rintro e w6 ⟨rfl, rfl⟩
          go_wp2_with fail
          refine (h2 _).mono ?_
          rintro e w6 ⟨rfl, rfl⟩
          clear h1 h2
          go_upto_region 10 with fail
          clear g0 g1 g2 g3 g4 g5
          refine wp_region_quietC (by kernel_rfl) (by kernel_rfl) H0.out ?_
          repeat (go_big_quiet_step (first
            | (go_at_call 26; with_reducible exact Calls.quietC HP.out (h3 _))))
          refine wpQuiet_nil ?_
          intro _ hw'
          obtain ⟨i, rfl⟩ := hw'
          have hi := hide (HBI.out i)
          generalize i.W = W1 at *
          clear k0 k1 k2 k3 k4 k5 j0 j1 j2 j3 j4 j5 HBI HP H0 hne i h3 dn dn2
          go_wp2_with fail
          go_roundw
          case rel => exact ⟨k + 1, by omega, by go_num, by rw [HNE.out]; go_num, hi.out⟩
          case measure => simp [intOf]; omega
        · have HNE := hide (show ((ql.take (k + 1)).filter (cutP u v)).length = n by
            rw [HFS.out, List.length_append, ← HN.out, decide_eq_true hT1, decide_eq_false hT2]
            rfl)
          obtain ⟨xt, xs, xn, xd, xp, xf⟩ := x
          simp only at g0 g1 g2 g3 g4 g5 h1 h2
          have HB := hide hb
          clear hb HFS HXX HX HCA h3
          go_wp2_with fail
          refine (h1 _).mono ?_
          rintro e w6 ⟨rfl, rfl⟩
          go_wp2_with fail
          refine (h2 _).mono ?_
          rintro e w6 ⟨rfl, rfl⟩
          clear h1 h2
          go_wp2_with fail
          go_roundw
          case rel => exact ⟨k + 1, by omega, by go_num, by rw [HNE.out], HB.out⟩
          case measure => simp [intOf]; omega
      · have HNE := hide (show ((ql.take (k + 1)).filter (cutP u v)).length = n by
          rw [HFS.out, List.length_append, ← HN.out, decide_eq_false hT1]
          rfl)
        obtain ⟨xt, xs, xn, xd, xp, xf⟩ := x
        simp only at g0 g1 g2 g3 g4 g5 h1 h2
        have HB := hide hb
        clear hb HFS HXX HX HCA h3
        go_wp2_with fail
        refine (h1 _).mono ?_
        rintro e w6 ⟨rfl, rfl⟩
        clear h1 h2
        go_wp2_with fail
        go_roundw
        case rel => exact ⟨k + 1, by omega, by go_num, by rw [HNE.out], HB.out⟩
        case measure => simp [intOf]; omega
    · obtain rfl : k = ql.length := by omega
      rw [HLN.out]
      have HA6 := hide (HA5.out.below DnB.keeps hb)
      have HB6 := hide (below_after HB5.out hb)
      have hne : ((cl.length : Int) != (cl.length : Int)) = false := by simp
      clear hb HX HCA HLN HFO HA5 HB5
      have HRS := hide (rsum34_any ⟨qA, qc, ql⟩ wr HA6.out (by simp only; omega))
      have hot := fun W => rtimes_same u v W
      have hfd := field_sum
      have HAV := hide (fun W (h : Below wr.heap.size wr W) t => ahead34_any ⟨qA, qc, ql⟩ t W (HA6.out.below DnB.keeps h))
      unfold Sl.val at HRS HAV
      simp only at HRS HAV
      go_wp2_with fail
      refine HRS.out.mono ?_
      rintro e w7 ⟨rfl, hb7⟩
      have HB7 := hide hb7
      clear hb7 HRS
      unfold sumR sumC
      simp only
      by_cases hord : ordUp ql ql.length = true
      · rw [hord]
        by_cases hT : 0 < timesI u v
        · have HCT2 := HCT
          clear HCT HCT2
          generalize timesI u v = T at *
          go_wp2_with fail
          refine (hot _).mono ?_
          rintro e w8 ⟨rfl, rfl⟩
          go_wp2_with fail
          refine (awake34 _).mono ?_
          rintro e w9 ⟨rfl, hb9⟩
          have HB9 := hide (below_after HB6.out (below_after HB7.out hb9))
          clear hb9
          go_wp2_with fail
          go_ret
          exact ⟨rfl, HB9.out⟩
        · have hcut := HCT.out hord (by omega)
          rw [← HC.out] at hcut
          have HCQ := hide hcut
          clear hcut HCT hord
          generalize timesI u v = T at *
          go_wp2_with fail
          refine (hot _).mono ?_
          rintro e w8 ⟨rfl, rfl⟩
          go_wp2_with fail
          refine (awake34 _).mono ?_
          rintro e w9 ⟨rfl, hb9⟩
          have HB9 := hide (below_after HB7.out hb9)
          clear hb9
          go_wp2_with fail
          refine (HAV.out _ HB9.out u).mono ?_
          rintro e w10 ⟨rfl, hb10⟩
          have HB10 := hide (below_after HB9.out hb10)
          clear hb10
          have hau : aheadT u ql ≤ ql.length := (List.takeWhile_prefix _).length_le
          have hw : IntKind.i64.wrap ((aheadT u ql : Int) + (cl.length : Int)) = (aheadT u ql : Int) + (cl.length : Int) := IntWalk.i64_in _ (by omega)
          go_wp2_with fail
          refine (HAV.out _ HB10.out v).mono ?_
          rintro e w11 ⟨rfl, hb11⟩
          have HB11 := hide (below_after HB6.out (below_after HB10.out hb11))
          clear hb11
          have hq : (((aheadT u ql : Int) + (cl.length : Int)) == (aheadT v ql : Int)) = true := by
            have := HCQ.out
            rw [beq_iff_eq]
            omega
          go_wp2_with fail
          go_ret
          exact ⟨rfl, HB11.out⟩
      · have hord2 : ordUp ql ql.length = false := by simpa using hord
        rw [hord2]
        clear HCT hord hord2
        go_wp2_with fail
        refine (awake34 _).mono ?_
        rintro e w9 ⟨rfl, hb9⟩
        have HB9 := hide (below_after HB6.out (below_after HB7.out hb9))
        clear hb9
        go_wp2_with fail
        go_ret
        exact ⟨rfl, HB9.out⟩
end Go.Proofs.Ytpfcmfannkbipaa
end
