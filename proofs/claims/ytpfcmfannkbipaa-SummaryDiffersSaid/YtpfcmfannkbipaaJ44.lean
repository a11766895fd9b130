/- Texts of this claim in one. No condition. -/
import Derived.Test.YtpfcmfannkbipaaJ41
section
set_option linter.unusedVariables false
set_option linter.unusedSimpArgs false
set_option maxRecDepth 20000
namespace Go.Proofs.Ytpfcmfannkbipaa
open Go.RowKit Go.Deep

attribute [local go_sem] run_store_float
theorem eqL_zip {a b : List Dn} (h : a.length = b.length) (hz : (a.zip b).all (fun p => sameD p.1 p.2) = true) : eqL sameD a b = true := by
  unfold eqL
  rw [decide_eq_true h, hz]
  rfl
theorem one_at {s : Sl Dn} {w : World} (h : s.At DnB 6 w) {n : Nat} {x : Dn} (hx : s.L[n]? = some x) : ∃ a, s.A = some a ∧ Sl.At DnB 6 w ⟨some (a.add (n * 6)), s.c - n, [x]⟩ := by
  obtain ⟨hr, hn, hc⟩ := h
  obtain ⟨a, ha, hd⟩ := hr n x hx
  have hl := (List.getElem?_eq_some_iff.1 hx).1
  refine ⟨a, ha, fun i y hy => ?_, by simp; omega, by simp only; omega⟩
  rcases i with _ | i
  · have e : x = y := by simpa using hy
    subst e
    exact ⟨_, rfl, by rw [Nat.zero_mul, show (a.add (n * 6)).add 0 = a.add (n * 6) from if_pos rfl]; exact hd⟩
  · simp at hy
set_option maxHeartbeats 8000000 in
theorem differs34_walk (s t : Sl Dn) (w : World) (h : s.At DnB 6 w) (h' : t.At DnB 6 w) : Calls Try.prog 5 #[s.val, t.val] w fun e w' => e = .returned (.bool true) ∧ Below w.heap.size w w' := by
  have HF := hide (few34_any s w h)
  have HF' := hide (few34_any t w h')
  have HA := hide (fewS_at h)
  have HA' := hide (fewS_at h')
  have HL := hide (fewS_len s)
  have HL' := hide (fewS_len t)
  clear h h'
  generalize fewS s = q at *
  generalize fewS t = r at *
  have HD := hide (differ34_any q r w HA.out HA'.out)
  have hql := HA.out.2
  have hrl := HA'.out.2
  have hq40 := HL.out
  have hr40 := HL'.out
  go_enter Try.func5, Try.ntmps5
  go_wp2_with fail
  refine HF.out.mono ?_
  rintro e w' ⟨rfl, hww⟩
  rw [hww]
  clear hww w'
  go_wp2_with fail
  refine HF'.out.mono ?_
  rintro e w' ⟨rfl, hww⟩
  rw [hww]
  clear hww w'
  clear HF HF'
  go_wp2_with fail
  refine HD.out.mono ?_
  clear HD
  rcases difP_ways q.L r.L 0 with ⟨hd, hlen, hall⟩ | ⟨n, hd, hn1, hn2, hall, hways⟩
  · have HEQ := hide (eqL_zip hlen hall)
    rw [hd]
    rintro e w1 ⟨rfl, hb1⟩
    have HA1 := hide (HA.out.below DnB.keeps hb1)
    have HA1' := hide (HA'.out.below DnB.keeps hb1)
    have HB1 := hide hb1
    clear hd hlen hall hb1 HA HA'
    go_wp2_with fail
    refine (awake34 _).mono ?_
    rintro e w2 ⟨rfl, hb2⟩
    have HA2 := hide (HA1.out.below DnB.keeps hb2)
    have HA2' := hide (HA1'.out.below DnB.keeps hb2)
    have HB2 := hide (below_after HB1.out hb2)
    clear hb2
    go_wp2_with fail
    refine (r9same_any q r w2 HA2.out HA2'.out).mono ?_
    rw [HEQ.out]
    rintro e w3 ⟨rfl, hb3⟩
    have HB3 := hide (below_after HB2.out hb3)
    clear hb3
    go_wp2_with fail
    go_ret
    exact ⟨rfl, HB3.out⟩
  · rw [hd, Nat.zero_add]
    rintro e w1 ⟨rfl, hb1⟩
    have HEQ := hide (eqL_zip (a := q.L.take n) (b := r.L.take n) (by simp only [List.length_take]; omega) hall)
    have HQ1 := hide (HA.out.below DnB.keeps hb1)
    have HR1 := hide (HA'.out.below DnB.keeps hb1)
    have HB1 := hide hb1
    clear hd hall hb1 HA HA'
    obtain ⟨qA, qc, ql⟩ := q
    obtain ⟨rA, rc, rl⟩ := r
    unfold Sl.val
    simp only at *
    have nJ : (0 : Int) ≤ (n : Int) := by omega
    have d0 : decide ((n : Int) < 0) = false := decide_eq_false (by omega)
    have d1 : decide ((ql.length : Int) < (n : Int)) = false := decide_eq_false (by omega)
    have d2 : decide ((rl.length : Int) < (n : Int)) = false := decide_eq_false (by omega)
    have d1n : decide (ql.length < n) = false := decide_eq_false (by omega)
    have d2n : decide (rl.length < n) = false := decide_eq_false (by omega)
    have nqc : (n : Int) ≤ (qc : Int) := by omega
    have nrc : (n : Int) ≤ (rc : Int) := by omega
    have hne1 : ((n : Int) == -1) = false := by rw [beq_eq_false_iff_ne]; omega
    obtain ⟨p, hO, h0, hne, hI⟩ := bel_hidden w1 w1.drew (Below.refl _ _).drew
    have HP := hide hO
    have H0 := hide h0
    have HI := hide hI
    have HS := hide (fun z : Wo p => r9same_any ⟨qA, qc, ql.take n⟩ ⟨rA, rc, rl.take n⟩ z.W ((take_at HQ1.out n).below DnB.keeps (HI.out z)) ((take_at HR1.out n).below DnB.keeps (HI.out z)))
    have hm1 : min n ql.length = n := by omega
    have hm2 : min n rl.length = n := by omega
    have hs : ∀ z : Wo p, Calls Try.prog 28 #[.slice qA n qc, .slice rA n rc] z.W fun e w' => e = .returned (.bool true) ∧ Below z.W.heap.size z.W w' := by
      intro z
      have := HS.out z
      rw [HEQ.out] at this
      simpa only [Sl.val, List.length_take, hm1, hm2] using this
    clear hO h0 hI HS HEQ
    go_upto_region 5 with fail
    refine wp_region_quietC (by kernel_rfl) (by kernel_rfl) H0.out ?_
    repeat (go_big_quiet_step (first
      | (go_at_call 28; with_reducible exact Calls.quietC HP.out (hs _))))
    refine wpQuiet_nil ?_
    intro _ hw'
    obtain ⟨z, rfl⟩ := hw'
    have HQ2 := hide (HQ1.out.below DnB.keeps (HI.out z))
    have HR2 := hide (HR1.out.below DnB.keeps (HI.out z))
    have HB2 := hide (below_after HB1.out (HI.out z))
    generalize z.W = w2 at *
    clear HP H0 HI hne z hs HQ1 HR1 HB1
    go_upto_region 7 with fail
    have HAW := hide (fun W => awake34 W)
    by_cases hX : (n = ql.length) ≠ (n = rl.length)
    · have key : (((n : Int) == (ql.length : Int)) = true ∧ ((n : Int) == (rl.length : Int)) = false) ∨ (((n : Int) == (ql.length : Int)) = false ∧ ((n : Int) == (rl.length : Int)) = true) := by
        by_cases h1 : n = ql.length
        · by_cases h2 : n = rl.length
          · exact absurd (by rw [eq_iff_iff]; exact ⟨fun _ => h2, fun _ => h1⟩) hX
          · exact .inl ⟨by rw [beq_iff_eq]; omega, by rw [beq_eq_false_iff_ne]; omega⟩
        · by_cases h2 : n = rl.length
          · exact .inr ⟨by rw [beq_eq_false_iff_ne]; omega, by rw [beq_iff_eq]; omega⟩
          · exact absurd (by rw [eq_iff_iff]; exact ⟨fun h => absurd h h1, fun h => absurd h h2⟩) hX
      clear hX hways d0 d1 d2 d1n d2n hne1 HL HL'
      obtain ⟨p, hO, h0, hne, hI⟩ := bel_hidden w2 w2.drew (Below.refl _ _).drew
      have HP := hide hO
      have H0 := hide h0
      have HI := hide hI
      clear hO h0 hI
      rcases key with ⟨e1, e2⟩ | ⟨e1, e2⟩
      all_goals
        refine wp_region_quietC (by kernel_rfl) (by kernel_rfl) H0.out ?_
        repeat (go_big_quiet_step (first
          | (go_at_call 21; with_reducible exact Calls.quietC HP.out (HAW.out _))))
        refine wpQuiet_nil ?_
        intro _ hw'
        obtain ⟨z, rfl⟩ := hw'
        have HB3 := hide (below_after HB2.out (HI.out z))
        generalize z.W = w3 at *
        clear HP H0 HI hne z HB2
        go_wp2_with fail
        go_ret
        exact ⟨rfl, HB3.out⟩
    · obtain ⟨x, y, hx, hy, hxy⟩ := hways.resolve_left hX
      have hnl := (List.getElem?_eq_some_iff.1 hx).1
      have hnr := (List.getElem?_eq_some_iff.1 hy).1
      obtain ⟨a, haq, g0, g1, g2, g3, g4, g5⟩ := HQ2.out.1 n x hx
      obtain ⟨b, hbr, m0, m1, m2, m3, m4, m5⟩ := HR2.out.1 n y hy
      obtain ⟨a', ha', hS1⟩ := one_at HQ2.out hx
      obtain ⟨b', hb', hS2⟩ := one_at HR2.out hy
      simp only at haq hbr ha' hb'
      obtain rfl : a = a' := by rw [haq] at ha'; injection ha'
      obtain rfl : b = b' := by rw [hbr] at hb'; injection hb'
      subst haq hbr
      have hc := fun W => ssame34_any x y W
      rw [hxy] at hc
      have heq : eqL sameD [x] [y] = false := eqL_no (k := 0) rfl rfl hxy
      have e1 : ((n : Int) == (ql.length : Int)) = false := by rw [beq_eq_false_iff_ne]; omega
      have e2 : ((n : Int) == (rl.length : Int)) = false := by rw [beq_eq_false_iff_ne]; omega
      have l1 : decide ((n : Int) < (ql.length : Int)) = true := decide_eq_true (by omega)
      have l2 : decide ((n : Int) < (rl.length : Int)) = true := decide_eq_true (by omega)
      have l1n : decide (n < ql.length) = true := decide_eq_true (by omega)
      have l2n : decide (n < rl.length) = true := decide_eq_true (by omega)
      have nI : (n : Int) < (ql.length : Int) := by omega
      have nI2 : (n : Int) < (rl.length : Int) := by omega
      obtain ⟨m, hm⟩ : ∃ m, m = n + 1 := ⟨_, rfl⟩
      have eM : (n : Int) + 1 = (m : Int) := by omega
      have wM : IntKind.i64.wrap (m : Int) = (m : Int) := IntWalk.i64_in _ (by omega)
      have mJ : (0 : Int) ≤ (m : Int) := by omega
      have nmJ : (n : Int) ≤ (m : Int) := by omega
      have mq : (m : Int) ≤ (qc : Int) := by omega
      have mr : (m : Int) ≤ (rc : Int) := by omega
      have hmn : m - n = 1 := by omega
      have hqn : ¬ qc = n := by omega
      have hrn : ¬ rc = n := by omega
      obtain ⟨p, hO, h0, hne, hI⟩ := bel_hidden w2 w2.drew (Below.refl _ _).drew
      have k0 := fun i : Wo p => keepc (hI i) g0
      have k1 := fun i : Wo p => keepc (hI i) g1
      have k2 := fun i : Wo p => keepc (hI i) g2
      have k3 := fun i : Wo p => keepc (hI i) g3
      have k4 := fun i : Wo p => keepc (hI i) g4
      have k5 := fun i : Wo p => keepc (hI i) g5
      have j0 := fun i : Wo p => keepc (hI i) m0
      have j1 := fun i : Wo p => keepc (hI i) m1
      have j2 := fun i : Wo p => keepc (hI i) m2
      have j3 := fun i : Wo p => keepc (hI i) m3
      have j4 := fun i : Wo p => keepc (hI i) m4
      have j5 := fun i : Wo p => keepc (hI i) m5
      have h3 : ∀ z : Wo p, Calls Try.prog 28 #[.slice (some (a.add (n * 6))) 1 (qc - n), .slice (some (b.add (n * 6))) 1 (rc - n)] z.W fun e w' => e = .returned (.bool false) ∧ Below z.W.heap.size z.W w' := by
        intro z
        have := r9same_any _ _ z.W (hS1.below DnB.keeps (hI z)) (hS2.below DnB.keeps (hI z))
        rw [heq] at this
        exact this
      have hr1 : ∀ X, (Instr.slice 22 (.slice (some a) ql.length qc) (some (.int .i64 (n : Int))) (some (.int .i64 (m : Int))) none).run Try.prog X = .ok (.slice (some (a.add (n * 6))) 1 (qc - n)) X := by
        intro X
        rw [run_slice_lh (ht := Try.underlying22) (kl := .i64) (kh := .i64) (l := (n : Int)) (h := (m : Int)) (h0 := nJ) (h1 := nmJ) (h2 := mq), size_dn, Result.andThen_ok]
        unfold sliced
        simp only [Int.toNat_natCast, hmn, if_neg hqn, Option.map_some]
      have hr2 : ∀ X, (Instr.slice 22 (.slice (some b) rl.length rc) (some (.int .i64 (n : Int))) (some (.int .i64 (m : Int))) none).run Try.prog X = .ok (.slice (some (b.add (n * 6))) 1 (rc - n)) X := by
        intro X
        rw [run_slice_lh (ht := Try.underlying22) (kl := .i64) (kh := .i64) (l := (n : Int)) (h := (m : Int)) (h0 := nJ) (h1 := nmJ) (h2 := mr), size_dn, Result.andThen_ok]
        unfold sliced
        simp only [Int.toNat_natCast, hmn, if_neg hrn, Option.map_some]
      obtain ⟨xt, xs, xn, xd, xp, xf⟩ := x
      obtain ⟨yt, ys, yn, yd, yp, yf⟩ := y
      unfold dnV at hc
      simp only at k0 k1 k2 k3 k4 k5 j0 j1 j2 j3 j4 j5 hc
      have HP := hide hO
      have H0 := hide h0
      have HI := hide hI
      clear hX hways d0 d1 d2 d1n d2n hne1 HL HL' hO h0 hI hS1 hS2 heq hx hy hxy g0 g1 g2 g3 g4 g5 m0 m1 m2 m3 m4 m5 hm ha' hb' hnl hnr HQ2 HR2
      refine wp_region_quietC (by kernel_rfl) (by kernel_rfl) H0.out ?_
      repeat (go_big_quiet_step (first
        | (go_at_call 21; with_reducible exact Calls.quietC HP.out (HAW.out _))
        | (go_at_call 26; with_reducible exact Calls.quietC HP.out (hc _))
        | (go_at_call 28; with_reducible exact Calls.quietC HP.out (h3 _))))
      refine wpQuiet_nil ?_
      intro _ hw'
      obtain ⟨z, rfl⟩ := hw'
      have HB3 := hide (below_after HB2.out (HI.out z))
      generalize z.W = w3 at *
      clear HP H0 HI hne z HB2 k0 k1 k2 k3 k4 k5 j0 j1 j2 j3 j4 j5 h3 hc
      go_wp2_with fail
      go_ret
      exact ⟨rfl, HB3.out⟩
end Go.Proofs.Ytpfcmfannkbipaa
end
