/- Texts of this claim in one. No condition. -/
import Derived.Test.YtpfcmfannkbipaaJ51
import Derived.Test.YtpfcmfannkbipaaJ21
section
set_option linter.unusedVariables false
set_option linter.unusedSimpArgs false
set_option maxRecDepth 20000
namespace Go.Proofs.Ytpfcmfannkbipaa
open Go.RowKit Go.Deep Go.Maps

attribute [local go_sem] run_store_float
theorem sort_at {L : List Dn} (h : SortE (L.map dnE)) {j : Nat} {x y : Dn} (hx : L[j]? = some x) (hy : L[j + 1]? = some y) : cmpE (dnE x) (dnE y) ≤ 0 := by
  unfold SortE at h
  rw [List.pairwise_map, List.pairwise_iff_getElem] at h
  obtain ⟨h1, rfl⟩ := List.getElem?_eq_some_iff.1 hx
  obtain ⟨h2, rfl⟩ := List.getElem?_eq_some_iff.1 hy
  exact h j (j + 1) h1 h2 (by omega)
theorem ord_le {a b : Nat} (ha : ¬ isNan a) (hb : ¬ isNan b) (h : timesI a b ≤ 0) : FloatKind.f64.format.order a b = some .lt ∨ FloatKind.f64.format.order a b = some .eq := by
  rw [timesI_num ha hb] at h
  rcases (by omega : skey a < skey b ∨ skey a = skey b ∨ skey b < skey a) with h1 | h1 | h1
  · exact .inl (fo_lt a b ha hb h1)
  · exact .inr (fo_eq a b ha hb h1)
  · rcases ordI_ways8 (skey a) (skey b) with ⟨h2, h3⟩ | ⟨h2, h3⟩ | ⟨h2, h3⟩ <;> omega
/-- What was handled is in order, none above the end. -/
theorem Pk9.sorted {lo g b : Nat} {m : Mdl} {n : Nat} {s : Sm9} {Sv : Value} {w : World} (h : Pk9 lo g b m n s Sv w) : SortE (s.2.2.map dnE) ∧ ∀ d ∈ s.2.2, ¬ isNan d.1 ∧ timesI d.1 m.fin ≤ 0 := by
  obtain ⟨c, S, L, nx, hd, hP, _, hcon, _, _, _, _, _, _, _, hhd⟩ := h
  exact ⟨hhd.srt, fun d hd => by have := hhd.le d hd; rw [hcon.fin] at this; exact this⟩
theorem runL_new (m : Mdl) (n : Nat) : runL m n (new9 m) = (run9 m n (new9 m)).2.2 := by
  rw [← runL_eq]
  rfl
set_option maxHeartbeats 4000000 in
theorem order09_walk (m : Mdl) (n : Int) (w : World) (hm : m.At w) (hn0 : 0 ≤ n) (hn1 : n ≤ 255) : Calls Try.prog 15 #[m.val, .int .u8 n] w fun e w' => e = .returned (.bool true) ∧ Below w.heap.size w w' := by
  have hX := Blk.new w 58 #[.int .i64 m.seed, .float .f64 m.fin, m.dl.val, m.pl.val, m.ll.val, m.il.val]
  have hb := (Below.refl w.heap.size w).alloc (Nat.le_refl _) (.cells #[.int .i64 m.seed, .float .f64 m.fin, m.dl.val, m.pl.val, m.ll.val, m.il.val] 58)
  have hM1 := hm.below hb
  have HLI := hide (L08.light_any m _ hM1)
  have HM1 := hide hM1
  have HB := hide hb
  have HX := hide hX
  have HNB := hide (fun W (h : m.At W) hc => new9p_bad m W h hc)
  have HNG := hide (fun W (h : m.At W) hc => new9p_any m W h hc)
  clear hm hb hM1
  simp only [Mdl.val] at HLI HNB HNG ⊢
  generalize L08.lightB m = li at *
  have x0 := hX.cell 0
  have x1 := hX.cell 1
  have x2 := hX.cell 2
  have x3 := hX.cell 3
  have x4 := hX.cell 4
  have x5 := hX.cell 5
  simp only [List.getElem?_toArray, List.getElem?_cons_zero, List.getElem?_cons_succ] at x0 x1 x2 x3 x4 x5
  clear hX
  go_enter Try.func15, Try.ntmps15
  go_upto_region 1 with fail
  generalize World.alloc w _ = w1 at *
  generalize hnb : w.heap.size = nb at *
  go_wp2_with fail
  refine HLI.out.mono ?_
  rintro e w2 ⟨rfl, hb2⟩
  have HM2 := hide (HM1.out.below hb2)
  have hX2 := HX.out.below hb2 HX.out.lt
  have HX2 := hide hX2
  have HB2 := hide (show Below nb w w2 from hnb ▸ below_after (hnb.symm ▸ HB.out) hb2)
  clear x0 x1 x2 x3 x4 x5 hb2 HM1 HX HB HLI
  have HNBE := hide hnb
  clear hnb
  cases li with
  | false =>
    clear HX2 HM2 HNB HNG hX2
    go_wp2_with fail
    refine (awake09 _).mono ?_
    rintro e w3 ⟨rfl, hb3⟩
    have HB3 := hide (below_after (HNBE.out.symm ▸ HB2.out) hb3)
    clear hb3
    go_wp2_with fail
    go_ret
    exact ⟨rfl, HB3.out⟩
  | true =>
    have x0 := hX2.cell 0
    have x1 := hX2.cell 1
    have x2 := hX2.cell 2
    have x3 := hX2.cell 3
    have x4 := hX2.cell 4
    have x5 := hX2.cell 5
    simp only [List.getElem?_toArray, List.getElem?_cons_zero, List.getElem?_cons_succ] at x0 x1 x2 x3 x4 x5
    clear hX2
    cases hck : chkB m with
    | false =>
      have HN := hide (HNB.out w2 HM2.out hck)
      clear HNB HNG hck
      go_wp2_with fail
      refine HN.out.mono ?_
      rintro e w3 ⟨rfl, hb3⟩
      have HB3 := hide (below_after (HNBE.out.symm ▸ HB2.out) hb3)
      clear hb3 HN x0 x1 x2 x3 x4 x5
      go_wp2_with fail
      refine (awake09 _).mono ?_
      rintro e w4 ⟨rfl, hb4⟩
      have HB4 := hide (below_after HB3.out hb4)
      clear hb4 HB3
      go_wp2_with fail
      go_ret
      exact ⟨rfl, HB4.out⟩
    | true =>
      have HN := hide (HNG.out w2 HM2.out hck)
      have HCK := hide hck
      clear HNB HNG hck
      go_wp2_with fail
      refine HN.out.mono ?_
      intro e w3 hN
      obtain ⟨lo, g, b, Sv, rfl, hlo, hP, hb3⟩ := new9_start HM2.out HCK.out hN
      have HP := hide hP
      have HX3 := hide (HX2.out.below hb3 HX2.out.lt)
      have HB3 := hide (below_after (HNBE.out.symm ▸ HB2.out) hb3)
      have HTL := hide (fun k (hk : tchv g b Sv k) => Nat.le_trans HX2.out.lt (Nat.le_trans hlo (hP.tlo hk).1))
      clear hN HN hP hb3 hlo HX2 HM2 HB2 x0 x1 x2 x3 x4 x5
      obtain ⟨N, hN, hNl⟩ : ∃ N : Nat, n % 100 = (N : Int) ∧ N < 100 := ⟨(n % 100).toNat, by omega, by omega⟩
      have HNN := hide hN
      have HR := hide (run9p_any HP.out N (by omega))
      clear hN
      go_wp2_with fail
      rw [HNN.out]
      refine HR.out.mono ?_
      rintro e w4 ⟨⟨qA, qc, qL⟩, rfl, hq, hown, hP4, hO4⟩
      rw [runL_new] at hq
      simp only at hq
      obtain ⟨hsrt, hle⟩ := hP4.sorted
      rw [← hq] at hsrt hle
      have HSR := hide (fun j x y h1 h2 => sort_at (j := j) (x := x) (y := y) hsrt h1 h2)
      have HLE := hide (fun (d : Dn) (hd : d ∈ qL) => ord_le (hle d hd).1 (chk_parts HCK.out).2.1 (hle d hd).2)
      have HX4 := hide (hO4.blk HX3.out (fun hk => by have := HTL.out nb hk; omega))
      have HB4 := hide (HB3.out.trans (hO4.below HB3.out.size (fun k hk => by have := HTL.out k hk; have := HNBE.out; omega)))
      have HQ := hide (TRow.of_own (e := 39) (d := DnB) (size := 6) (s := ⟨qA, qc, qL⟩) (ok := fun _ _ => True) (by decide) (fun _ => rfl) makes_dnb hown (fun _ _ => trivial)).at_
      have hqc := HQ.out.2
      simp only at hqc
      have HP4 := hide hP4
      have HQL := hide hq
      have hql : qL.length ≤ 9223372036854775807 := by omega
      clear hq hown hP4 hO4 hsrt hle HR HP HX3 HB3 HTL HCK
      unfold Sl.val
      simp only
      go_wp2_with fail
      go_loopw [8] (fun i wr => ∃ k : Nat, 1 ≤ k ∧ (k ≤ qL.length ∨ k = 1) ∧ i = .int .i64 k ∧ Below w4.heap.size w4 wr) (fun i _ => qL.length + 1 - (intOf i).toNat)
      case atStart => exact ⟨1, by omega, .inr rfl, rfl, Below.refl _ _⟩
      case round =>
        obtain ⟨k, hk1, hkl, rfl, hb⟩ := hrel
        by_cases hlt : k < qL.length
        · obtain ⟨j, hj⟩ : ∃ j, k = j + 1 := ⟨k - 1, by omega⟩
          have hjl : j < qL.length := by omega
          have hx := List.getElem?_eq_getElem hjl
          have hy := List.getElem?_eq_getElem hlt
          have hy2 : qL[j + 1]? = some qL[k] := by rw [← hj]; exact hy
          have hcmp := HSR.out j _ _ hx hy2
          have hord := HLE.out _ (List.mem_of_getElem? hy)
          obtain ⟨a, hA, g0, g1, g2, g3, g4, g5⟩ := (HQ.out.1.below DnB.keeps hb) j _ hx
          have hA2 : qA = some a := hA
          clear hA
          subst hA2
          obtain ⟨a2, hA, u0, u1, u2, u3, u4, u5⟩ := (HQ.out.1.below DnB.keeps hb) k _ hy
          obtain rfl : a = a2 := by simpa using hA
          have hX5 := HX4.out.below hb HX4.out.lt
          have x1 := hX5.cell 1
          simp only [List.getElem?_toArray, List.getElem?_cons_zero, List.getElem?_cons_succ] at x1
          generalize qL[k] = y at *
          generalize qL[j] = x at *
          have h1 : ∀ W, Calls Try.prog 32 #[.agg #[.float .f64 x.1, .int .i64 x.2.1, .int .i64 x.2.2.1, .int .i64 x.2.2.2.1, .int .i64 x.2.2.2.2.1], .agg #[.float .f64 y.1, .int .i64 y.2.1, .int .i64 y.2.2.1, .int .i64 y.2.2.2.1, .int .i64 y.2.2.2.2.1]] W fun e w' => e = .returned (.int .i64 (cmpE (dnE x) (dnE y))) ∧ Below W.heap.size W w' := fun W => rcmp_dn x y W
          generalize cmpE (dnE x) (dnE y) = C at *
          obtain ⟨xt, xs, xn, xd, xp, xf⟩ := x
          obtain ⟨yt, ys, yn, yd, yp, yf⟩ := y
          simp only at h1 g0 g1 g2 g3 g4 g5 u0 u1 u2 u3 u4 u5 hord
          have eJ : (k : Int) - 1 = (j : Int) := by omega
          have wJ : IntKind.i64.wrap (j : Int) = (j : Int) := IntWalk.i64_in _ (by omega)
          have jJ : (0 : Int) ≤ (j : Int) := by omega
          have jI : (j : Int) < (qL.length : Int) := by omega
          have kI : (k : Int) < (qL.length : Int) := by omega
          have kJ : (0 : Int) ≤ (k : Int) := by omega
          have eC : decide (0 < C) = false := decide_eq_false (by omega)
          obtain ⟨p, hO, h0, hne, hI⟩ := bel_hidden wr wr.drew (Below.refl _ _).drew
          have k0 := fun i : Wo p => keepc (hI i) g0
          have k1 := fun i : Wo p => keepc (hI i) g1
          have k2 := fun i : Wo p => keepc (hI i) g2
          have k3 := fun i : Wo p => keepc (hI i) g3
          have k4 := fun i : Wo p => keepc (hI i) g4
          have j0 := fun i : Wo p => keepc (hI i) u0
          have j1 := fun i : Wo p => keepc (hI i) u1
          have j2 := fun i : Wo p => keepc (hI i) u2
          have j3 := fun i : Wo p => keepc (hI i) u3
          have j4 := fun i : Wo p => keepc (hI i) u4
          have z1 := fun i : Wo p => keepc (hI i) x1
          have HBI := hide (fun i : Wo p => below_after hb (hI i))
          have HP := hide hO
          have H0 := hide h0
          have HJ := hide hj
          clear hI hO h0 hb hx hy hy2 hcmp g0 g1 g2 g3 g4 g5 u0 u1 u2 u3 u4 u5 x1 hX5 hj hA hkl
          rcases hord with hord | hord
          all_goals
            go_upto_region 10 with fail
            refine wp_region_quietC (by kernel_rfl) (by kernel_rfl) H0.out ?_
            repeat (go_big_quiet_step (first
              | (go_at_call 32; with_reducible exact Calls.quietC HP.out (h1 _))))
            refine wpQuiet_nil ?_
            intro _ hw'
            obtain ⟨i, rfl⟩ := hw'
            have hi := hide (HBI.out i)
            generalize i.W = W1 at *
            clear k0 k1 k2 k3 k4 j0 j1 j2 j3 j4 z1 HBI HP H0 hne i h1 hord
            go_wp2_with fail
            go_roundw
            case rel => exact ⟨k + 1, by omega, .inl (by omega), by go_num, hi.out⟩
            case measure => simp [intOf]; omega
        · have hkn : ¬ (k : Int) < (qL.length : Int) := by omega
          have HP5 := hide (HP4.out.below hb)
          have HB5 := hide (below_after HB4.out hb)
          clear hb HSR HLE HX4 HQ HP4 HB4
          go_wp2_with fail
          refine (awake09 _).mono ?_
          rintro e w6 ⟨rfl, hb6⟩
          have HHD := hide (handled9p_any (HP5.out.below hb6))
          rw [← HQL.out] at HHD
          have HB6 := hide (below_after HB5.out hb6)
          clear hb6 HB5 HP5
          go_wp2_with fail
          refine HHD.out.mono ?_
          rintro e w7 ⟨rfl, rfl⟩
          go_wp2_with fail
          go_ret
          exact ⟨rfl, HB6.out⟩
end Go.Proofs.Ytpfcmfannkbipaa
end
