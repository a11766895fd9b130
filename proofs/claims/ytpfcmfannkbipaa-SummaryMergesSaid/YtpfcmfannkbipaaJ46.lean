/- Texts of this claim in one. No condition. -/
import Derived.Test.YtpfcmfannkbipaaJ41
section
set_option linter.unusedVariables false
set_option linter.unusedSimpArgs false
set_option maxRecDepth 20000
namespace Go.Proofs.Ytpfcmfannkbipaa
open Go.RowKit Go.Deep

attribute [local go_sem] run_store_float
theorem mg_perm (a b : List Dn) : (a ++ b).Perm (mrgP [a, b]) := by
  have h := Mrg.merge_perm (c := cD) (Mrg.total [a, b]) [a, b] (Nat.le_refl _)
  unfold mrgP
  simpa using h.symm
theorem mg_ord {a b : List Dn} (ha : ordUp a a.length = true) (hb : ordUp b b.length = true) : ordUp (mrgP [a, b]) (mrgP [a, b]).length = true := by
  refine ordUp_of_pairs (Mrg.merge_sorted cD_neg cD_trans _ [a, b] fun l hl => ?_)
  rcases List.mem_cons.1 hl with rfl | hl
  · exact ordUp_pairs ha
  · obtain rfl := List.mem_singleton.1 hl
    exact ordUp_pairs hb
theorem mg_cnt (p : Dn → Bool) {a b : List Dn} (h : a.Perm b) : cntI p a a.length = cntI p b b.length := by
  unfold cntI
  rw [List.take_length, List.take_length, h.countP_eq]
theorem mg_mem {L : List Dn} {x : Dn} (h : x ∈ L) : ¬ cntI (sameD x) L L.length = 0 := by
  unfold cntI
  rw [List.take_length]
  have := List.countP_pos_iff.2 ⟨x, h, sameD_self x⟩
  omega
/-- Two lists in a row of their own. -/
theorem two_at {w : World} {a b : Sl Dn} (ha : a.At DnB 6 w) (hb : b.At DnB 6 w) : (⟨some ⟨w.heap.size, 0, none⟩, 2, [a, b]⟩ : Sl (Sl Dn)).At (SlAt DnB 6) 1 (w.alloc (.cells #[a.val, b.val] 22)) := by
  have hB := Blk.new w 22 #[a.val, b.val]
  have hbl := (Below.refl w.heap.size w).alloc (Nat.le_refl _) (.cells #[a.val, b.val] 22)
  have c0 := hB.cell 0
  have c1 := hB.cell 1
  simp only [List.getElem?_toArray, List.getElem?_cons_zero, List.getElem?_cons_succ] at c0 c1
  refine ⟨fun i x hx => ⟨_, rfl, ?_⟩, by simp, by simp⟩
  rcases i with _ | _ | i
  · have e : a = x := by simpa using hx
    subst e
    rw [add_lit]
    exact ⟨c0, ha.below DnB.keeps hbl⟩
  · have e : b = x := by simpa using hx
    subst e
    rw [add_lit]
    exact ⟨c1, hb.below DnB.keeps hbl⟩
  · simp at hx
/-- One list behind the other one, in a row of their own. -/
theorem dn_two {V : World} {q r : Sl Dn} (hq : q.At DnB 6 V) (hr : r.At DnB 6 V) (h1 : q.L.length ≤ 100000) (h2 : r.L.length ≤ 100000) (ty : TypeId) :
    ∃ (q1 q2 : Sl Dn) (X1 X2 : World), (Builtin.append_ #[22, 22] ty #[.slice (some ⟨V.heap.size, 0, none⟩) 0 0, q.val]).run Try.prog (V.alloc (.cells #[] 39)) = .ok q1.val X1 ∧
      (Builtin.append_ #[22, 22] ty #[q1.val, r.val]).run Try.prog X1 = .ok q2.val X2 ∧ q2.L = q.L ++ r.L ∧ OwnR 39 6 encDn X2 V.heap.size q2.val q2.L ∧ Below V.heap.size V X2 := by
  have hb0 := (Below.refl V.heap.size V).alloc (Nat.le_refl _) (.cells #[] 39)
  obtain ⟨q1, X1, hr1, hq1, ho1, hb1, hk1, ho⟩ := dn_app V _ _ [] q.L q.A q.L.length q.c (own_emptyD (Blk.new V 39 #[]) (Nat.le_refl _)) hb0 (RowD.reads (d := DnB) (enc := encDn) (by decide) (fun _ => rfl) lays_dnb (hq.below DnB.keeps hb0).1) rfl (by simp; omega) ty
  rw [List.nil_append] at hq1
  obtain ⟨q2, X2, hr2, hq2, ho2, hb2, _, _⟩ := dn_app V X1 q1.val q1.L r.L r.A r.L.length r.c ho1 hb1 (RowD.reads (d := DnB) (enc := encDn) (by decide) (fun _ => rfl) lays_dnb (hr.below DnB.keeps hb1).1) rfl (by rw [hq1]; omega) ty
  rw [hq1] at hq2
  exact ⟨q1, q2, X1, X2, hr1, hr2, hq2, ho2, hb2⟩
def Mg1 (wo : World) (N : Nat) (i : Value) (wr : World) : Prop := ∃ k : Nat, k ≤ N ∧ i = .int .i64 k ∧ Below wo.heap.size wo wr
def Mg2 (wo : World) (p : Dn → Bool) (Q M : List Dn) (n k j : Value) (wr : World) : Prop := ∃ d : Nat, d ≤ Q.length ∧ j = .int .i64 d ∧ n = .int .i64 (cntI p Q d) ∧ k = .int .i64 (cntI p M d) ∧ Below wo.heap.size wo wr
/-- One event held against another one: a drawn statement that only reads, but for the call. -/
theorem mg_two (x y : Dn) (W : World) : Calls Try.prog 26 #[.agg #[.float .f64 x.1, .int .i64 x.2.1, .int .i64 x.2.2.1, .int .i64 x.2.2.2.1, .int .i64 x.2.2.2.2.1, .int .i64 x.2.2.2.2.2], .agg #[.float .f64 y.1, .int .i64 y.2.1, .int .i64 y.2.2.1, .int .i64 y.2.2.2.1, .int .i64 y.2.2.2.2.1, .int .i64 y.2.2.2.2.2]] W fun e w' => e = .returned (.bool (sameD x y)) ∧ Below W.heap.size W w' := ssame34_any x y W
set_option maxHeartbeats 8000000 in
theorem merges34_walk (s t : Sl Dn) (w : World) (h : s.At DnB 6 w) (h' : t.At DnB 6 w) : Calls Try.prog 4 #[s.val, t.val] w fun e w' => e = .returned (.bool true) ∧ Below w.heap.size w w' := by
  have HF := hide (few34_any s w h)
  have HF' := hide (few34_any t w h')
  have HA := hide (fewS_at h)
  have HA' := hide (fewS_at h')
  have hq40 := fewS_len s
  have hr40 := fewS_len t
  clear h h'
  generalize fewS s = q at *
  generalize fewS t = r at *
  have hql := HA.out.2
  have hrl := HA'.out.2
  have hb0 := (Below.refl w.heap.size w).alloc (Nat.le_refl _) (.cells #[q.val, r.val] 22)
  have HB0 := hide hb0
  have HA0 := hide (HA.out.below DnB.keeps hb0)
  have HA0' := hide (HA'.out.below DnB.keeps hb0)
  have HMG := hide (merge34_any ⟨some ⟨w.heap.size, 0, none⟩, 2, [q, r]⟩ _ (two_at HA.out HA'.out) (by simp) (by unfold Mrg.total; simp; omega))
  have HPM := hide (show (q.L ++ r.L).Perm (mrgP [q.L, r.L]) from mg_perm q.L r.L)
  have HOR := hide (fun h1 h2 => mg_ord (a := q.L) (b := r.L) h1 h2)
  have hML : (mrgP [q.L, r.L]).length = q.L.length + r.L.length := by rw [← HPM.out.length_eq, List.length_append]
  simp only [List.map_cons, List.map_nil] at HMG
  generalize mrgP [q.L, r.L] = M at *
  clear hb0
  obtain ⟨qA, qc, ql⟩ := q
  obtain ⟨rA, rc, rl⟩ := r
  unfold Sl.val at HMG HB0 HA0 HA0' HF HF'
  simp only [List.length_cons, List.length_nil] at *
  go_enter Try.func4, Try.ntmps4
  go_wp2_with fail
  refine HF.out.mono ?_
  rintro e w' ⟨rfl, hww⟩
  rw [hww]
  clear hww w'
  go_wp2_with fail
  refine HF'.out.mono ?_
  rintro e w' ⟨rfl, hww⟩
  rw [hww]
  clear hww w' HF HF' HA HA'
  go_wp2_with fail
  generalize w.alloc _ = w1 at *
  refine HMG.out.mono ?_
  rintro e w2 ⟨m, rfl, hm, hmo, hb2⟩
  have HAM := hide (own_dn hmo).at_
  have HQ2 := hide (HA0.out.below DnB.keeps hb2)
  have HR2 := hide (HA0'.out.below DnB.keeps hb2)
  have HB2 := hide (below_after HB0.out hb2)
  have hmc := HAM.out.2
  clear hmo hb2 HMG HA0 HA0' HB0
  obtain ⟨mA, mc, ml⟩ := m
  simp only at hm
  subst hm
  obtain ⟨q1, q2, X1, X2, hrun1, hrun2, hq2, ho2, hb3⟩ := dn_two HQ2.out HR2.out (by simp only; omega) (by simp only; omega) 22
  have HAA := hide (own_dn ho2).at_
  have HAM3 := hide (HAM.out.below DnB.keeps hb3)
  have HQ3 := hide (HQ2.out.below DnB.keeps hb3)
  have HR3 := hide (HR2.out.below DnB.keeps hb3)
  have HB3 := hide (below_after HB2.out hb3)
  have hQl : q2.L.length = ml.length := by rw [hq2, List.length_append, hML]
  have HPQ := hide (show q2.L.Perm ml by rw [hq2]; exact HPM.out)
  have hqc := HAA.out.2
  clear ho2 hb3 hq2 HPM HAM HQ2 HR2 HB2
  obtain ⟨aA, ac, al⟩ := q2
  unfold Sl.val at hrun1 hrun2 ⊢
  simp only at *
  generalize q1.A = q1A at *
  generalize q1.L.length = q1n at *
  generalize q1.c = q1c at *
  have hmne : ((ml.length : Int) != (ql.length : Int) + (rl.length : Int)) = false := by simp; omega
  have hm80 : ml.length ≤ 80 := by omega
  have ha80 : al.length ≤ 80 := by omega
  have HQL := hide hQl
  clear hQl hML
  go_wp2_with (at_builtin; first
    | (refine wpList_of_append rfl _ X1 _ _ 22 _ _ _ rfl rfl rfl hrun1 ?_)
    | (refine wpList_of_append rfl _ X2 _ _ 22 _ _ _ rfl rfl rfl hrun2 ?_))
  clear hrun1 hrun2 hmne
  go_loopw [7] (fun i wr => Mg1 X2 al.length i wr) (fun i _ => al.length - (intOf i).toNat)
  case atStart => exact ⟨0, Nat.zero_le _, rfl, Below.refl _ _⟩
  case round =>
    obtain ⟨k, hk, rfl, hb⟩ := hrel
    by_cases hlt : k < al.length
    · have hx := List.getElem?_eq_getElem hlt
      have kI : (k : Int) < (al.length : Int) := by omega
      have kJ : (0 : Int) ≤ (k : Int) := by omega
      have HX := hide hx
      have HCN := hide (show cntI (sameD al[k]) al al.length = cntI (sameD al[k]) ml ml.length from mg_cnt _ HPQ.out)
      have HNZ := hide (show ¬ cntI (sameD al[k]) al al.length = 0 from mg_mem (List.mem_of_getElem? hx))
      generalize al[k] = x at *
      have HB := hide hb
      clear hx hb
      go_wp2_with fail
      go_loopw [8, 9, 10] (fun n l j wx => Mg2 X2 (sameD x) al ml n l j wx) (fun _ _ j _ => al.length - (intOf j).toNat)
      case atStart => exact ⟨0, Nat.zero_le _, rfl, rfl, rfl, HB.out⟩
      case round =>
        clear HB
        obtain ⟨d, hd, rfl, rfl, rfl, hb⟩ := hrel
        by_cases hdt : d < al.length
        · have hdm : d < ml.length := by have := HQL.out; omega
          have hy := List.getElem?_eq_getElem hdt
          have hz := List.getElem?_eq_getElem hdm
          have HNA := hide (cntI_succ (p := sameD x) hy)
          have HNM := hide (cntI_succ (p := sameD x) hz)
          have hra := cntI_rng (sameD x) al d
          have hrm := cntI_rng (sameD x) ml d
          generalize al[d] = y at *
          generalize ml[d] = z at *
          obtain ⟨a, hA, g0, g1, g2, g3, g4, g5⟩ := (HAA.out.1.below DnB.keeps hb) k _ HX.out
          obtain rfl : aA = some a := hA
          obtain ⟨a2, hA2, u0, u1, u2, u3, u4, u5⟩ := (HAA.out.1.below DnB.keeps hb) d _ hy
          obtain rfl : a = a2 := by simpa using hA2
          obtain ⟨b, hB, v0, v1, v2, v3, v4, v5⟩ := (HAM3.out.1.below DnB.keeps hb) d _ hz
          obtain rfl : mA = some b := hB
          have h1 := fun W => mg_two x y W
          have h2 := fun W => mg_two x z W
          generalize sameD x y = b1 at *
          generalize sameD x z = b2 at *
          generalize cntI (sameD x) al d = C1 at *
          generalize cntI (sameD x) ml d = C2 at *
          obtain ⟨xt, xs, xn, xd, xp, xf⟩ := x
          obtain ⟨yt, ys, yn, yd, yp, yf⟩ := y
          obtain ⟨zt, zs, zn, zd, zp, zf⟩ := z
          simp only at h1 h2 g0 g1 g2 g3 g4 g5 u0 u1 u2 u3 u4 u5 v0 v1 v2 v3 v4 v5
          have dI : (d : Int) < (al.length : Int) := by omega
          have dM : (d : Int) < (ml.length : Int) := by omega
          have dJ : (0 : Int) ≤ (d : Int) := by omega
          obtain ⟨p, hO, h0, hne, hI⟩ := bel_hidden wr wr.drew (Below.refl _ _).drew
          have k0 := fun i : Wo p => keepc (hI i) g0
          have k1 := fun i : Wo p => keepc (hI i) g1
          have k2 := fun i : Wo p => keepc (hI i) g2
          have k3 := fun i : Wo p => keepc (hI i) g3
          have k4 := fun i : Wo p => keepc (hI i) g4
          have k5 := fun i : Wo p => keepc (hI i) g5
          have j0 := fun i : Wo p => keepc (hI i) u0
          have j1 := fun i : Wo p => keepc (hI i) u1
          have j2 := fun i : Wo p => keepc (hI i) u2
          have j3 := fun i : Wo p => keepc (hI i) u3
          have j4 := fun i : Wo p => keepc (hI i) u4
          have j5 := fun i : Wo p => keepc (hI i) u5
          have m0 := fun i : Wo p => keepc (hI i) v0
          have m1 := fun i : Wo p => keepc (hI i) v1
          have m2 := fun i : Wo p => keepc (hI i) v2
          have m3 := fun i : Wo p => keepc (hI i) v3
          have m4 := fun i : Wo p => keepc (hI i) v4
          have m5 := fun i : Wo p => keepc (hI i) v5
          have HBI := hide (fun i : Wo p => below_after hb (hI i))
          have HG := hide (fun i : Wo p => (⟨keepc (hI i) g0, keepc (hI i) g1, keepc (hI i) g2, keepc (hI i) g3, keepc (hI i) g4, keepc (hI i) g5⟩ : DnB i.W (a.add (k * 6)) (xt, xs, xn, xd, xp, xf)))
          have HV := hide (fun i : Wo p => (⟨keepc (hI i) v0, keepc (hI i) v1, keepc (hI i) v2, keepc (hI i) v3, keepc (hI i) v4, keepc (hI i) v5⟩ : DnB i.W (b.add (d * 6)) (zt, zs, zn, zd, zp, zf)))
          have HP := hide hO
          have H0 := hide h0
          clear hI hO h0 hb hy hz HX g0 g1 g2 g3 g4 g5 u0 u1 u2 u3 u4 u5 v0 v1 v2 v3 v4 v5 m0 m1 m2 m3 m4 m5
          rcases b1 with _ | _
          all_goals
            go_upto_region 13 with fail
            refine wp_region_quietC (by kernel_rfl) (by kernel_rfl) H0.out ?_
            repeat (go_big_quiet_step (first
              | (go_at_call 26; with_reducible exact Calls.quietC HP.out (h1 _))))
            refine wpQuiet_nil ?_
            intro _ hw'
            obtain ⟨i, rfl⟩ := hw'
            have hi := hide (HBI.out i)
            obtain ⟨g0, g1, g2, g3, g4, g5⟩ := HG.out i
            obtain ⟨v0, v1, v2, v3, v4, v5⟩ := HV.out i
            generalize i.W = W1 at *
            clear k0 k1 k2 k3 k4 k5 j0 j1 j2 j3 j4 j5 HBI HG HV HP H0 hne i h1
            obtain ⟨p, hO, h0, hne, hI⟩ := bel_hidden W1 W1.drew (Below.refl _ _).drew
            simp only at g0 g1 g2 g3 g4 g5 v0 v1 v2 v3 v4 v5
            have k0 := fun i : Wo p => keepc (hI i) g0
            have k1 := fun i : Wo p => keepc (hI i) g1
            have k2 := fun i : Wo p => keepc (hI i) g2
            have k3 := fun i : Wo p => keepc (hI i) g3
            have k4 := fun i : Wo p => keepc (hI i) g4
            have k5 := fun i : Wo p => keepc (hI i) g5
            have m0 := fun i : Wo p => keepc (hI i) v0
            have m1 := fun i : Wo p => keepc (hI i) v1
            have m2 := fun i : Wo p => keepc (hI i) v2
            have m3 := fun i : Wo p => keepc (hI i) v3
            have m4 := fun i : Wo p => keepc (hI i) v4
            have m5 := fun i : Wo p => keepc (hI i) v5
            have HBI := hide (fun i : Wo p => below_after hi.out (hI i))
            have HP := hide hO
            have H0 := hide h0
            clear hI hO h0 g0 g1 g2 g3 g4 g5 v0 v1 v2 v3 v4 v5
            rcases b2 with _ | _
            all_goals
              go_upto_region 15 with fail
              refine wp_region_quietC (by kernel_rfl) (by kernel_rfl) H0.out ?_
              repeat (go_big_quiet_step (first
                | (go_at_call 26; with_reducible exact Calls.quietC HP.out (h2 _))))
              refine wpQuiet_nil ?_
              intro _ hw'
              obtain ⟨i, rfl⟩ := hw'
              have hi2 := hide (HBI.out i)
              generalize i.W = W2 at *
              clear k0 k1 k2 k3 k4 k5 m0 m1 m2 m3 m4 m5 HBI HP H0 hne i h2 hi
              go_wp2_with fail
              go_roundw
              case rel => exact ⟨d + 1, by omega, by go_num, by rw [HNA.out]; first | rfl | simp, by rw [HNM.out]; first | rfl | simp, hi2.out⟩
              case measure => simp [intOf]; omega
        · obtain rfl : d = al.length := by omega
          have hcn := HCN.out
          have hnz := HNZ.out
          rw [← HQL.out] at hcn
          rw [← hcn]
          generalize cntI (sameD x) al al.length = C at *
          have e1 : (C != C) = false := by simp
          have e2 : (C == 0) = false := by rw [beq_eq_false_iff_ne]; exact hnz
          have HB := hide hb
          clear hb HCN HNZ hcn hnz HX
          go_wp2_with fail
          go_roundw
          case rel => exact ⟨k + 1, by omega, by go_num, HB.out⟩
          case measure => simp [intOf]; omega
    · have HQ4 := hide (HQ3.out.below DnB.keeps hb)
      have HR4 := hide (HR3.out.below DnB.keeps hb)
      have HM4 := hide (HAM3.out.below DnB.keeps hb)
      have HB4 := hide (below_after HB3.out hb)
      have hkn : ¬ (k : Int) < (al.length : Int) := by omega
      have hfd := field_sum
      clear hb HQ3 HR3 HAM3 HB3 HAA HPQ
      go_wp2_with fail
      refine (awake34 _).mono ?_
      rintro e w5 ⟨rfl, hb5⟩
      have HQ5 := hide (HQ4.out.below DnB.keeps hb5)
      have HR5 := hide (HR4.out.below DnB.keeps hb5)
      have HM5 := hide (HM4.out.below DnB.keeps hb5)
      have HB5 := hide (below_after HB4.out hb5)
      clear hb5 HQ4 HR4 HM4 HB4
      go_wp2_with fail
      refine (rsum34_any ⟨qA, qc, ql⟩ w5 HQ5.out (by simp only; omega)).mono ?_
      rintro e w6 ⟨rfl, hb6⟩
      have HR6 := hide (HR5.out.below DnB.keeps hb6)
      have HM6 := hide (HM5.out.below DnB.keeps hb6)
      have HB6 := hide (below_after HB5.out hb6)
      clear hb6 HQ5 HR5 HM5 HB5
      unfold sumR sumC
      simp only
      by_cases hordA : ordUp ql ql.length = true
      · rw [hordA]
        go_wp2_with fail
        refine (rsum34_any ⟨rA, rc, rl⟩ w6 HR6.out (by simp only; omega)).mono ?_
        rintro e w7 ⟨rfl, hb7⟩
        have HM7 := hide (HM6.out.below DnB.keeps hb7)
        have HB7 := hide (below_after HB6.out hb7)
        clear hb7 HR6 HM6 HB6
        unfold sumR sumC
        simp only
        by_cases hordB : ordUp rl rl.length = true
        · have HOM := hide (HOR.out hordA hordB)
          rw [hordB]
          clear hordA hordB HOR
          go_wp2_with fail
          refine (sum34_any ⟨mA, mc, ml⟩ w7 HM7.out (by simp only; omega)).mono ?_
          rintro e w8 ⟨rfl, hb8⟩
          have HB8 := hide (below_after HB7.out hb8)
          clear hb8
          unfold sumR sumC
          simp only
          rw [HOM.out]
          go_wp2_with fail
          go_ret
          exact ⟨rfl, HB8.out⟩
        · have hordB2 : ordUp rl rl.length = false := by simpa using hordB
          rw [hordB2]
          clear hordA hordB hordB2 HOR
          go_wp2_with fail
          go_ret
          exact ⟨rfl, HB7.out⟩
      · have hordA2 : ordUp ql ql.length = false := by simpa using hordA
        rw [hordA2]
        clear hordA hordA2 HOR
        go_wp2_with fail
        go_ret
        exact ⟨rfl, HB6.out⟩
end Go.Proofs.Ytpfcmfannkbipaa
end
