/- Texts of this claim in one. No condition. -/
import Derived.Test.YtpfcmfannkbipaaJ41
section
set_option linter.unusedVariables false
set_option linter.unusedSimpArgs false
set_option maxRecDepth 20000
namespace Go.Proofs.Ytpfcmfannkbipaa
open Go.RowKit Go.Deep

attribute [local go_sem] run_store_float
/-- In order, of processes from 0 to 5: the first k. -/
def GoodUp (L : List Dn) (k : Nat) : Prop := (∀ i x, i < k → L[i]? = some x → 0 ≤ x.2.2.2.1 ∧ x.2.2.2.1 ≤ 5) ∧ ∀ i x y, i + 1 < k → L[i]? = some x → L[i + 1]? = some y → cD x y < 0
def prF (x : Dn) : Nat := (5 - x.2.2.2.1).toNat
theorem total_parts {K : Nat} : ∀ L : List Dn, (∀ x ∈ L, prF x < K) → Mrg.total (Mrg.partsOf prF K L) = L.length
  | [], _ => by
    unfold Mrg.total Mrg.partsOf
    have : ∀ n, (((List.range n).map fun k => ([] : List Dn).filter fun x => decide (prF x = k)).map List.length).sum = 0 := by
      intro n
      induction n with
      | zero => rfl
      | succ n ih => rw [List.range_succ, List.map_append, List.map_append, List.sum_append, ih]; rfl
    exact this K
  | x :: r, h => by
    have hx := h x (by simp)
    have h1 : (Mrg.partsOf prF K (x :: r))[prF x]? = some (x :: r.filter fun z => decide (prF z = prF x)) := by rw [Mrg.parts_at hx, List.filter_cons_of_pos (by simp)]
    have h2 := Mrg.total_set h1
    rw [Mrg.take_parts hx, total_parts r (fun y hy => h y (by simp [hy]))] at h2
    simp only [List.length_cons]
    omega
theorem good_back {L : List Dn} (h : GoodUp L L.length) : mrgP ((List.range 6).map fun k : Nat => L.filter (ofP (5 - (k : Int)))) = L := by
  have hr : ∀ x ∈ L, 0 ≤ x.2.2.2.1 ∧ x.2.2.2.1 ≤ 5 := fun x hx => by
    obtain ⟨i, hi⟩ := List.mem_iff_getElem?.1 hx
    exact h.1 i x (List.getElem?_eq_some_iff.1 hi).1 hi
  have hf : ∀ x ∈ L, prF x < 6 := fun x hx => by have := hr x hx; unfold prF; omega
  have hp : L.Pairwise fun x y => cD x y < 0 := strict_pairs fun i x y hx hy => h.2 i x y (List.getElem?_eq_some_iff.1 hy).1 hx hy
  have e : ((List.range 6).map fun k : Nat => L.filter (ofP (5 - (k : Int)))) = Mrg.partsOf prF 6 L := by
    unfold Mrg.partsOf
    refine List.map_congr_left fun k hk => ?_
    have hk6 := List.mem_range.1 hk
    refine List.filter_congr fun x hx => ?_
    have := hr x hx
    unfold ofP prF
    rw [decide_eq_decide]
    omega
  unfold mrgP
  rw [e, total_parts L hf]
  exact Mrg.merge_parts cD_neg L L.length (Nat.le_refl _) hf hp
def BkRel (w : World) (L : List Dn) (i : Value) (wr : World) : Prop := ∃ k : Nat, k ≤ L.length ∧ i = .int .i64 k ∧ GoodUp L k ∧ Below w.heap.size w wr
theorem good_step {L : List Dn} {k : Nat} {x : Dn} (h : GoodUp L k) (hx : L[k]? = some x) (h0 : 0 ≤ x.2.2.2.1) (h5 : x.2.2.2.1 ≤ 5) (hc : ∀ j y, k = j + 1 → L[j]? = some y → cD y x < 0) : GoodUp L (k + 1) := by
  refine ⟨fun i y hi hy => ?_, fun i y z hi hy hz => ?_⟩
  · by_cases e : i = k
    · subst e; rw [hx] at hy; cases hy; exact ⟨h0, h5⟩
    · exact h.1 i y (by omega) hy
  · by_cases e : i + 1 = k
    · subst e; rw [hx] at hz; cases hz; exact hc i y rfl hy
    · exact h.2 i y z (by omega) hy hz
def Bk2 (w1 w : World) (L : List Dn) (v i : Value) (wr : World) : Prop := ∃ (k : Nat) (R : Sl (Sl Dn)), k ≤ 6 ∧ v = R.val ∧ i = .int .i64 k ∧ R.L.map (·.L) = (List.range k).map (fun k : Nat => L.filter (ofP (5 - (k : Int)))) ∧ OwnR 22 1 encSl wr w1.heap.size R.val R.L ∧ (∀ x ∈ R.L, TRow 39 DnB 6 wr x) ∧ Below w1.heap.size w1 wr
set_option maxHeartbeats 8000000 in
theorem back34_walk (s : Sl Dn) (w : World) (h : s.At DnB 6 w) : Calls Try.prog 7 #[s.val] w fun e w' => e = .returned (.bool true) ∧ Below w.heap.size w w' := by
  have HF := hide (few34_any s w h)
  have HA := hide (fewS_at h)
  have HL := hide (fewS_len s)
  clear h
  generalize fewS s = q at *
  have hl40 := HL.out
  have hqc := HA.out.2
  go_enter Try.func7, Try.ntmps7
  go_wp2_with fail
  refine HF.out.mono ?_
  rintro e w' ⟨rfl, hww⟩
  rw [hww]
  clear HF hww w'
  have HQ := hide (show (⟨q.A, q.c, q.L⟩ : Sl Dn) = q from rfl)
  unfold Sl.val
  have hl2 : q.L.length ≤ 9223372036854775807 := by omega
  go_wp2_with fail
  go_loopw [3] (fun i wr => BkRel w q.L i wr) (fun i _ => q.L.length - (intOf i).toNat)
  case atStart => exact ⟨0, Nat.zero_le _, rfl, ⟨fun i x hi => by omega, fun i x y hi => by omega⟩, Below.refl _ _⟩
  case round =>
    obtain ⟨k, hk, rfl, hG, hb⟩ := hrel
    by_cases hlt : k < q.L.length
    · have hx := List.getElem?_eq_getElem hlt
      obtain ⟨a, hA, g0, g1, g2, g3, g4, g5⟩ := (HA.out.1.below DnB.keeps hb) k _ hx
      have kI : (k : Int) < (q.L.length : Int) := by omega
      have kJ : (0 : Int) ≤ (k : Int) := by omega
      have HG := hide (fun h0 h5 hc => good_step hG hx h0 h5 hc)
      have HRJ := hide (fun (j : Nat) (hj : j < q.L.length) => (HA.out.1.below DnB.keeps hb) j _ (List.getElem?_eq_getElem hj))
      have HNX := hide (fun (j : Nat) (hj : j < q.L.length) => List.getElem?_eq_getElem hj)
      generalize q.L[k] = x at *
      obtain ⟨xt, xs, xn, xd, xp, xf⟩ := x
      simp only at g0 g1 g2 g3 g4 g5
      obtain ⟨p, hO, h0, hne, hI⟩ := bel_hidden wr wr.drew (Below.refl _ _).drew
      have k0 := fun i : Wo p => keepc (hI i) g0
      have k1 := fun i : Wo p => keepc (hI i) g1
      have k2 := fun i : Wo p => keepc (hI i) g2
      have k3 := fun i : Wo p => keepc (hI i) g3
      have k4 := fun i : Wo p => keepc (hI i) g4
      have HBI := hide (fun i : Wo p => below_after hb (hI i))
      have HI := hide hI
      have HP := hide hO
      have H0 := hide h0
      have HHA := hide hA
      rw [hA]
      clear hI hO h0 hb hx g0 g1 g2 g3 g4 g5 hG hA
      by_cases hd0 : xd < 0
      · have e0 : decide (xd < 0) = true := decide_eq_true hd0
        clear HG HRJ HNX
        go_upto_region 5 with fail
        refine wp_region_quietC (by kernel_rfl) (by kernel_rfl) H0.out ?_
        repeat (go_big_quiet_step (fail))
        refine wpQuiet_nil ?_
        intro _ hw'
        obtain ⟨i, rfl⟩ := hw'
        have hi := hide (HBI.out i)
        generalize i.W = W1 at *
        clear k0 k1 k2 k3 k4 HBI HP H0 hne HI i
        go_wp2_with fail
        refine (awake34 _).mono ?_
        rintro e w3 ⟨rfl, hb3⟩
        have HB3 := hide (below_after hi.out hb3)
        clear hb3
        go_wp2_with fail
        go_ret
        exact ⟨rfl, HB3.out⟩
      · have e0 : decide (xd < 0) = false := decide_eq_false hd0
        by_cases hd5 : 5 < xd
        · have e5 : decide (5 < xd) = true := decide_eq_true hd5
          clear HG HRJ HNX
          go_upto_region 5 with fail
          refine wp_region_quietC (by kernel_rfl) (by kernel_rfl) H0.out ?_
          repeat (go_big_quiet_step (fail))
          refine wpQuiet_nil ?_
          intro _ hw'
          obtain ⟨i, rfl⟩ := hw'
          have hi := hide (HBI.out i)
          generalize i.W = W1 at *
          clear k0 k1 k2 k3 k4 HBI HP H0 hne HI i
          go_wp2_with fail
          refine (awake34 _).mono ?_
          rintro e w3 ⟨rfl, hb3⟩
          have HB3 := hide (below_after hi.out hb3)
          clear hb3
          go_wp2_with fail
          go_ret
          exact ⟨rfl, HB3.out⟩
        · have e5 : decide (5 < xd) = false := decide_eq_false hd5
          have HG1 := hide (HG.out (by simp only; omega) (by simp only; omega))
          clear HG
          by_cases hk0 : k = 0
          · have HG2 := hide (HG1.out (fun j y hj => by omega))
            have ek : decide ((0 : Int) < (k : Int)) = false := decide_eq_false (by omega)
            have ek2 : decide (0 < k) = false := decide_eq_false (by omega)
            clear HRJ HNX HG1 hk0
            go_upto_region 5 with fail
            refine wp_region_quietC (by kernel_rfl) (by kernel_rfl) H0.out ?_
            repeat (go_big_quiet_step (fail))
            refine wpQuiet_nil ?_
            intro _ hw'
            obtain ⟨i, rfl⟩ := hw'
            have hi := hide (HBI.out i)
            generalize i.W = W1 at *
            clear k0 k1 k2 k3 k4 HBI HP H0 hne HI i ek ek2 hd0 hd5 e0 e5
            go_wp2_with fail
            go_roundw
            case rel => exact ⟨k + 1, by omega, by go_num, HG2.out, hi.out⟩
            case measure => simp [intOf]; omega
          · obtain ⟨j, hj⟩ : ∃ j, k = j + 1 := ⟨k - 1, by omega⟩
            obtain ⟨a', hA', m0, m1, m2, m3, m4, m5⟩ := HRJ.out j (by omega)
            obtain rfl : a = a' := Option.some.inj (HHA.out.symm.trans hA')
            have HY := hide (HNX.out j (by omega))
            have HJ := hide hj
            generalize q.L[j] = y at *
            have hcm := fun W => rcmp_dn y (xt, xs, xn, xd, xp, xf) W
            have HG2 := hide (fun hC : cD y (xt, xs, xn, xd, xp, xf) < 0 => HG1.out (fun j' y' hj' hy' => by
              obtain rfl : j = j' := by have := HJ.out; omega
              rw [HY.out] at hy'
              cases hy'
              exact hC))
            generalize cD y (xt, xs, xn, xd, xp, xf) = C at *
            obtain ⟨yt, ys, yn, yd, yp, yf⟩ := y
            simp only at m0 m1 m2 m3 m4 m5 hcm
            have ek : decide ((0 : Int) < (k : Int)) = true := decide_eq_true (by omega)
            have ek2 : decide (0 < k) = true := decide_eq_true (by omega)
            have eJ : (k : Int) - 1 = (j : Int) := by omega
            have wJ : IntKind.i64.wrap (j : Int) = (j : Int) := IntWalk.i64_in _ (by omega)
            have jJ : (0 : Int) ≤ (j : Int) := by omega
            have jI : (j : Int) < (q.L.length : Int) := by omega
            have j0 := fun i : Wo p => keepc (HI.out i) m0
            have j1 := fun i : Wo p => keepc (HI.out i) m1
            have j2 := fun i : Wo p => keepc (HI.out i) m2
            have j3 := fun i : Wo p => keepc (HI.out i) m3
            have j4 := fun i : Wo p => keepc (HI.out i) m4
            clear HRJ HNX HG1 m0 m1 m2 m3 m4 m5 hj hA' HY
            go_upto_region 5 with fail
            refine wp_region_quietC (by kernel_rfl) (by kernel_rfl) H0.out ?_
            repeat (go_big_quiet_step (first
              | (go_at_call 32; with_reducible exact Calls.quietC HP.out (hcm _))))
            refine wpQuiet_nil ?_
            intro _ hw'
            obtain ⟨i, rfl⟩ := hw'
            have hi := hide (HBI.out i)
            generalize i.W = W1 at *
            clear k0 k1 k2 k3 k4 j0 j1 j2 j3 j4 HBI HP H0 hne HI i ek ek2 hk0 hd0 hd5 e0 e5 hcm
            by_cases hC : C < 0
            · have HG3 := hide (HG2.out hC)
              have hC2 : ¬ 0 ≤ C := by omega
              go_wp2_with fail
              go_roundw
              case rel => exact ⟨k + 1, by omega, by go_num, HG3.out, hi.out⟩
              case measure => simp [intOf]; omega
            · have hC2 : 0 ≤ C := by omega
              go_wp2_with fail
              refine (awake34 _).mono ?_
              rintro e w3 ⟨rfl, hb3⟩
              have HB3 := hide (below_after hi.out hb3)
              clear hb3
              go_wp2_with fail
              go_ret
              exact ⟨rfl, HB3.out⟩
    · obtain rfl : k = q.L.length := by omega
      have HGB := hide (good_back hG)
      have HA1 := hide (HA.out.below DnB.keeps hb)
      have HB1 := hide hb
      clear hG hb HA
      generalize wr = wo at *
      go_wp2_with fail
      go_loopw [4, 5] (fun v i wx => Bk2 wo w q.L v i wx) (fun _ i _ => 6 - (intOf i).toNat)
      case atStart => exact ⟨0, ⟨none, 0, []⟩, Nat.zero_le _, rfl, rfl, rfl, OwnR.nil, (fun x hx => by cases hx), Below.refl _ _⟩
      case round =>
        obtain ⟨k, R, hk6, rfl, rfl, hRm, hown, hT, hb⟩ := hrel
        have hRl : R.L.length = k := by
          have := congrArg List.length hRm
          simpa using this
        by_cases hlt : k < 6
        · have k6 : (k : Int) < 6 := by omega
          have kJ : (0 : Int) ≤ (k : Int) := by omega
          have w5 : IntKind.i64.wrap (5 - (k : Int)) = 5 - (k : Int) := IntWalk.i64_in _ (by omega)
          have HO := hide (of34_any q (5 - (k : Int)) wr (HA1.out.below DnB.keeps hb) (by omega))
          have HRM := hide hRm
          have HOW := hide hown
          have HT := hide hT
          have HBB := hide hb
          have hR1M : R.L.length ≤ 1000000 := by omega
          clear hRm hown hT hb hRl
          unfold Sl.val at HO
          go_wp2_with fail
          refine HO.out.mono ?_
          rintro e w4 ⟨sq, rfl, hsq, hso, hb4⟩
          obtain ⟨R2, w5', hrun, hR2, hown2, hb5, hx5⟩ := sl_add (wc := wo) (HOW.out.below hb4) (below_after HBB.out hb4) sq hR1M 42
          have HR2 := hide (show R2.L.map (·.L) = (List.range (k + 1)).map (fun k : Nat => q.L.filter (ofP (5 - (k : Int)))) by
            rw [hR2, List.map_append, HRM.out, List.range_succ, List.map_append]
            show _ ++ [sq.L] = _ ++ [q.L.filter (ofP (5 - (k : Int)))]
            rw [hsq])
          have HO2 := hide (show OwnR 22 1 encSl w5' wo.heap.size R2.val R2.L by rw [hR2]; exact hown2)
          have HT2 := hide (show ∀ x ∈ R2.L, TRow 39 DnB 6 w5' x by
            intro x hx
            rw [hR2] at hx
            have hT4 : TRow 39 DnB 6 w4 x := by
              rcases List.mem_append.1 hx with hx | hx
              · exact (HT.out x hx).below DnB.keeps hb4
              · obtain rfl := List.mem_singleton.1 hx
                exact own_dn hso
            exact hT4.grownT dnb_local hx5.1 (fun g cs hb => fun e => own_blk_ne (HOW.out.below hb4) hb (by decide) e.symm))
          have HB5 := hide hb5
          clear hsq hso hb4 hR2 hown2 hb5 hx5 HO
          unfold Sl.val at hrun ⊢
          generalize sq.L.length = sn at *
          generalize sq.A = sA at *
          generalize sq.c = sc at *
          go_wp2_with (at_builtin; go_must (refine wpList_of_append rfl _ w5' _ _ 42 _ _ _ rfl rfl rfl hrun ?_))
          go_roundw
          case rel => exact ⟨k + 1, R2, by omega, rfl, by go_num, HR2.out, HO2.out, HT2.out, HB5.out⟩
          case measure => simp [intOf]; omega
        · obtain rfl : k = 6 := by omega
          have hR6 : R.L.length ≤ 6 := by omega
          have htot : Mrg.total (R.L.map (·.L)) ≤ 240 := by
            have := total_le (R.L.map (·.L)) (fun l hl => by
              rw [hRm] at hl
              obtain ⟨i, _, rfl⟩ := List.mem_map.1 hl
              exact Nat.le_trans (List.length_filter_le _ _) hl40)
            rw [List.length_map] at this
            omega
          have HRA := hide (own_sl hown (fun x hx => (hT x hx).at_))
          have HMQ := hide (show mrgP (R.L.map (·.L)) = q.L by rw [hRm]; exact HGB.out)
          have HA2 := hide (HA1.out.below DnB.keeps hb)
          have HB2 := hide (below_after HB1.out hb)
          clear hRm hown hT hb HGB HA1 HB1
          go_wp2_with fail
          refine (awake34 _).mono ?_
          rintro e w4 ⟨rfl, hb4⟩
          have HRA4 := hide (HRA.out.below (SlAt.keeps DnB.keeps 6) hb4)
          have HA4 := hide (HA2.out.below DnB.keeps hb4)
          have HB4 := hide (below_after HB2.out hb4)
          clear hb4 HRA HA2 HB2
          go_wp2_with fail
          refine (merge34_any R w4 HRA4.out (by omega) (by omega)).mono ?_
          rintro e w5 ⟨m, rfl, hm, hmo, hb5⟩
          rw [HMQ.out] at hm
          have HM := hide hm
          have HMA := hide (own_dn hmo).at_
          have HA5 := hide (HA4.out.below DnB.keeps hb5)
          have HB5 := hide (below_after HB4.out hb5)
          clear hm hmo hb5 HA4 HB4 HRA4
          go_wp2_with fail
          refine (r9same_any m q w5 HMA.out HA5.out).mono ?_
          rw [HM.out, eqL_self]
          rintro e w6 ⟨rfl, hb6⟩
          have HB6 := hide (below_after HB5.out hb6)
          clear hb6
          go_wp2_with fail
          go_ret
          exact ⟨rfl, HB6.out⟩
end Go.Proofs.Ytpfcmfannkbipaa
end
