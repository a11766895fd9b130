/- Texts of this claim in one. No condition. -/
import Derived.Test.YtpfcmfannkbipaaJ31
section
set_option linter.unusedVariables false
set_option linter.unusedSimpArgs false
set_option maxRecDepth 20000
namespace Go.Proofs.Ytpfcmfannkbipaa
open Go.RowKit Go.Deep

attribute [local go_sem] run_store_float
theorem same34_law (x y : Dn) : ((fsame x.1 y.1 && (decide (x.2.1 = y.2.1) && decide (x.2.2.1 = y.2.2.1))) && (!(x.2.2.2.1 != y.2.2.2.1) && (!(x.2.2.2.2.1 != y.2.2.2.2.1) && !(x.2.2.2.2.2 != y.2.2.2.2.2)))) = sameD x y := by
  obtain ⟨x0, x1, x2, x3, x4, x5⟩ := x
  obtain ⟨y0, y1, y2, y3, y4, y5⟩ := y
  unfold sameD
  rw [Bool.eq_iff_iff]
  simp [Prod.mk.injEq, and_assoc]
set_option maxHeartbeats 4000000 in
theorem r9same_any (s t : Sl Dn) (w : World) (hs : s.At DnB 6 w) (ht : t.At DnB 6 w) : Calls Try.prog 28 #[s.val, t.val] w fun e w' => e = .returned (.bool (eqL sameD s.L t.L)) ∧ Below w.heap.size w w' := by
  obtain ⟨A, c, L⟩ := s
  obtain ⟨A', c', L'⟩ := t
  obtain ⟨hr, hn, hc⟩ := hs
  obtain ⟨hr', hn', hc'⟩ := ht
  simp only [Sl.val] at *
  by_cases hlen : L.length = L'.length
  · have HL := hide hlen
    rw [← hlen] at hn'
    rw [← hlen]
    clear hlen
    have hl : L.length ≤ 9223372036854775807 := by omega
    go_enter Try.func28, Try.ntmps28
    go_wp2_with fail
    go_loopw [5] (fun i wr => EqRel w sameD L L' i wr) (fun i _ => L.length - (intOf i).toNat)
    case atStart => exact ⟨0, Nat.zero_le _, rfl, by simp, Below.refl _ _⟩
    case round =>
      obtain ⟨k, hk, rfl, hall, hb⟩ := hrel
      by_cases hlt : k < L.length
      · obtain ⟨x, y, hx, hy⟩ := at_len HL.out hlt
        obtain ⟨a, rfl, g0⟩ := (hr.below DnB.keeps hb) k _ hx
        obtain ⟨a', rfl, g0'⟩ := (hr'.below DnB.keeps hb) k _ hy
        have HY := hide (fun h => eqL_step (f := sameD) hx hy hall h)
        have HN := hide (fun h => eqL_no (f := sameD) hx hy h)
        have hS := same34_law x y
        have h1 := fun W => rsame02_any x.1 y.1 x.2.1 x.2.2.1 y.2.1 y.2.2.1 W
        generalize (fsame x.1 y.1 && (decide (x.2.1 = y.2.1) && decide (x.2.2.1 = y.2.2.1))) = b0 at *
        generalize sameD x y = b4 at *
        obtain ⟨xt, xs, xn, xd, xp, xf⟩ := x
        obtain ⟨yt, ys, yn, yd, yp, yf⟩ := y
        simp only at hS h1
        obtain ⟨b1, e1⟩ : ∃ b, (xd != yd) = b := ⟨_, rfl⟩
        obtain ⟨b2, e2⟩ : ∃ b, (xp != yp) = b := ⟨_, rfl⟩
        obtain ⟨b3, e3⟩ : ∃ b, (xf != yf) = b := ⟨_, rfl⟩
        rw [e1, e2, e3] at hS
        have kI : (k : Int) < (L.length : Int) := by omega
        have kJ : (0 : Int) ≤ (k : Int) := by omega
        obtain ⟨p, hO, h0, hne, hI⟩ := bel_hidden wr wr.drew (Below.refl _ _).drew
        have k0 := fun i : Wo p => keepc (hI i) g0.1
        have k1 := fun i : Wo p => keepc (hI i) g0.2.1
        have k2 := fun i : Wo p => keepc (hI i) g0.2.2.1
        have k3 := fun i : Wo p => keepc (hI i) g0.2.2.2.1
        have k4 := fun i : Wo p => keepc (hI i) g0.2.2.2.2.1
        have k5 := fun i : Wo p => keepc (hI i) g0.2.2.2.2.2
        have j0 := fun i : Wo p => keepc (hI i) g0'.1
        have j1 := fun i : Wo p => keepc (hI i) g0'.2.1
        have j2 := fun i : Wo p => keepc (hI i) g0'.2.2.1
        have j3 := fun i : Wo p => keepc (hI i) g0'.2.2.2.1
        have j4 := fun i : Wo p => keepc (hI i) g0'.2.2.2.2.1
        have j5 := fun i : Wo p => keepc (hI i) g0'.2.2.2.2.2
        simp only at k0 k1 k2 k3 k4 k5 j0 j1 j2 j3 j4 j5
        have HBI := hide (fun i : Wo p => below_after hb (hI i))
        have HP := hide hO
        have H0 := hide h0
        clear hI hO h0 hb hx hy hall g0 g0' hr hr'
        rcases b0 with _ | _
        rotate_left
        rcases b1 with _ | _
        rcases b2 with _ | _
        rcases b3 with _ | _
        all_goals
          have hS := hide hS
          go_upto_region 6 with fail
          refine wp_region_quietC (by kernel_rfl) (by kernel_rfl) H0.out ?_
          repeat (go_big_quiet_step (first
            | (go_at_call 71; with_reducible exact Calls.quietC HP.out (h1 _))))
          refine wpQuiet_nil ?_
          intro _ hw'
          obtain ⟨i, rfl⟩ := hw'
          have hi := hide (HBI.out i)
          generalize i.W = W1 at *
          clear k0 k1 k2 k3 k4 k5 j0 j1 j2 j3 j4 j5 HBI HP H0 hne i h1
          go_wp2_with fail
        · go_roundw
          case rel => exact ⟨k + 1, by omega, by go_num, HY.out (hS.out.symm.trans (by simp)), hi.out⟩
          case measure => simp [intOf]; omega
        all_goals
          go_ret
          exact ⟨ret_bool (HN.out (hS.out.symm.trans (by simp))).symm, hi.out⟩
      · obtain rfl : k = L.length := by omega
        have HF := hide (eqL_yes (f := sameD) HL.out hall)
        clear hall hr hr'
        go_wp2_with fail
        go_ret
        exact ⟨ret_bool HF.out.symm, hb⟩
  · have hne : ((L.length : Int) == (L'.length : Int)) = false := by rw [beq_eq_false_iff_ne]; omega
    have hne2 : ((L.length : Int) != (L'.length : Int)) = true := by rw [bne_iff_ne]; omega
    have HF := hide (eqL_len (f := sameD) hlen)
    go_enter Try.func28, Try.ntmps28
    go_wp2_with fail
    go_ret
    exact ⟨ret_bool HF.out.symm, Below.refl _ _⟩
theorem difP_both {a b : List Dn} {k : Nat} {x y : Dn} (hx : a[k]? = some x) (hy : b[k]? = some y) : difP (a.drop k) (b.drop k) k = if sameD x y = true then difP (a.drop (k + 1)) (b.drop (k + 1)) (k + 1) else k := by
  obtain ⟨h1, rfl⟩ := List.getElem?_eq_some_iff.1 hx
  obtain ⟨h2, rfl⟩ := List.getElem?_eq_some_iff.1 hy
  rw [List.drop_eq_getElem_cons h1, List.drop_eq_getElem_cons h2]
  rfl
theorem difP_left {a b : List Dn} {k : Nat} (h : a.length ≤ k) (h' : k < b.length) : difP (a.drop k) (b.drop k) k = k := by
  rw [List.drop_eq_nil_of_le h, List.drop_eq_getElem_cons h']
  rfl
theorem difP_right {a b : List Dn} {k : Nat} (h : b.length ≤ k) (h' : k < a.length) : difP (a.drop k) (b.drop k) k = k := by
  rw [List.drop_eq_nil_of_le h, List.drop_eq_getElem_cons h']
  rfl
theorem difP_end {a b : List Dn} {k : Nat} (h : a.length ≤ k) (h' : b.length ≤ k) : difP (a.drop k) (b.drop k) k = -1 := by
  rw [List.drop_eq_nil_of_le h, List.drop_eq_nil_of_le h']
  rfl
def DifRel (w : World) (a b : List Dn) (i : Value) (wr : World) : Prop := ∃ k : Nat, k ≤ a.length ∧ k ≤ b.length ∧ i = .int .i64 k ∧ difP a b 0 = difP (a.drop k) (b.drop k) k ∧ Below w.heap.size w wr
set_option maxHeartbeats 4000000 in
theorem differ34_any (s t : Sl Dn) (w : World) (hs : s.At DnB 6 w) (ht : t.At DnB 6 w) : Calls Try.prog 27 #[s.val, t.val] w fun e w' => e = .returned (.int .i64 (difP s.L t.L 0)) ∧ Below w.heap.size w w' := by
  obtain ⟨A, c, L⟩ := s
  obtain ⟨A', c', L'⟩ := t
  obtain ⟨hr, hn, hc⟩ := hs
  obtain ⟨hr', hn', hc'⟩ := ht
  simp only [Sl.val] at *
  obtain ⟨M, hM⟩ : ∃ M : Nat, M = max L.length L'.length := ⟨_, rfl⟩
  have hmx : (if L.length < L'.length then (L'.length : Int) else (L.length : Int)) = (M : Int) := by split <;> omega
  have hl : L.length ≤ 9223372036854775807 := by omega
  have hl' : L'.length ≤ 9223372036854775807 := by omega
  have hM2 := hide hM
  clear hM
  go_enter Try.func27, Try.ntmps27
  go_upto_region 1 with fail
  go_wp2_with fail
  go_loopw [11] (fun i wr => DifRel w L L' i wr) (fun i _ => M - (intOf i).toNat)
  case atStart => exact ⟨0, Nat.zero_le _, Nat.zero_le _, rfl, rfl, Below.refl _ _⟩
  case round =>
    obtain ⟨k, hk, hk', rfl, hdif, hb⟩ := hrel
    by_cases hlt : k < M
    · have kI : (k : Int) < (M : Int) := by omega
      have kJ : (0 : Int) ≤ (k : Int) := by omega
      by_cases h1 : k < L.length
      · by_cases h2 : k < L'.length
        · have hx := List.getElem?_eq_getElem h1
          have hy := List.getElem?_eq_getElem h2
          obtain ⟨a, rfl, g0⟩ := (hr.below DnB.keeps hb) k _ hx
          obtain ⟨a', rfl, g0'⟩ := (hr'.below DnB.keeps hb) k _ hy
          have hstep := difP_both hx hy
          generalize L[k] = x at *
          generalize L'[k] = y at *
          have hcall := fun W => ssame34_any x y W
          generalize sameD x y = b0 at *
          obtain ⟨xt, xs, xn, xd, xp, xf⟩ := x
          obtain ⟨yt, ys, yn, yd, yp, yf⟩ := y
          unfold dnV at hcall
          simp only at hcall
          have d1 : decide ((L.length : Int) ≤ (k : Int)) = false := decide_eq_false (by omega)
          have n1 : decide (L.length ≤ k) = false := decide_eq_false (by omega)
          have d2 : decide ((L'.length : Int) ≤ (k : Int)) = false := decide_eq_false (by omega)
          have n2 : decide (L'.length ≤ k) = false := decide_eq_false (by omega)
          have i1 : (k : Int) < (L.length : Int) := by omega
          have i2 : (k : Int) < (L'.length : Int) := by omega
          obtain ⟨p, hO, h0, hne, hI⟩ := bel_hidden wr wr.drew (Below.refl _ _).drew
          have k0 := fun i : Wo p => keepc (hI i) g0.1
          have k1 := fun i : Wo p => keepc (hI i) g0.2.1
          have k2 := fun i : Wo p => keepc (hI i) g0.2.2.1
          have k3 := fun i : Wo p => keepc (hI i) g0.2.2.2.1
          have k4 := fun i : Wo p => keepc (hI i) g0.2.2.2.2.1
          have k5 := fun i : Wo p => keepc (hI i) g0.2.2.2.2.2
          have j0 := fun i : Wo p => keepc (hI i) g0'.1
          have j1 := fun i : Wo p => keepc (hI i) g0'.2.1
          have j2 := fun i : Wo p => keepc (hI i) g0'.2.2.1
          have j3 := fun i : Wo p => keepc (hI i) g0'.2.2.2.1
          have j4 := fun i : Wo p => keepc (hI i) g0'.2.2.2.2.1
          have j5 := fun i : Wo p => keepc (hI i) g0'.2.2.2.2.2
          simp only at k0 k1 k2 k3 k4 k5 j0 j1 j2 j3 j4 j5
          have HBI := hide (fun i : Wo p => below_after hb (hI i))
          have HP := hide hO
          have H0 := hide h0
          have HD := hide (hdif.trans hstep)
          clear hI hO h0 hb hx hy hdif hstep g0 g0' hr hr' hmx
          rcases b0 with _ | _
          all_goals
            go_upto_region 4 with fail
            refine wp_region_quietC (by kernel_rfl) (by kernel_rfl) H0.out ?_
            repeat (go_big_quiet_step (first
              | (go_at_call 26; with_reducible exact Calls.quietC HP.out (hcall _))))
            refine wpQuiet_nil ?_
            intro _ hw'
            obtain ⟨i, rfl⟩ := hw'
            have hi := hide (HBI.out i)
            generalize i.W = W1 at *
            clear k0 k1 k2 k3 k4 k5 j0 j1 j2 j3 j4 j5 HBI HP H0 hne i hcall
            go_wp2_with fail
          · go_ret
            exact ⟨ret_int (HD.out.trans (by simp)).symm, hi.out⟩
          · go_roundw
            case rel => exact ⟨k + 1, by omega, by omega, by go_num, HD.out.trans (by simp), hi.out⟩
            case measure => simp [intOf]; omega
        · have HD := hide (hdif.trans (difP_right (by omega) h1))
          have d1 : decide ((L.length : Int) ≤ (k : Int)) = false := decide_eq_false (by omega)
          have n1 : decide (L.length ≤ k) = false := decide_eq_false (by omega)
          have d2 : decide ((L'.length : Int) ≤ (k : Int)) = true := decide_eq_true (by omega)
          have n2 : decide (L'.length ≤ k) = true := decide_eq_true (by omega)
          have HB := hide hb
          clear hb hdif hr hr' hmx
          go_upto_region 4 with fail
          go_quiet (fail)
          go_wp2_with fail
          go_ret
          exact ⟨ret_int HD.out.symm, below_drewN HB.out _⟩
      · have HD := hide (hdif.trans (difP_left (by omega) (by have := hM2.out; omega)))
        have d1 : decide ((L.length : Int) ≤ (k : Int)) = true := decide_eq_true (by omega)
        have n1 : decide (L.length ≤ k) = true := decide_eq_true (by omega)
        have HB := hide hb
        clear hb hdif hr hr' hmx
        go_upto_region 4 with fail
        go_quiet (fail)
        go_wp2_with fail
        go_ret
        exact ⟨ret_int HD.out.symm, below_drewN HB.out _⟩
    · have hMM := hM2.out
      obtain rfl : k = M := by omega
      have HD := hide (hdif.trans (difP_end (by omega) (by omega)))
      have HB := hide hb
      clear hb hdif hr hr' hmx
      go_wp2_with fail
      go_ret
      exact ⟨ret_int HD.out.symm, HB.out⟩
end Go.Proofs.Ytpfcmfannkbipaa
end

section
set_option linter.unusedVariables false
set_option linter.unusedSimpArgs false
set_option maxRecDepth 20000
namespace Go.Proofs.Ytpfcmfannkbipaa
open Go.RowKit Go.Deep

attribute [local go_sem] run_store_float
/-- One more behind a row of the call's own. -/
theorem dn_add {wc wr : World} {v : Value} {L : List Dn} (hown : OwnR 39 6 encDn wr wc.heap.size v L) (hb : Below wc.heap.size wc wr) (x : Dn) (hL : L.length ≤ 1000000) (ty : TypeId) :
    ∃ (q : Sl Dn) (w2 : World), (Builtin.append_ #[22, 22] ty #[v, .slice (some ⟨wr.heap.size, 0, none⟩) 1 1]).run Try.prog (wr.alloc (.cells #[.float .f64 x.1, .int .i64 x.2.1, .int .i64 x.2.2.1, .int .i64 x.2.2.2.1, .int .i64 x.2.2.2.2.1, .int .i64 x.2.2.2.2.2] 39)) = .ok q.val w2 ∧
      q.L = L ++ [x] ∧ OwnR 39 6 encDn w2 wc.heap.size q.val (L ++ [x]) ∧ Below wc.heap.size wc w2 ∧ GExt wr w2 v q.val := by
  obtain ⟨v2, w2, hrun2, hown2, hext2⟩ := run_append_one (P := Try.prog) 39 22 ty 6 48 (.agg #[.float .f64 0, .int .i64 0, .int .i64 0, .int .i64 0, .int .i64 0, .int .i64 0]) encDn (by decide) (fun _ => rfl) one_dn Try.underlying22 inf_dn rfl wr wc.heap.size v L x _ rfl hown (by omega) (by omega) hb.size
  obtain ⟨q, rfl, hqL, _, _⟩ := hown2.form
  exact ⟨q, w2, hrun2, hqL, hown2, hb.trans ((Below.refl wc.heap.size wr).grown hext2.1 hb.size fun k hk => hown.base k hk), hext2⟩
def DnRel (wc : World) (p : Dn → Bool) (L : List Dn) (v i : Value) (wr : World) : Prop :=
  ∃ (k : Nat) (q : Sl Dn), k ≤ L.length ∧ v = q.val ∧ i = .int .i64 k ∧ q.L = (L.take k).filter p ∧ OwnR 39 6 encDn wr wc.heap.size q.val q.L ∧ Below wc.heap.size wc wr
def DnTo (w : World) (M : List Dn) (e : Ending) (w' : World) : Prop := ∃ q : Sl Dn, e = .returned q.val ∧ q.L = M ∧ OwnR 39 6 encDn w' w.heap.size q.val q.L ∧ Below w.heap.size w w'
theorem filter_take_one {p : Dn → Bool} {L : List Dn} {k : Nat} {x : Dn} (h : L[k]? = some x) : (L.take (k + 1)).filter p = (L.take k).filter p ++ (if p x = true then [x] else []) := by
  obtain ⟨h1, rfl⟩ := List.getElem?_eq_some_iff.1 h
  rw [List.take_succ_eq_append_getElem h1, List.filter_append]
  congr 1
  cases hp : p L[k] <;> simp [hp]
theorem filter_take_le {p : Dn → Bool} {L : List Dn} {k n : Nat} (h : L.length ≤ n) : ((L.take k).filter p).length ≤ n :=
  Nat.le_trans (List.length_filter_le _ _) (by rw [List.length_take]; omega)
def ofP (lp : Int) (x : Dn) : Bool := decide (x.2.2.2.1 = lp)
set_option maxHeartbeats 2000000 in
theorem of34_any (s : Sl Dn) (lp : Int) (w : World) (hs : s.At DnB 6 w) (hl : s.L.length ≤ 1000000) : Calls Try.prog 30 #[s.val, .int .i64 lp] w (DnTo w (s.L.filter (ofP lp))) := by
  obtain ⟨A, c, L⟩ := s
  obtain ⟨hr, hn, hc⟩ := hs
  simp only [Sl.val] at *
  have hl2 : L.length ≤ 9223372036854775807 := by omega
  have hP := fun (q : Sl Dn) W (h0 : q.L = L.filter (ofP lp)) (h1 : OwnR 39 6 encDn W w.heap.size q.val q.L) (h2 : Below w.heap.size w W) => (show DnTo w (L.filter (ofP lp)) (.returned q.val) W from ⟨q, rfl, h0, h1, h2⟩)
  generalize DnTo w (L.filter (ofP lp)) = Post at *
  have HP := hide hP
  clear hP
  go_enter Try.func30, Try.ntmps30
  go_wp2_with fail
  go_loopw [5, 10] (fun v i wr => DnRel w (ofP lp) L v i wr) (fun _ i _ => L.length - (intOf i).toNat)
  case atStart => exact ⟨0, ⟨none, 0, []⟩, Nat.zero_le _, rfl, rfl, rfl, OwnR.nil, Below.refl _ _⟩
  case round =>
    obtain ⟨k, q, hk, rfl, rfl, hqL, hown, hbr⟩ := hrel
    by_cases hlt : k < L.length
    · have hx := List.getElem?_eq_getElem hlt
      obtain ⟨a, hA, g0, g1, g2, g3, g4, g5⟩ := (hr.below DnB.keeps hbr) k _ hx
      have hA2 : A = some a := hA
      clear hA
      subst hA2
      have HF := filter_take_one (p := ofP lp) hx
      generalize L[k] = x at *
      have ha := (Below.refl wr.heap.size wr).alloc (Nat.le_refl _) (.cells #[.float .f64 x.1, .int .i64 x.2.1, .int .i64 x.2.2.1, .int .i64 x.2.2.2.1, .int .i64 x.2.2.2.2.1, .int .i64 x.2.2.2.2.2] 39)
      obtain ⟨q2, w2, hrun, hq2, hown2, hb3, _⟩ := dn_add (wc := w) (hown.below ha) (below_after hbr ha) x (by rw [hqL]; exact filter_take_le hl) 22
      rw [show (wr.alloc (.cells #[.float .f64 x.1, .int .i64 x.2.1, .int .i64 x.2.2.1, .int .i64 x.2.2.2.1, .int .i64 x.2.2.2.2.1, .int .i64 x.2.2.2.2.2] 39)).heap.size = wr.heap.size + 1 from Array.size_push ..] at hrun
      have HO := hide (hown.below ha)
      have HBR := hide (below_after hbr ha)
      have HQ := hide hqL
      have HO2 := hide (show OwnR 39 6 encDn w2 w.heap.size q2.val q2.L from by rw [hq2]; exact hown2)
      have HQ2 := hide hq2
      have HB3 := hide hb3
      obtain ⟨b, hb⟩ : ∃ b, (x.2.2.2.1 == lp) = b := ⟨_, rfl⟩
      have hpx : ofP lp x = b := by rw [← hb]; unfold ofP; rw [Bool.eq_iff_iff]; simp
      rw [hpx] at HF
      have HF := hide HF
      clear hpx
      obtain ⟨xt, xs, xn, xd, xp, xf⟩ := x
      simp only at *
      have kI : (k : Int) < (L.length : Int) := by omega
      have kJ : (0 : Int) ≤ (k : Int) := by omega
      clear hown hbr hqL hown2 hq2 hb3 ha hx hr
      cases b with
      | true =>
        clear HO HBR
        go_wp2_with (at_builtin; go_must (refine wpList_of_append rfl _ w2 _ _ 22 _ _ _ rfl rfl rfl hrun ?_))
        go_roundw
        case rel => exact ⟨k + 1, q2, by omega, rfl, by go_num, by rw [HQ2.out, HF.out, HQ.out]; rfl, HO2.out, HB3.out⟩
        case measure => simp [intOf]; omega
      | false =>
        clear HO2 HB3 hrun
        go_wp2_with fail
        go_roundw
        case rel => exact ⟨k + 1, q, by omega, rfl, by go_num, by rw [HF.out, HQ.out]; simp, HO.out, HBR.out⟩
        case measure => simp [intOf]; omega
    · obtain rfl : k = L.length := by omega
      rw [List.take_length] at hqL
      have HH := hide (HP.out q wr hqL hown hbr)
      clear hqL hown hbr hr
      go_wp2_with fail
      first | exact HH.out | (go_ret; exact HH.out)
set_option maxHeartbeats 2000000 in
theorem rof34_any (s : Sl Dn) (lp : Int) (w : World) (hs : s.At DnB 6 w) (hl : s.L.length ≤ 1000000) : Calls Try.prog 31 #[s.val, .int .i64 lp] w (DnTo w (s.L.filter (ofP lp))) := by
  obtain ⟨A, c, L⟩ := s
  obtain ⟨hr, hn, hc⟩ := hs
  simp only [Sl.val] at *
  have hl2 : L.length ≤ 9223372036854775807 := by omega
  have hP := fun (q : Sl Dn) W (h0 : q.L = L.filter (ofP lp)) (h1 : OwnR 39 6 encDn W w.heap.size q.val q.L) (h2 : Below w.heap.size w W) => (show DnTo w (L.filter (ofP lp)) (.returned q.val) W from ⟨q, rfl, h0, h1, h2⟩)
  generalize DnTo w (L.filter (ofP lp)) = Post at *
  have HP := hide hP
  clear hP
  go_enter Try.func31, Try.ntmps31
  go_wp2_with fail
  go_loopw [5, 6] (fun v i wr => DnRel w (ofP lp) L v i wr) (fun _ i _ => L.length - (intOf i).toNat)
  case atStart => exact ⟨0, ⟨none, 0, []⟩, Nat.zero_le _, rfl, rfl, rfl, OwnR.nil, Below.refl _ _⟩
  case round =>
    obtain ⟨k, q, hk, rfl, rfl, hqL, hown, hbr⟩ := hrel
    by_cases hlt : k < L.length
    · have hx := List.getElem?_eq_getElem hlt
      obtain ⟨a, hA, g0, g1, g2, g3, g4, g5⟩ := (hr.below DnB.keeps hbr) k _ hx
      have hA2 : A = some a := hA
      clear hA
      subst hA2
      have HF := filter_take_one (p := ofP lp) hx
      generalize L[k] = x at *
      obtain ⟨q2, w2, hrun, hq2, hown2, hb3, _⟩ := dn_add (wc := w) hown hbr x (by rw [hqL]; exact filter_take_le hl) 22
      have HO := hide hown
      have HBR := hide hbr
      have HQ := hide hqL
      have HO2 := hide (show OwnR 39 6 encDn w2 w.heap.size q2.val q2.L from by rw [hq2]; exact hown2)
      have HQ2 := hide hq2
      have HB3 := hide hb3
      obtain ⟨b, hb⟩ : ∃ b, (x.2.2.2.1 == lp) = b := ⟨_, rfl⟩
      have hpx : ofP lp x = b := by rw [← hb]; unfold ofP; rw [Bool.eq_iff_iff]; simp
      rw [hpx] at HF
      have HF := hide HF
      clear hpx
      obtain ⟨xt, xs, xn, xd, xp, xf⟩ := x
      simp only at *
      have kI : (k : Int) < (L.length : Int) := by omega
      have kJ : (0 : Int) ≤ (k : Int) := by omega
      clear hown hbr hqL hown2 hq2 hb3 hx hr
      cases b with
      | true =>
        clear HO HBR
        go_wp2_with (at_builtin; go_must (refine wpList_of_append rfl _ w2 _ _ 22 _ _ _ rfl rfl rfl hrun ?_))
        go_roundw
        case rel => exact ⟨k + 1, q2, by omega, rfl, by go_num, by rw [HQ2.out, HF.out, HQ.out]; rfl, HO2.out, HB3.out⟩
        case measure => simp [intOf]; omega
      | false =>
        clear HO2 HB3 hrun
        go_wp2_with fail
        go_roundw
        case rel => exact ⟨k + 1, q, by omega, rfl, by go_num, by rw [HF.out, HQ.out]; simp, HO.out, HBR.out⟩
        case measure => simp [intOf]; omega
    · obtain rfl : k = L.length := by omega
      rw [List.take_length] at hqL
      have HH := hide (HP.out q wr hqL hown hbr)
      clear hqL hown hbr hr
      go_wp2_with fail
      first | exact HH.out | (go_ret; exact HH.out)
def cutP (u v : Nat) (x : Dn) : Bool := decide (0 ≤ timesI x.1 u) && decide (timesI x.1 v < 0)
set_option maxHeartbeats 2000000 in
theorem cut34_any (s : Sl Dn) (u v : Nat) (w : World) (hs : s.At DnB 6 w) (hl : s.L.length ≤ 1000000) : Calls Try.prog 37 #[s.val, .float .f64 u, .float .f64 v] w (DnTo w (s.L.filter (cutP u v))) := by
  obtain ⟨A, c, L⟩ := s
  obtain ⟨hr, hn, hc⟩ := hs
  simp only [Sl.val] at *
  have hl2 : L.length ≤ 9223372036854775807 := by omega
  have hP := fun (q : Sl Dn) W (h0 : q.L = L.filter (cutP u v)) (h1 : OwnR 39 6 encDn W w.heap.size q.val q.L) (h2 : Below w.heap.size w W) => (show DnTo w (L.filter (cutP u v)) (.returned q.val) W from ⟨q, rfl, h0, h1, h2⟩)
  generalize DnTo w (L.filter (cutP u v)) = Post at *
  have HP := hide hP
  clear hP
  go_enter Try.func37, Try.ntmps37
  go_wp2_with fail
  go_loopw [7, 12] (fun z i wr => DnRel w (cutP u v) L z i wr) (fun _ i _ => L.length - (intOf i).toNat)
  case atStart => exact ⟨0, ⟨none, 0, []⟩, Nat.zero_le _, rfl, rfl, rfl, OwnR.nil, Below.refl _ _⟩
  case round =>
    obtain ⟨k, q, hk, rfl, rfl, hqL, hown, hbr⟩ := hrel
    by_cases hlt : k < L.length
    · have hx := List.getElem?_eq_getElem hlt
      obtain ⟨a, hA, g0, g1, g2, g3, g4, g5⟩ := (hr.below DnB.keeps hbr) k _ hx
      have hA2 : A = some a := hA
      clear hA
      subst hA2
      have HF := filter_take_one (p := cutP u v) hx
      generalize L[k] = x at *
      have ha := (Below.refl wr.heap.size wr).alloc (Nat.le_refl _) (.cells #[.float .f64 x.1, .int .i64 x.2.1, .int .i64 x.2.2.1, .int .i64 x.2.2.2.1, .int .i64 x.2.2.2.2.1, .int .i64 x.2.2.2.2.2] 39)
      obtain ⟨q2, w2, hrun, hq2, hown2, hb3, _⟩ := dn_add (wc := w) (hown.below ha) (below_after hbr ha) x (by rw [hqL]; exact filter_take_le hl) 22
      rw [show (wr.alloc (.cells #[.float .f64 x.1, .int .i64 x.2.1, .int .i64 x.2.2.1, .int .i64 x.2.2.2.1, .int .i64 x.2.2.2.2.1, .int .i64 x.2.2.2.2.2] 39)).heap.size = wr.heap.size + 1 from Array.size_push ..] at hrun
      have HO := hide (hown.below ha)
      have HBR := hide (below_after hbr ha)
      have HQ := hide hqL
      have HO2 := hide (show OwnR 39 6 encDn w2 w.heap.size q2.val q2.L from by rw [hq2]; exact hown2)
      have HQ2 := hide hq2
      have HB3 := hide hb3
      have h1 := fun W => times_same x.1 u W
      have h2 := fun W => times_same x.1 v W
      have hpx : cutP u v x = (decide (0 ≤ timesI x.1 u) && decide (timesI x.1 v < 0)) := rfl
      generalize timesI x.1 u = T1 at *
      generalize timesI x.1 v = T2 at *
      rw [hpx] at HF
      have HF := hide HF
      clear hpx
      obtain ⟨xt, xs, xn, xd, xp, xf⟩ := x
      simp only at *
      have kI : (k : Int) < (L.length : Int) := by omega
      have kJ : (0 : Int) ≤ (k : Int) := by omega
      clear hown hbr hqL hown2 hq2 hb3 ha hx hr
      by_cases hT1 : 0 ≤ T1
      · by_cases hT2 : T2 < 0
        · have HF2 := hide (HF.out.trans (by rw [decide_eq_true hT1, decide_eq_true hT2]))
          clear HO HBR HF
          go_wp2_with fail
          refine (h1 _).mono ?_
          rintro e w3 ⟨rfl, rfl⟩
          go_wp2_with fail
          refine (h2 _).mono ?_
          rintro e w3 ⟨rfl, rfl⟩
          go_wp2_with (at_builtin; go_must (refine wpList_of_append rfl _ w2 _ _ 22 _ _ _ rfl rfl rfl hrun ?_))
          go_roundw
          case rel => exact ⟨k + 1, q2, by omega, rfl, by go_num, by rw [HQ2.out, HF2.out, HQ.out]; rfl, HO2.out, HB3.out⟩
          case measure => simp [intOf]; omega
        · have HF2 := hide (HF.out.trans (by rw [decide_eq_true hT1, decide_eq_false hT2]))
          clear HO2 HB3 hrun HF
          go_wp2_with fail
          refine (h1 _).mono ?_
          rintro e w3 ⟨rfl, rfl⟩
          go_wp2_with fail
          refine (h2 _).mono ?_
          rintro e w3 ⟨rfl, rfl⟩
          go_wp2_with fail
          go_roundw
          case rel => exact ⟨k + 1, q, by omega, rfl, by go_num, by rw [HF2.out, HQ.out]; simp, HO.out, HBR.out⟩
          case measure => simp [intOf]; omega
      · have HF2 := hide (HF.out.trans (by rw [decide_eq_false hT1]))
        clear HO2 HB3 hrun HF
        go_wp2_with fail
        refine (h1 _).mono ?_
        rintro e w3 ⟨rfl, rfl⟩
        go_wp2_with fail
        go_roundw
        case rel => exact ⟨k + 1, q, by omega, rfl, by go_num, by rw [HF2.out, HQ.out]; simp, HO.out, HBR.out⟩
        case measure => simp [intOf]; omega
    · obtain rfl : k = L.length := by omega
      rw [List.take_length] at hqL
      have HH := hide (HP.out q wr hqL hown hbr)
      clear hqL hown hbr hr
      go_wp2_with fail
      first | exact HH.out | (go_ret; exact HH.out)
/-! How much lies ahead of a time. -/
def ahP (t : Nat) (x : Dn) : Bool := decide (timesI x.1 t < 0)
def aheadT (t : Nat) (L : List Dn) : Nat := (L.takeWhile (ahP t)).length
theorem aheadT_go {t : Nat} {L : List Dn} {k : Nat} {x : Dn} (h : L[k]? = some x) (hp : timesI x.1 t < 0) : aheadT t (L.drop k) = aheadT t (L.drop (k + 1)) + 1 := by
  obtain ⟨h1, rfl⟩ := List.getElem?_eq_some_iff.1 h
  unfold aheadT
  rw [List.drop_eq_getElem_cons h1, List.takeWhile_cons_of_pos (by unfold ahP; exact decide_eq_true hp)]
  rfl
theorem aheadT_stop {t : Nat} {L : List Dn} {k : Nat} {x : Dn} (h : L[k]? = some x) (hp : ¬ timesI x.1 t < 0) : aheadT t (L.drop k) = 0 := by
  obtain ⟨h1, rfl⟩ := List.getElem?_eq_some_iff.1 h
  unfold aheadT
  rw [List.drop_eq_getElem_cons h1, List.takeWhile_cons_of_neg (by unfold ahP; simpa using hp)]
  rfl
theorem aheadT_end {t : Nat} {L : List Dn} : aheadT t (L.drop L.length) = 0 := by rw [List.drop_length]; rfl
def AhRel (w : World) (t : Nat) (L : List Dn) (i : Value) (wr : World) : Prop := ∃ k : Nat, k ≤ L.length ∧ i = .int .i64 k ∧ aheadT t L = k + aheadT t (L.drop k) ∧ Below w.heap.size w wr
set_option maxHeartbeats 2000000 in
theorem ahead34_any (s : Sl Dn) (t : Nat) (w : World) (hs : s.At DnB 6 w) : Calls Try.prog 35 #[s.val, .float .f64 t] w fun e w' => e = .returned (.int .i64 (aheadT t s.L)) ∧ Below w.heap.size w w' := by
  obtain ⟨A, c, L⟩ := s
  obtain ⟨hr, hn, hc⟩ := hs
  simp only [Sl.val] at *
  have hl2 : L.length ≤ 9223372036854775807 := by omega
  go_enter Try.func35, Try.ntmps35
  go_wp2_with fail
  go_loopw [9] (fun i wr => AhRel w t L i wr) (fun i _ => L.length - (intOf i).toNat)
  case atStart => exact ⟨0, Nat.zero_le _, rfl, by simp, Below.refl _ _⟩
  case round =>
    obtain ⟨k, hk, rfl, hah, hbr⟩ := hrel
    by_cases hlt : k < L.length
    · have hx := List.getElem?_eq_getElem hlt
      obtain ⟨a, hA, g0, g1, g2, g3, g4, g5⟩ := (hr.below DnB.keeps hbr) k _ hx
      have hA2 : A = some a := hA
      clear hA
      subst hA2
      generalize L[k] = x at *
      have ha := (Below.refl wr.heap.size wr).alloc (Nat.le_refl _) (.cells #[.float .f64 x.1, .int .i64 x.2.1, .int .i64 x.2.2.1, .int .i64 x.2.2.2.1, .int .i64 x.2.2.2.2.1, .int .i64 x.2.2.2.2.2] 39)
      have HBR := hide (below_after hbr ha)
      have h1 := fun W => times_same x.1 t W
      have kI : (k : Int) < (L.length : Int) := by omega
      have kJ : (0 : Int) ≤ (k : Int) := by omega
      by_cases hT : timesI x.1 t < 0
      · have hT2 : ¬ (0 : Int) ≤ timesI x.1 t := by omega
        have HA := hide (hah.trans (by rw [aheadT_go hx hT]))
        generalize timesI x.1 t = T at *
        obtain ⟨xt, xs, xn, xd, xp, xf⟩ := x
        simp only at *
        clear hah hbr ha hx hr hT
        go_wp2_with fail
        refine (h1 _).mono ?_
        rintro e w3 ⟨rfl, rfl⟩
        go_wp2_with fail
        go_roundw
        case rel => exact ⟨k + 1, by omega, by go_num, by rw [HA.out]; omega, HBR.out⟩
        case measure => simp [intOf]; omega
      · have hT2 : (0 : Int) ≤ timesI x.1 t := by omega
        have HA := hide (hah.trans (by rw [aheadT_stop hx hT]))
        generalize timesI x.1 t = T at *
        obtain ⟨xt, xs, xn, xd, xp, xf⟩ := x
        simp only at *
        clear hah hbr ha hx hr hT
        go_wp2_with fail
        refine (h1 _).mono ?_
        rintro e w3 ⟨rfl, rfl⟩
        go_wp2_with fail
        go_ret
        exact ⟨ret_int (by rw [HA.out]; simp), HBR.out⟩
    · obtain rfl : k = L.length := by omega
      rw [aheadT_end] at hah
      have HA := hide hah
      clear hah hr
      go_wp2_with fail
      go_ret
      exact ⟨ret_int (by rw [HA.out]; simp), hbr⟩
set_option maxHeartbeats 2000000 in
theorem rahead34_any (s : Sl Dn) (t : Nat) (w : World) (hs : s.At DnB 6 w) : Calls Try.prog 36 #[s.val, .float .f64 t] w fun e w' => e = .returned (.int .i64 (aheadT t s.L)) ∧ Below w.heap.size w w' := by
  obtain ⟨A, c, L⟩ := s
  obtain ⟨hr, hn, hc⟩ := hs
  simp only [Sl.val] at *
  have hl2 : L.length ≤ 9223372036854775807 := by omega
  go_enter Try.func36, Try.ntmps36
  go_wp2_with fail
  go_loopw [5] (fun i wr => AhRel w t L i wr) (fun i _ => L.length - (intOf i).toNat)
  case atStart => exact ⟨0, Nat.zero_le _, rfl, by simp, Below.refl _ _⟩
  case round =>
    obtain ⟨k, hk, rfl, hah, hbr⟩ := hrel
    by_cases hlt : k < L.length
    · have hx := List.getElem?_eq_getElem hlt
      obtain ⟨a, hA, g0, g1, g2, g3, g4, g5⟩ := (hr.below DnB.keeps hbr) k _ hx
      have hA2 : A = some a := hA
      clear hA
      subst hA2
      generalize L[k] = x at *
      have HBR := hide hbr
      have h1 := fun W => rtimes_same x.1 t W
      have kI : (k : Int) < (L.length : Int) := by omega
      have kJ : (0 : Int) ≤ (k : Int) := by omega
      by_cases hT : timesI x.1 t < 0
      · have HA := hide (hah.trans (by rw [aheadT_go hx hT]))
        generalize timesI x.1 t = T at *
        obtain ⟨xt, xs, xn, xd, xp, xf⟩ := x
        simp only at *
        clear hah hbr hx hr
        go_wp2_with fail
        refine (h1 _).mono ?_
        rintro e w3 ⟨rfl, rfl⟩
        go_wp2_with fail
        go_roundw
        case rel => exact ⟨k + 1, by omega, by go_num, by rw [HA.out]; omega, HBR.out⟩
        case measure => simp [intOf]; omega
      · have HA := hide (hah.trans (by rw [aheadT_stop hx hT]))
        generalize timesI x.1 t = T at *
        obtain ⟨xt, xs, xn, xd, xp, xf⟩ := x
        simp only at *
        clear hah hbr hx hr
        go_wp2_with fail
        refine (h1 _).mono ?_
        rintro e w3 ⟨rfl, rfl⟩
        go_wp2_with fail
        go_ret
        exact ⟨ret_int (by rw [HA.out]; simp), HBR.out⟩
    · obtain rfl : k = L.length := by omega
      rw [aheadT_end] at hah
      have HA := hide hah
      clear hah hr
      go_wp2_with fail
      go_ret
      exact ⟨ret_int (by rw [HA.out]; simp), hbr⟩
end Go.Proofs.Ytpfcmfannkbipaa
end
