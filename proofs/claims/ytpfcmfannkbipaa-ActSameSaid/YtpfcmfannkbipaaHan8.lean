/- What comes of an event handled, in memory that can be read; the law's light; events that are the same are the same. No condition. -/
import Derived.Test.YtpfcmfannkbipaaSame8
import Derived.Test.YtpfcmfannkbipaaOpen8
import Derived.Test.YtpfcmfannkbipaaLight08
import Derived.Test.YtpfcmfannkbipaaRAct3
set_option linter.unusedVariables false
set_option linter.unusedSimpArgs false
set_option maxRecDepth 20000
namespace Go.Proofs.Ytpfcmfannkbipaa
open Go.RowKit Go.Deep

attribute [local go_sem] run_store_float
theorem rcheck_any (m : Mdl) (w : World) (h : m.At w) : Calls Try.prog 43 #[m.val] w fun e w' => e = .returned (.int .i64 (chkE m)) ∧ Below w.heap.size w w' := by
  by_cases hn : isNan m.fin
  · exact rcheck_bad m w h (.inr hn)
  · cases hc : countsB m
    · exact rcheck_bad m w h (.inl hc)
    · exact rcheck_good m w h hc hn
theorem hE_parts {m : Mdl} {lp : Int} {s : StP} {e : Ev} (h : hE m lp s e = 0) : chkB m = true ∧ 0 ≤ lp ∧ lp < m.ll.L.length ∧ ¬ isNan e.1 ∧ s.1.length ≤ 8 ∧ (0 ≤ s.2.1 ∧ s.2.1 ≤ 1099511627776) ∧ (0 ≤ s.2.2 ∧ s.2.2 ≤ 1099511627776) := by
  unfold hE at h
  cases hc : chkB m
  · rw [hc] at h; simp at h
  · rw [hc, if_pos rfl] at h
    cases hb : mayB m lp s e
    · rw [hb] at h; simp at h
    · unfold mayB at hb
      simp only [Bool.and_eq_true, decide_eq_true_eq] at hb
      obtain ⟨⟨b1, b2, b3, b4⟩, b5, b6⟩ := hb
      exact ⟨rfl, b1, b2, b3, b4, cntB_yes b5, cntB_yes b6⟩
theorem hO_ok {m : Mdl} {lp : Int} {s : St} {e : Ev} {w : World} (hm : m.At w) (hs : s.At w) (he : EvOk e) (h : hE m lp s.pl e = 0) : OutOk s.wd.L.length m.ll.L.length (hO m lp s.pl e) := by
  obtain ⟨hchk, h0, h1, _, h8, hs0, hd0⟩ := hE_parts h
  obtain ⟨x, sp, hx, hsp, p0, p1, hx8, hmpl⟩ := chk_lp hchk h0 h1
  obtain ⟨hc1, hc2, hc3, hc4, hc5, hc6, hc7⟩ := chk_counts hchk
  obtain ⟨b, hb, b0, hspA⟩ := hm.2.2.2.1.1 _ sp hsp
  have hinp : Inp.At w ⟨s.wd, e.2.2.2.2, lp, m.ll.L.length, m.seed, s.dice⟩ := ⟨hs.1, he.2.2.2.2, ⟨by simp only; omega, by simp only; omega⟩, ⟨by simp only; omega, by simp only; omega⟩, hm.1, hs.2.2⟩
  have hok := out_ok hspA hinp
  have hOO : outV sp.L s.wd.L e.2.2.2.2 lp m.ll.L.length m.seed s.dice = hO m lp s.pl e := by unfold hO; rw [hmpl]; rfl
  rw [← hOO]
  exact hok
/-- What holds of what comes of an event. -/
structure HOk (R : StP × List Ev × Int) : Prop where
  wi : ∀ z ∈ R.1.1, I64 z
  si : I64 R.1.2.1
  di : I64 R.1.2.2
  el : R.2.1.length ≤ 4
theorem hR_ok {m : Mdl} {lp : Int} {s : St} {e : Ev} {w : World} (hm : m.At w) (hs : s.At w) (he : EvOk e) : HOk (hR m lp s.pl e) := by
  have hz : I64 0 := ⟨by decide, by decide⟩
  unfold hR
  by_cases h : hE m lp s.pl e = 0
  · rw [if_pos h]
    have ho := hO_ok hm hs he h
    obtain ⟨_, _, _, _, _, hs0, hd0⟩ := hE_parts h
    have hsW := sl_ints hs.1
    unfold hV
    split
    · exact ⟨hsW, hs.2.1, hs.2.2, by simp⟩
    · split
      · refine ⟨ho.wi, ?_, ho.di, Nat.le_trans (sndV_len _ _ _ _ _ _ 0) ho.s4⟩
        have := ho.s4
        simp only at hs0 ⊢
        exact ⟨by omega, by omega⟩
      · exact ⟨hsW, hs.2.1, hs.2.2, by simp⟩
  · rw [if_neg h]
    exact ⟨by simp, hz, hz, by simp⟩
/-- An event's cells, whatever they hold. -/
def EvB : Dec Ev := fun w p x => w.cell? p = some (.float .f64 x.1) ∧ w.cell? ⟨p.block, p.off + 1, none⟩ = some (.int .i64 x.2.1) ∧ w.cell? ⟨p.block, p.off + 2, none⟩ = some (.int .i64 x.2.2.1) ∧ w.cell? ⟨p.block, p.off + 3, none⟩ = some (.int .i64 x.2.2.2.1) ∧ w.cell? ⟨p.block, p.off + 4, none⟩ = some (.int .i64 x.2.2.2.2)
theorem EvB.keeps : EvB.keeps := fun _ _ _ _ hb h => ⟨keepc hb h.1, keepc hb h.2.1, keepc hb h.2.2.1, keepc hb h.2.2.2.1, keepc hb h.2.2.2.2⟩
theorem makes_evb : Makes EvB encEv (fun _ _ => True) := fun w g o x _ h => ⟨h 0 _ rfl, h 1 _ rfl, h 2 _ rfl, h 3 _ rfl, h 4 _ rfl⟩
theorem own_evb {W : World} {B : Nat} {q : Sl Ev} (h : OwnR 37 5 encEv W B q.val q.L) : q.At EvB 5 W := OwnR.sl (size := 5) (s := q) (by decide) (fun _ => rfl) makes_evb h (fun _ _ => trivial)
/-- act.Handle, what it hands back written out. -/
def HanW (w : World) (E : Int) (R : StP × List Ev × Int) (e : Ending) (w' : World) : Prop :=
  ∃ (wd : Sl Int) (q : Sl Ev), e = .returned (.tuple #[.agg #[wd.val, .int .i64 R.1.2.1, .int .i64 R.1.2.2], q.val, .int .i64 R.2.2, .int .i64 E]) ∧ wd.L = R.1.1 ∧ q.L = R.2.1 ∧ wd.At IntAt 1 w' ∧ q.At EvB 5 w' ∧ OwnR 3 1 encInt w' w.heap.size wd.val wd.L ∧ OwnR 37 5 encEv w' w.heap.size q.val q.L ∧ Below w.heap.size w w'
theorem handlew_any (m : Mdl) (lp : Int) (s : St) (e : Ev) (w : World) (hm : m.At w) (hs : s.At w) (he : EvOk e) :
    Calls Try.prog 41 #[m.val, .int .i64 lp, s.val, .agg #[.float .f64 e.1, .int .i64 e.2.1, .int .i64 e.2.2.1, .int .i64 e.2.2.2.1, .int .i64 e.2.2.2.2]] w (HanW w (hE m lp s.pl e) (hR m lp s.pl e)) := by
  refine (handle_any m lp s e w hm hs he).mono ?_
  rintro x w' ⟨⟨wd, a, b⟩, q, rfl, hpl, hqL, ho1, ho2, hb⟩
  have hok := hR_ok (lp := lp) hm hs he
  generalize hR m lp s.pl e = R at *
  obtain ⟨⟨r1, r2, r3⟩, r4, r5⟩ := R
  simp only [St.pl, Prod.mk.injEq] at hpl
  obtain ⟨rfl, rfl, rfl⟩ := hpl
  refine ⟨wd, q, rfl, rfl, hqL, ?_, own_evb ho2, ho1, ho2, hb⟩
  exact OwnR.sl (size := 1) (s := wd) (by decide) (fun _ => rfl) makes_int ho1 hok.wi
/-- R08.Handle, what it hands back written out. -/
def RHanW (w : World) (sw : Sl Int) (E : Int) (R : StP × List Ev × Int) (e : Ending) (w' : World) : Prop :=
  ∃ (wd : Sl Int) (q : Sl Ev), e = .returned (.tuple #[.agg #[wd.val, .int .i64 R.1.2.1, .int .i64 R.1.2.2], q.val, .int .i64 R.2.2, .int .i64 E]) ∧ wd.L = R.1.1 ∧ q.L = R.2.1 ∧ wd.At IntAt 1 w' ∧ q.At EvB 5 w' ∧ Below w.heap.size w w' ∧ (wd = sw ∨ OwnR 3 1 encInt w' w.heap.size wd.val wd.L) ∧ OwnR 37 5 encEv w' w.heap.size q.val q.L
theorem rhandlew_any (m : Mdl) (lp : Int) (s : St) (e : Ev) (w : World) (hm : m.At w) (hs : s.At w) (he : EvOk e) (hck : chkB m = true) :
    Calls Try.prog 44 #[m.val, .int .i64 lp, s.val, .agg #[.float .f64 e.1, .int .i64 e.2.1, .int .i64 e.2.2.1, .int .i64 e.2.2.2.1, .int .i64 e.2.2.2.2]] w (RHanW w s.wd (hE m lp s.pl e) (hR m lp s.pl e)) := by
  have key : Calls Try.prog 44 #[m.val, .int .i64 lp, s.val, .agg #[.float .f64 e.1, .int .i64 e.2.1, .int .i64 e.2.2.1, .int .i64 e.2.2.2.1, .int .i64 e.2.2.2.2]] w (RHanTo w s.wd (hE m lp s.pl e) (hR m lp s.pl e)) := by
    by_cases h : hE m lp s.pl e = 0
    · obtain ⟨k, rfl⟩ : ∃ k : Nat, lp = k := ⟨lp.toNat, by have := hE_lp h; omega⟩
      exact rhandle_good m k s e w hm hs he h
    · refine rhandle_bad m lp s e w hm hs hck ?_
      unfold hE at h
      rw [hck, if_pos rfl] at h
      cases hb : mayB m lp s.pl e
      · rfl
      · rw [hb] at h; simp at h
  refine key.mono ?_
  rintro x w' ⟨⟨wd, a, b⟩, q, rfl, hpl, hqL, ⟨ho1, ho3⟩, ho2, hb⟩
  generalize hR m lp s.pl e = R at *
  obtain ⟨⟨r1, r2, r3⟩, r4, r5⟩ := R
  simp only [St.pl, Prod.mk.injEq] at hpl
  obtain ⟨rfl, rfl, rfl⟩ := hpl
  exact ⟨wd, q, rfl, rfl, hqL, ho1, own_evb ho2, hb, ho3, ho2⟩
def SeRel (w : World) (n : Nat) (i : Value) (wr : World) : Prop := ∃ k : Nat, k ≤ n ∧ i = .int .i64 k ∧ Below w.heap.size w wr
set_option maxHeartbeats 1000000 in
/-- The very events are the same. -/
theorem sameev_self (s t : Sl Ev) (w : World) (hs : s.At EvB 5 w) (ht : t.At EvB 5 w) (he : s.L = t.L) : Calls Try.prog 45 #[s.val, t.val] w fun e w' => e = .returned (.bool true) ∧ Below w.heap.size w w' := by
  obtain ⟨A, c, L⟩ := s
  obtain ⟨A', c', L'⟩ := t
  simp only at he
  subst he
  obtain ⟨hr, hn, hc⟩ := hs
  obtain ⟨hr', hn', hc'⟩ := ht
  simp only [Sl.val] at *
  have hl : L.length ≤ 9223372036854775807 := by omega
  go_enter Try.func45, Try.ntmps45
  go_wp2_with fail
  go_loopw [5] (fun i wr => SeRel w L.length i wr) (fun i _ => L.length - (intOf i).toNat)
  case atStart => exact ⟨0, Nat.zero_le _, rfl, Below.refl _ _⟩
  case round =>
    obtain ⟨k, hk, rfl, hb⟩ := hrel
    by_cases hlt : k < L.length
    · have hx := List.getElem?_eq_getElem hlt
      obtain ⟨a, rfl, g0⟩ := (hr.below EvB.keeps hb) k _ hx
      obtain ⟨a', rfl, g0'⟩ := (hr'.below EvB.keeps hb) k _ hx
      have kI : (k : Int) < (L.length : Int) := by omega
      have kJ : (0 : Int) ≤ (k : Int) := by omega
      generalize L[k] = x at *
      obtain ⟨xt, xs, xn, xd, xp⟩ := x
      obtain ⟨p, hO, h0, hne, hI⟩ := bel_hidden wr wr.drew (Below.refl _ _).drew
      have k0 := fun i : Wo p => keepc (hI i) g0.1
      have k1 := fun i : Wo p => keepc (hI i) g0.2.1
      have k2 := fun i : Wo p => keepc (hI i) g0.2.2.1
      have k3 := fun i : Wo p => keepc (hI i) g0.2.2.2.1
      have k4 := fun i : Wo p => keepc (hI i) g0.2.2.2.2
      have j0 := fun i : Wo p => keepc (hI i) g0'.1
      have j1 := fun i : Wo p => keepc (hI i) g0'.2.1
      have j2 := fun i : Wo p => keepc (hI i) g0'.2.2.1
      have j3 := fun i : Wo p => keepc (hI i) g0'.2.2.2.1
      have j4 := fun i : Wo p => keepc (hI i) g0'.2.2.2.2
      simp only at k0 k1 k2 k3 k4 j0 j1 j2 j3 j4
      have d1 : (xd != xd) = false := by simp
      have d2 : (xp != xp) = false := by simp
      have HBI := hide (fun i : Wo p => below_after hb (hI i))
      have HP := hide hO
      have H0 := hide h0
      clear hI hO h0 hb hx g0 g0' hr hr'
      go_upto_region 6 with fail
      refine wp_region_quietC (by kernel_rfl) (by kernel_rfl) H0.out ?_
      repeat (go_big_quiet_step (first
        | (go_at_call 71; exact Calls.quietC HP.out (rsame02_self _ _ _ _))))
      refine wpQuiet_nil ?_
      intro _ hw'
      obtain ⟨i, rfl⟩ := hw'
      have hi := hide (HBI.out i)
      generalize i.W = W1 at *
      clear k0 k1 k2 k3 k4 j0 j1 j2 j3 j4 HBI HP H0 hne i
      go_wp2_with fail
      go_roundw
      case rel => exact ⟨k + 1, by omega, by go_num, hi.out⟩
      case measure => simp [intOf]; omega
    · obtain rfl : k = L.length := by omega
      clear hr hr'
      have HB := hide hb
      clear hb
      go_wp2_with fail
      go_ret
      exact ⟨rfl, HB.out⟩
def lightC (c : Cas) : Bool := L08.lightB c.m && decide (c.s.wd.L.length < 60)
theorem light8_any (c : Cas) (w : World) (h : c.At w) : Calls Try.prog 39 #[c.val] w fun e w' => e = .returned (.bool (lightC c)) ∧ Below w.heap.size w w' := by
  have hX := Blk.new w 63 c.cells
  have hb0 : Below w.heap.size w (w.alloc (.cells c.cells 63)) := (Below.refl _ _).alloc (Nat.le_refl _) _
  have hli := L08.light_any c.m _ (h.m.below hb0)
  have hl : lightC c = (L08.lightB c.m && decide (c.s.wd.L.length < 60)) := rfl
  rw [hl]
  generalize L08.lightB c.m = B at *
  have n1 := h.s.1.2
  clear hl h
  obtain ⟨⟨seed, fin, dl, pl, ll, il⟩, lp, ⟨⟨sA, sc, sl⟩, sent, dice⟩, e⟩ := c
  simp only [Cas.val, Cas.cells, Mdl.val, Sl.val] at *
  have q1 : sl.length ≤ 9223372036854775807 := by omega
  have HL := hide hli
  have HB := hide hb0
  clear hli hb0 n1
  have x0 := hX.cell 0
  have x1 := hX.cell 1
  have x2 := hX.cell 2
  have x3 := hX.cell 3
  have x4 := hX.cell 4
  have x5 := hX.cell 5
  have x6 := hX.cell 6
  have x7 := hX.cell 7
  have x8 := hX.cell 8
  have x9 := hX.cell 9
  have x10 := hX.cell 10
  have x11 := hX.cell 11
  have x12 := hX.cell 12
  have x13 := hX.cell 13
  have x14 := hX.cell 14
  simp only [List.getElem?_toArray, List.getElem?_cons_zero, List.getElem?_cons_succ] at x0 x1 x2 x3 x4 x5 x6 x7 x8 x9 x10 x11 x12 x13 x14
  go_enter Try.func39, Try.ntmps39
  go_upto_region 1 with fail
  generalize World.alloc w _ = w0 at *
  go_wp2_with fail
  refine HL.out.mono ?_
  rintro e w1 ⟨rfl, hb1⟩
  have x7 := keepc hb1 x7
  have HE := hide (below_after HB.out hb1)
  clear hX hb1 HL HB x0 x1 x2 x3 x4 x5 x6 x8 x9 x10 x11 x12 x13 x14
  cases B
  · go_wp2_with fail
    go_ret
    exact ⟨rfl, HE.out⟩
  · by_cases hq : sl.length < 60
    · have HH := hide (show (true && decide (sl.length < 60)) = true by rw [decide_eq_true hq]; rfl)
      have d1 : decide ((sl.length : Int) < 60) = true := decide_eq_true (by omega)
      go_wp2_with fail
      go_ret
      exact ⟨ret_bool HH.out.symm, HE.out⟩
    · have HH := hide (show (true && decide (sl.length < 60)) = false by rw [decide_eq_false hq]; rfl)
      have d1 : decide ((sl.length : Int) < 60) = false := decide_eq_false (by omega)
      clear hq
      go_wp2_with fail
      go_ret
      exact ⟨ret_bool HH.out.symm, HE.out⟩
end Go.Proofs.Ytpfcmfannkbipaa
