/- The walk of R08's Handle, of a model that may be. No condition but a size. -/
import Derived.Test.YtpfcmfannkbipaaRAct1
import Derived.Test.YtpfcmfannkbipaaRv5
import Derived.Test.YtpfcmfannkbipaaAct7
import Derived.Test.YtpfcmfannkbipaaStill
import Derived.Deep.RegionHeld3
import Derived.Deep.DeepCutAuto
import Derived.Deep.QuietTactic
import Derived.BigQuiet
set_option linter.unusedVariables false
set_option linter.unusedSimpArgs false
set_option maxRecDepth 20000
namespace Go.Proofs.Ytpfcmfannkbipaa
open Go.RowKit Go.Deep

attribute [local go_sem] run_store_float
/-- What comes of an event handled by the reference. -/
def RHanTo (w : World) (sw : Sl Int) (E : Int) (R : StP × List Ev × Int) (e : Ending) (w' : World) : Prop :=
  ∃ (c : St) (q : Sl Ev), e = .returned (.tuple #[c.val, q.val, .int .i64 R.2.2, .int .i64 E]) ∧ c.pl = R.1 ∧ q.L = R.2.1 ∧ (c.wd.At IntAt 1 w' ∧ (c.wd = sw ∨ OwnR 3 1 encInt w' w.heap.size c.wd.val c.wd.L)) ∧ OwnR 37 5 encEv w' w.heap.size q.val q.L ∧ Below w.heap.size w w'
theorem cntB_no {n : Int} (h : cntB n = false) : n < 0 ∨ (0 ≤ n ∧ 1099511627776 < n) := by
  unfold cntB at h
  rw [decide_eq_false_iff_not] at h
  omega
theorem cntB_yes {n : Int} (h : cntB n = true) : 0 ≤ n ∧ n ≤ 1099511627776 := by
  unfold cntB at h
  simpa using h
set_option maxHeartbeats 2000000 in
theorem rhandle_bad (m : Mdl) (lp : Int) (s : St) (e : Ev) (w : World) (hm : m.At w) (hs : s.At w) (hck : chkB m = true) (hbad : mayB m lp s.pl e = false) :
    Calls Try.prog 44 #[m.val, .int .i64 lp, s.val, .agg #[.float .f64 e.1, .int .i64 e.2.1, .int .i64 e.2.2.1, .int .i64 e.2.2.2.1, .int .i64 e.2.2.2.2]] w (RHanTo w s.wd (hE m lp s.pl e) (hR m lp s.pl e)) := by
  have hE2 : hE m lp s.pl e = 2 := by unfold hE; rw [hck, hbad]; rfl
  have hRR : hR m lp s.pl e = (([], 0, 0), [], 0) := if_neg (by rw [hE2]; decide)
  rw [hRR, hE2]
  have hP := fun W (hb : Below w.heap.size w W) => (show RHanTo w s.wd 2 (([], 0, 0), [], 0) (.returned (.tuple #[.agg #[.slice none 0 0, .int .i64 0, .int .i64 0], .slice none 0 0, .int .i64 0, .int .i64 2])) W from
    ⟨⟨⟨none, 0, []⟩, 0, 0⟩, ⟨none, 0, []⟩, rfl, rfl, rfl, ⟨⟨fun i x hx => by simp at hx, Nat.le_refl 0, Nat.zero_le _⟩, .inr OwnR.nil⟩, OwnR.nil, hb⟩)
  obtain ⟨hb0, hX, hS, hV, hR⟩ := box4 w #[.int .i64 m.seed, .float .f64 m.fin, m.dl.val, m.pl.val, m.ll.val, m.il.val] #[s.wd.val, .int .i64 s.sent, .int .i64 s.dice] #[.float .f64 e.1, .int .i64 e.2.1, .int .i64 e.2.2.1, .int .i64 e.2.2.2.1, .int .i64 e.2.2.2.2] #[.slice none 0 0, .int .i64 0, .int .i64 0] 58 61 37 61
  generalize RHanTo w s.wd 2 _ = Post at *
  have HP := hide hP
  have l1 : m.ll.L.length ≤ m.ll.c ∧ m.ll.c ≤ 9223372036854775807 := hm.2.2.2.2.1.2
  have l2 : s.wd.L.length ≤ s.wd.c ∧ s.wd.c ≤ 9223372036854775807 := hs.1.2
  have hW := mayB_ways m lp s.pl e
  rw [hbad] at hW
  clear hP hbad hRR hm hs hck hE2
  obtain ⟨t, src, n, dst, pay⟩ := e
  obtain ⟨seed, fin, dl, pl, ⟨lA, lc, ll⟩, il⟩ := m
  obtain ⟨⟨sA, sc, sl⟩, sent, dice⟩ := s
  simp only [Mdl.val, St.val, St.pl, Sl.val] at *
  have q1 : ll.length ≤ 9223372036854775807 := by omega
  have q2 : sl.length ≤ 9223372036854775807 := by omega
  have HB := hide hb0
  clear hb0 l1 l2
  have x0 := hX.cell 0
  have x1 := hX.cell 1
  have x2 := hX.cell 2
  have x3 := hX.cell 3
  have x4 := hX.cell 4
  have x5 := hX.cell 5
  simp only [List.getElem?_toArray, List.getElem?_cons_zero, List.getElem?_cons_succ] at x0 x1 x2 x3 x4 x5
  have s0 := hS.cell 0
  have s1 := hS.cell 1
  have s2 := hS.cell 2
  simp only [List.getElem?_toArray, List.getElem?_cons_zero, List.getElem?_cons_succ] at s0 s1 s2
  have v0 := hV.cell 0
  have v1 := hV.cell 1
  have v2 := hV.cell 2
  have v3 := hV.cell 3
  have v4 := hV.cell 4
  simp only [List.getElem?_toArray, List.getElem?_cons_zero, List.getElem?_cons_succ] at v0 v1 v2 v3 v4
  have r0 := hR.cell 0
  have r1 := hR.cell 1
  have r2 := hR.cell 2
  simp only [List.getElem?_toArray, List.getElem?_cons_zero, List.getElem?_cons_succ] at r0 r1 r2
  have f0 := hR.frozen 0
  have f1 := hR.frozen 1
  have f2 := hR.frozen 2
  clear hX hS hV hR
  rcases hW with ⟨k1, -⟩ | ⟨k1, k2, -⟩ | ⟨k1, k2, k3, -⟩ | ⟨k1, k2, k3, k4, -⟩ | ⟨k1, k2, k3, k4, k5, -⟩ | ⟨k1, k2, k3, k4, k5, k6⟩
  · have d1 : decide (lp < 0) = true := decide_eq_true k1
    clear k1
    go_enter Try.func44, Try.ntmps44
    go_wp2_with fail
    refine bodyPost_ret (v := .tuple #[.agg #[.slice none 0 0, .int .i64 0, .int .i64 0], .slice none 0 0, .int .i64 0, .int .i64 2]) (by simp [results, Try.results44, go_sem, r0, r1, r2]) rfl ?_
    exact HP.out _ HB.out
  · have d1 : decide (lp < 0) = false := decide_eq_false (by omega)
    have d2 : decide ((ll.length : Int) ≤ lp) = true := decide_eq_true k2
    clear k1 k2
    go_enter Try.func44, Try.ntmps44
    go_wp2_with fail
    refine bodyPost_ret (v := .tuple #[.agg #[.slice none 0 0, .int .i64 0, .int .i64 0], .slice none 0 0, .int .i64 0, .int .i64 2]) (by simp [results, Try.results44, go_sem, r0, r1, r2]) rfl ?_
    exact HP.out _ HB.out
  all_goals
    have d1 : decide (lp < 0) = false := decide_eq_false (by omega)
    have d2 : decide ((ll.length : Int) ≤ lp) = false := decide_eq_false (by omega)
  · have ho := fo_nan t t (.inl k3)
    clear k1 k2 k3
    go_enter Try.func44, Try.ntmps44
    go_wp2_with fail
    refine bodyPost_ret (v := .tuple #[.agg #[.slice none 0 0, .int .i64 0, .int .i64 0], .slice none 0 0, .int .i64 0, .int .i64 2]) (by simp [results, Try.results44, go_sem, r0, r1, r2]) rfl ?_
    exact HP.out _ HB.out
  all_goals have ho := fo_self t k3
  · have d3 : decide (8 < (sl.length : Int)) = true := decide_eq_true (by omega)
    clear k1 k2 k3 k4
    go_enter Try.func44, Try.ntmps44
    go_wp2_with fail
    refine bodyPost_ret (v := .tuple #[.agg #[.slice none 0 0, .int .i64 0, .int .i64 0], .slice none 0 0, .int .i64 0, .int .i64 2]) (by simp [results, Try.results44, go_sem, r0, r1, r2]) rfl ?_
    exact HP.out _ HB.out
  all_goals have d3 : decide (8 < (sl.length : Int)) = false := decide_eq_false (by omega)
  · rcases cntB_no k5 with h | ⟨h, h2⟩
    · have d4 : decide (sent < 0) = true := decide_eq_true h
      clear k1 k2 k3 k4 k5 h
      go_enter Try.func44, Try.ntmps44
      go_wp2_with fail
      refine bodyPost_ret (v := .tuple #[.agg #[.slice none 0 0, .int .i64 0, .int .i64 0], .slice none 0 0, .int .i64 0, .int .i64 2]) (by simp [results, Try.results44, go_sem, r0, r1, r2]) rfl ?_
      exact HP.out _ HB.out
    · have d4 : decide (sent < 0) = false := decide_eq_false (by omega)
      have d5 : decide (1099511627776 < sent) = true := decide_eq_true h2
      clear k1 k2 k3 k4 k5 h h2
      go_enter Try.func44, Try.ntmps44
      go_wp2_with fail
      refine bodyPost_ret (v := .tuple #[.agg #[.slice none 0 0, .int .i64 0, .int .i64 0], .slice none 0 0, .int .i64 0, .int .i64 2]) (by simp [results, Try.results44, go_sem, r0, r1, r2]) rfl ?_
      exact HP.out _ HB.out
  · obtain ⟨z1, z2⟩ := cntB_yes k5
    have d4 : decide (sent < 0) = false := decide_eq_false (by omega)
    have d5 : decide (1099511627776 < sent) = false := decide_eq_false (by omega)
    rcases cntB_no k6.symm with h | ⟨h, h2⟩
    · have d6 : decide (dice < 0) = true := decide_eq_true h
      clear k1 k2 k3 k4 k5 k6 h z1 z2
      go_enter Try.func44, Try.ntmps44
      go_wp2_with fail
      refine bodyPost_ret (v := .tuple #[.agg #[.slice none 0 0, .int .i64 0, .int .i64 0], .slice none 0 0, .int .i64 0, .int .i64 2]) (by simp [results, Try.results44, go_sem, r0, r1, r2]) rfl ?_
      exact HP.out _ HB.out
    · have d6 : decide (dice < 0) = false := decide_eq_false (by omega)
      have d7 : decide (1099511627776 < dice) = true := decide_eq_true h2
      clear k1 k2 k3 k4 k5 k6 h h2 z1 z2
      go_enter Try.func44, Try.ntmps44
      go_wp2_with fail
      refine bodyPost_ret (v := .tuple #[.agg #[.slice none 0 0, .int .i64 0, .int .i64 0], .slice none 0 0, .int .i64 0, .int .i64 2]) (by simp [results, Try.results44, go_sem, r0, r1, r2]) rfl ?_
      exact HP.out _ HB.out
end Go.Proofs.Ytpfcmfannkbipaa
