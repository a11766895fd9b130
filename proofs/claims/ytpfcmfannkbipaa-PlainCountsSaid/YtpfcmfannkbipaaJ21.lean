/- Texts of this claim in one. No condition. -/
import Derived.Test.YtpfcmfannkbipaaJ14
import Derived.Test.YtpfcmfannkbipaaJ19
import Derived.Test.YtpfcmfannkbipaaJ20
import Derived.Test.YtpfcmfannkbipaaJ07
import Derived.Deep.RegionHeld3
import Derived.Deep.DeepCutAuto
import Derived.Deep.QuietTactic
import Derived.BigQuiet
import Derived.Test.YtpfcmfannkbipaaJ15
import Derived.Test.YtpfcmfannkbipaaJ13
section
set_option linter.unusedVariables false
set_option linter.unusedSimpArgs false
set_option maxRecDepth 20000
namespace Go.Proofs.Ytpfcmfannkbipaa
open Go.RowKit Go.Deep

attribute [local go_sem] run_store_float
/-- What comes of an event handled by the reference. -/
def RHanTo (w : World) (sw : Sl Int) (E : Int) (R : StP × List Ev × Int) (e : Ending) (w' : World) : Prop :=
  ∃ (c : St) (q : Sl Ev), e = .returned (.tuple #[c.val, q.val, .int .i64 R.2.2, .int .i64 E]) ∧ c.pl = R.1 ∧ q.L = R.2.1 ∧ (c.wd.At IntAt 1 w' ∧ (c.wd = sw ∨ OwnR 3 1 encInt w' w.heap.size c.wd.val c.wd.L)) ∧ OwnR 37 5 encEv w' w.heap.size q.val q.L ∧ Below w.heap.size w w'
theorem cntB_no {n : Int} (h : cntB n = false) : n < 0 ∨ (0 ≤ n ∧ 1099511627776 < n) := by
  unfold cntB at h
  rw [decide_eq_false_iff_not] at h
  omega
theorem cntB_yes {n : Int} (h : cntB n = true) : 0 ≤ n ∧ n ≤ 1099511627776 := by
  unfold cntB at h
  simpa using h
set_option maxHeartbeats 2000000 in
theorem rhandle_bad (m : Mdl) (lp : Int) (s : St) (e : Ev) (w : World) (hm : m.At w) (hs : s.At w) (hck : chkB m = true) (hbad : mayB m lp s.pl e = false) :
    Calls Try.prog 44 #[m.val, .int .i64 lp, s.val, .agg #[.float .f64 e.1, .int .i64 e.2.1, .int .i64 e.2.2.1, .int .i64 e.2.2.2.1, .int .i64 e.2.2.2.2]] w (RHanTo w s.wd (hE m lp s.pl e) (hR m lp s.pl e)) := by
  have hE2 : hE m lp s.pl e = 2 := by unfold hE; rw [hck, hbad]; rfl
  have hRR : hR m lp s.pl e = (([], 0, 0), [], 0) := if_neg (by rw [hE2]; decide)
  rw [hRR, hE2]
  have hP := fun W (hb : Below w.heap.size w W) => (show RHanTo w s.wd 2 (([], 0, 0), [], 0) (.returned (.tuple #[.agg #[.slice none 0 0, .int .i64 0, .int .i64 0], .slice none 0 0, .int .i64 0, .int .i64 2])) W from
    ⟨⟨⟨none, 0, []⟩, 0, 0⟩, ⟨none, 0, []⟩, rfl, rfl, rfl, ⟨⟨fun i x hx => by simp at hx, Nat.le_refl 0, Nat.zero_le _⟩, .inr OwnR.nil⟩, OwnR.nil, hb⟩)
  obtain ⟨hb0, hX, hS, hV, hR⟩ := box4 w #[.int .i64 m.seed, .float .f64 m.fin, m.dl.val, m.pl.val, m.ll.val, m.il.val] #[s.wd.val, .int .i64 s.sent, .int .i64 s.dice] #[.float .f64 e.1, .int .i64 e.2.1, .int .i64 e.2.2.1, .int .i64 e.2.2.2.1, .int .i64 e.2.2.2.2] #[.slice none 0 0, .int .i64 0, .int .i64 0] 58 61 37 61
  generalize RHanTo w s.wd 2 _ = Post at *
  have HP := hide hP
  have l1 : m.ll.L.length ≤ m.ll.c ∧ m.ll.c ≤ 9223372036854775807 := hm.2.2.2.2.1.2
  have l2 : s.wd.L.length ≤ s.wd.c ∧ s.wd.c ≤ 9223372036854775807 := hs.1.2
  have hW := mayB_ways m lp s.pl e
  rw [hbad] at hW
  clear hP hbad hRR hm hs hck hE2
  obtain ⟨t, src, n, dst, pay⟩ := e
  obtain ⟨seed, fin, dl, pl, ⟨lA, lc, ll⟩, il⟩ := m
  obtain ⟨⟨sA, sc, sl⟩, sent, dice⟩ := s
  simp only [Mdl.val, St.val, St.pl, Sl.val] at *
  have q1 : ll.length ≤ 9223372036854775807 := by omega
  have q2 : sl.length ≤ 9223372036854775807 := by omega
  have HB := hide hb0
  clear hb0 l1 l2
  have x0 := hX.cell 0
  have x1 := hX.cell 1
  have x2 := hX.cell 2
  have x3 := hX.cell 3
  have x4 := hX.cell 4
  have x5 := hX.cell 5
  simp only [List.getElem?_toArray, List.getElem?_cons_zero, List.getElem?_cons_succ] at x0 x1 x2 x3 x4 x5
  have s0 := hS.cell 0
  have s1 := hS.cell 1
  have s2 := hS.cell 2
  simp only [List.getElem?_toArray, List.getElem?_cons_zero, List.getElem?_cons_succ] at s0 s1 s2
  have v0 := hV.cell 0
  have v1 := hV.cell 1
  have v2 := hV.cell 2
  have v3 := hV.cell 3
  have v4 := hV.cell 4
  simp only [List.getElem?_toArray, List.getElem?_cons_zero, List.getElem?_cons_succ] at v0 v1 v2 v3 v4
  have r0 := hR.cell 0
  have r1 := hR.cell 1
  have r2 := hR.cell 2
  simp only [List.getElem?_toArray, List.getElem?_cons_zero, List.getElem?_cons_succ] at r0 r1 r2
  have f0 := hR.frozen 0
  have f1 := hR.frozen 1
  have f2 := hR.frozen 2
  clear hX hS hV hR
  rcases hW with ⟨k1, -⟩ | ⟨k1, k2, -⟩ | ⟨k1, k2, k3, -⟩ | ⟨k1, k2, k3, k4, -⟩ | ⟨k1, k2, k3, k4, k5, -⟩ | ⟨k1, k2, k3, k4, k5, k6⟩
  · have d1 : decide (lp < 0) = true := decide_eq_true k1
    clear k1
    go_enter Try.func44, Try.ntmps44
    go_wp2_with fail
    refine bodyPost_ret (v := .tuple #[.agg #[.slice none 0 0, .int .i64 0, .int .i64 0], .slice none 0 0, .int .i64 0, .int .i64 2]) (by simp [results, Try.results44, go_sem, r0, r1, r2]) rfl ?_
    exact HP.out _ HB.out
  · have d1 : decide (lp < 0) = false := decide_eq_false (by omega)
    have d2 : decide ((ll.length : Int) ≤ lp) = true := decide_eq_true k2
    clear k1 k2
    go_enter Try.func44, Try.ntmps44
    go_wp2_with fail
    refine bodyPost_ret (v := .tuple #[.agg #[.slice none 0 0, .int .i64 0, .int .i64 0], .slice none 0 0, .int .i64 0, .int .i64 2]) (by simp [results, Try.results44, go_sem, r0, r1, r2]) rfl ?_
    exact HP.out _ HB.out
  all_goals
    have d1 : decide (lp < 0) = false := decide_eq_false (by omega)
    have d2 : decide ((ll.length : Int) ≤ lp) = false := decide_eq_false (by omega)
  · have ho := fo_nan t t (.inl k3)
    clear k1 k2 k3
    go_enter Try.func44, Try.ntmps44
    go_wp2_with fail
    refine bodyPost_ret (v := .tuple #[.agg #[.slice none 0 0, .int .i64 0, .int .i64 0], .slice none 0 0, .int .i64 0, .int .i64 2]) (by simp [results, Try.results44, go_sem, r0, r1, r2]) rfl ?_
    exact HP.out _ HB.out
  all_goals have ho := fo_self t k3
  · have d3 : decide (8 < (sl.length : Int)) = true := decide_eq_true (by omega)
    clear k1 k2 k3 k4
    go_enter Try.func44, Try.ntmps44
    go_wp2_with fail
    refine bodyPost_ret (v := .tuple #[.agg #[.slice none 0 0, .int .i64 0, .int .i64 0], .slice none 0 0, .int .i64 0, .int .i64 2]) (by simp [results, Try.results44, go_sem, r0, r1, r2]) rfl ?_
    exact HP.out _ HB.out
  all_goals have d3 : decide (8 < (sl.length : Int)) = false := decide_eq_false (by omega)
  · rcases cntB_no k5 with h | ⟨h, h2⟩
    · have d4 : decide (sent < 0) = true := decide_eq_true h
      clear k1 k2 k3 k4 k5 h
      go_enter Try.func44, Try.ntmps44
      go_wp2_with fail
      refine bodyPost_ret (v := .tuple #[.agg #[.slice none 0 0, .int .i64 0, .int .i64 0], .slice none 0 0, .int .i64 0, .int .i64 2]) (by simp [results, Try.results44, go_sem, r0, r1, r2]) rfl ?_
      exact HP.out _ HB.out
    · have d4 : decide (sent < 0) = false := decide_eq_false (by omega)
      have d5 : decide (1099511627776 < sent) = true := decide_eq_true h2
      clear k1 k2 k3 k4 k5 h h2
      go_enter Try.func44, Try.ntmps44
      go_wp2_with fail
      refine bodyPost_ret (v := .tuple #[.agg #[.slice none 0 0, .int .i64 0, .int .i64 0], .slice none 0 0, .int .i64 0, .int .i64 2]) (by simp [results, Try.results44, go_sem, r0, r1, r2]) rfl ?_
      exact HP.out _ HB.out
  · obtain ⟨z1, z2⟩ := cntB_yes k5
    have d4 : decide (sent < 0) = false := decide_eq_false (by omega)
    have d5 : decide (1099511627776 < sent) = false := decide_eq_false (by omega)
    rcases cntB_no k6.symm with h | ⟨h, h2⟩
    · have d6 : decide (dice < 0) = true := decide_eq_true h
      clear k1 k2 k3 k4 k5 k6 h z1 z2
      go_enter Try.func44, Try.ntmps44
      go_wp2_with fail
      refine bodyPost_ret (v := .tuple #[.agg #[.slice none 0 0, .int .i64 0, .int .i64 0], .slice none 0 0, .int .i64 0, .int .i64 2]) (by simp [results, Try.results44, go_sem, r0, r1, r2]) rfl ?_
      exact HP.out _ HB.out
    · have d6 : decide (dice < 0) = false := decide_eq_false (by omega)
      have d7 : decide (1099511627776 < dice) = true := decide_eq_true h2
      clear k1 k2 k3 k4 k5 k6 h h2 z1 z2
      go_enter Try.func44, Try.ntmps44
      go_wp2_with fail
      refine bodyPost_ret (v := .tuple #[.agg #[.slice none 0 0, .int .i64 0, .int .i64 0], .slice none 0 0, .int .i64 0, .int .i64 2]) (by simp [results, Try.results44, go_sem, r0, r1, r2]) rfl ?_
      exact HP.out _ HB.out
end Go.Proofs.Ytpfcmfannkbipaa
end

section
set_option linter.unusedVariables false
set_option linter.unusedSimpArgs false
set_option maxRecDepth 20000
namespace Go.Proofs.Ytpfcmfannkbipaa
open Go.RowKit Go.Deep

attribute [local go_sem] run_store_float
theorem rsame02_self (t : Nat) (s n : Int) (w : World) : Calls Try.prog 71 #[.agg #[.float .f64 t, .int .i64 s, .int .i64 n], .agg #[.float .f64 t, .int .i64 s, .int .i64 n]] w fun e w' => e = .returned (.bool true) ∧ Below w.heap.size w w' := by
  have fb := f64bits_run
  obtain ⟨hb, hX, hY⟩ := box2 w #[.float .f64 t, .int .i64 s, .int .i64 n] #[.float .f64 t, .int .i64 s, .int .i64 n] 35 35
  go_enter Try.func71, Try.ntmps71
  go_wp2_with fail
  generalize (World.alloc (World.alloc w _) _) = w1 at *
  have x0 := hX.cell 0
  have x1 := hX.cell 1
  have x2 := hX.cell 2
  simp only [List.getElem?_toArray, List.getElem?_cons_zero, List.getElem?_cons_succ] at x0 x1 x2
  have y0 := hY.cell 0
  have y1 := hY.cell 1
  have y2 := hY.cell 2
  simp only [List.getElem?_toArray, List.getElem?_cons_zero, List.getElem?_cons_succ] at y0 y1 y2
  have HB := hide hb
  clear hb hX hY
  go_quiet (fail)
  go_wp2
  go_ret
  exact ⟨rfl, below_drewN HB.out _⟩
def RFirTo (w : World) (L : List Int) (e : Ending) (w' : World) : Prop := ∃ (A : Option Addr) (k : Nat), e = .returned (.agg #[.slice A L.length k, .int .i64 0, .int .i64 0]) ∧ OwnR 3 1 encInt w' w.heap.size (.slice A L.length k) L ∧ Below w.heap.size w w'
set_option maxHeartbeats 1000000 in
theorem rfirst_any (m : Mdl) (k : Nat) (w : World) (hm : m.At w) (hc : chkB m = true) (hlp : k < m.ll.L.length) : Calls Try.prog 53 #[m.val, .int .i64 k] w (RFirTo w (mwd m k)) := by
  obtain ⟨hb0, hX, hR⟩ := box2 w #[.int .i64 m.seed, .float .f64 m.fin, m.dl.val, m.pl.val, m.ll.val, m.il.val] #[.slice none 0 0, .int .i64 0, .int .i64 0] 58 61
  obtain ⟨x, sp, hx, hsp, p0, p1, hx8, hmpl⟩ := chk_lp hc (lp := (k : Int)) (by omega) (by omega)
  rw [Int.toNat_natCast] at hx
  have hR0 : mwd m k = x.2.L := by unfold mwd; rw [Int.toNat_natCast, hx]
  rw [hR0]
  have n1 : m.ll.L.length ≤ m.ll.c ∧ m.ll.c ≤ 9223372036854775807 := hm.2.2.2.2.1.2
  have hP := fun A c W (h1 : OwnR 3 1 encInt W w.heap.size (.slice A x.2.L.length c) x.2.L) (h2 : Below w.heap.size w W) => (show RFirTo w x.2.L (.returned (.agg #[.slice A x.2.L.length c, .int .i64 0, .int .i64 0])) W from ⟨A, c, rfl, h1, h2⟩)
  generalize RFirTo w x.2.L = Post at *
  have HP := hide hP
  obtain ⟨a, ha, a0, a1, _, hxA⟩ := hm.2.2.2.2.1.1 k x hx
  have kI : (k : Int) < (m.ll.L.length : Int) := by omega
  have kJ : (0 : Int) ≤ (k : Int) := by omega
  clear hP hR0 hc hmpl hsp p0 p1 hlp hx hm
  obtain ⟨seed, fin, dl, pl, ⟨lA, lc, ll⟩, il⟩ := m
  simp only [Mdl.val, Sl.val] at *
  subst ha
  have q1 : ll.length ≤ 9223372036854775807 := by omega
  have b0 := keepc hb0 a0
  have b1 := keepc hb0 a1
  have hxB := hxA.below IntAt.keeps hb0
  have HB := hide hb0
  clear hb0 n1 a0 a1 hxA
  go_enter Try.func53, Try.ntmps53
  go_upto_region 1 with fail
  generalize (World.alloc (World.alloc w _) _) = w0 at *
  obtain ⟨v2, w2, hrun, hown, hb3⟩ := app_new (P := Try.prog) 3 59 59 1 8 (.int .i64 0) encInt (by decide) (fun _ => rfl) one8_int Try.underlying59 inf8_int rfl lays_int w0 x.2 hxB (by omega) (by omega)
  obtain ⟨⟨qA, qc, qL⟩, rfl, hq, _, _⟩ := hown.form
  simp only [Sl.val] at hrun hq hown
  have hR2 := hR.below hb3 hR.lt
  have hsz := hR.lt
  have x0 := hX.cell 0
  have x1 := hX.cell 1
  have x2 := hX.cell 2
  have x3 := hX.cell 3
  have x4 := hX.cell 4
  have x5 := hX.cell 5
  simp only [List.getElem?_toArray, List.getElem?_cons_zero, List.getElem?_cons_succ] at x0 x1 x2 x3 x4 x5
  have r0 := hR2.cell 0
  have r1 := hR2.cell 1
  have r2 := hR2.cell 2
  simp only [List.getElem?_toArray, List.getElem?_cons_zero, List.getElem?_cons_succ] at r0 r1 r2
  have f0 := hR2.frozen 0
  have f1 := hR2.frozen 1
  have f2 := hR2.frozen 2
  have z4 := keepc ((Below.refl w0.heap.size w0).alloc (Nat.le_refl _) (.cells #[] 3)) (hX.cell 4)
  have b2 := keepc ((Below.refl w0.heap.size w0).alloc (Nat.le_refl _) (.cells #[] 3)) b1
  have HO := hide hown
  have HQ := hide hq
  have HB4 := hide (below_after HB.out hb3)
  clear hX hR hR2 hb3 hown hq HB hxB
  go_wp2_with (at_builtin; go_must (refine wpList_of_append rfl _ w2 _ _ 59 _ _ _ rfl rfl rfl hrun ?_))
  obtain rfl := HQ.out
  refine bodyPost_ret (v := .agg #[.slice qA x.2.L.length qc, .int .i64 0, .int .i64 0]) (by simp [results, Try.results53, go_sem, r0, r1, r2]) rfl ?_
  refine HP.out qA qc _ ?_ ?_
  · exact OwnR.lower (((HO.out.setCell (by simp only; omega) _).setCell (by simp only; omega) _).setCell (by simp only; omega) _) (by omega)
  · exact ((HB4.out.setCell (by simp only; omega) _).setCell (by simp only; omega) _).setCell (by simp only; omega) _
theorem eqL_dec (a b : List Int) : eqL (fun x y => decide (x = y)) a b = decide (a = b) := by
  unfold eqL
  rw [Bool.eq_iff_iff]
  simp only [Bool.and_eq_true, decide_eq_true_eq]
  constructor
  · rintro ⟨h1, h2⟩
    refine List.ext_getElem h1 fun i hi hj => ?_
    rw [List.all_eq_true] at h2
    have := h2 (a[i], b[i]) (by rw [List.mem_iff_getElem]; exact ⟨i, by rw [List.length_zip]; omega, by rw [List.getElem_zip]⟩)
    simpa using this
  · rintro rfl
    refine ⟨rfl, ?_⟩
    rw [List.all_eq_true]
    intro p hp
    obtain ⟨i, hi, e⟩ := List.getElem_of_mem hp
    rw [List.getElem_zip] at e
    rw [← e]
    simp
/-- The same state? -/
def sameP (a b : StP) : Bool := decide (a.1 = b.1) && (decide (a.2.1 = b.2.1) && decide (a.2.2 = b.2.2))
theorem sameP_iff {a b : StP} : sameP a b = true ↔ a = b := by
  obtain ⟨a1, a2, a3⟩ := a
  obtain ⟨b1, b2, b3⟩ := b
  unfold sameP
  simp
set_option maxHeartbeats 1000000 in
theorem same8_any (s s' : St) (w : World) (hs : s.At w) (hs' : s'.At w) : Calls Try.prog 48 #[s.val, s'.val] w fun e w' => e = .returned (.bool (sameP s.pl s'.pl)) ∧ Below w.heap.size w w' := by
  obtain ⟨hb0, hX, hY⟩ := box2 w #[s.wd.val, .int .i64 s.sent, .int .i64 s.dice] #[s'.wd.val, .int .i64 s'.sent, .int .i64 s'.dice] 61 61
  have hq := eqint_any s.wd s'.wd _ (hs.1.below IntAt.keeps hb0) (hs'.1.below IntAt.keeps hb0)
  rw [eqL_dec] at hq
  obtain ⟨wd, sent, dice⟩ := s
  obtain ⟨wd', sent', dice'⟩ := s'
  simp only [St.val, St.pl] at *
  have hSP : sameP (wd.L, sent, dice) (wd'.L, sent', dice') = (decide (wd.L = wd'.L) && (decide (sent = sent') && decide (dice = dice'))) := rfl
  rw [hSP]
  clear hSP
  generalize decide (wd.L = wd'.L) = B at *
  generalize wd.val = v at *
  generalize wd'.val = v' at *
  have HQ := hide hq
  have HB := hide hb0
  clear hq hb0 hs hs'
  have x0 := hX.cell 0
  have x1 := hX.cell 1
  have x2 := hX.cell 2
  simp only [List.getElem?_toArray, List.getElem?_cons_zero, List.getElem?_cons_succ] at x0 x1 x2
  have y0 := hY.cell 0
  have y1 := hY.cell 1
  have y2 := hY.cell 2
  simp only [List.getElem?_toArray, List.getElem?_cons_zero, List.getElem?_cons_succ] at y0 y1 y2
  go_enter Try.func48, Try.ntmps48
  go_upto_region 1 with fail
  generalize (World.alloc (World.alloc w _) _) = w0 at *
  go_wp2_with fail
  refine HQ.out.mono ?_
  rintro e w1 ⟨rfl, hb1⟩
  clear x0 x1 x2 y0 y1 y2
  replace hX := hX.below hb1 hX.lt
  replace hY := hY.below hb1 hY.lt
  have x0 := hX.cell 0
  have x1 := hX.cell 1
  have x2 := hX.cell 2
  simp only [List.getElem?_toArray, List.getElem?_cons_zero, List.getElem?_cons_succ] at x0 x1 x2
  have y0 := hY.cell 0
  have y1 := hY.cell 1
  have y2 := hY.cell 2
  simp only [List.getElem?_toArray, List.getElem?_cons_zero, List.getElem?_cons_succ] at y0 y1 y2
  have HE := hide (below_after HB.out hb1)
  clear hX hY hb1 HQ HB
  cases B
  · go_wp2_with fail
    go_ret
    exact ⟨rfl, HE.out⟩
  · by_cases h1 : sent = sent'
    · have e1 : (sent == sent') = true := by simp [h1]
      have HH := hide (show (true && (decide (sent = sent') && decide (dice = dice'))) = (dice == dice') from by rw [decide_eq_true h1]; rfl)
      clear h1
      go_wp2_with fail
      go_ret
      exact ⟨ret_bool HH.out.symm, HE.out⟩
    · have e1 : (sent == sent') = false := by simp [h1]
      have HH := hide (show (true && (decide (sent = sent') && decide (dice = dice'))) = false from by rw [decide_eq_false h1]; rfl)
      clear h1
      go_wp2_with fail
      go_ret
      exact ⟨ret_bool HH.out.symm, HE.out⟩
set_option maxHeartbeats 1000000 in
theorem rsame8_any (s s' : St) (w : World) (hs : s.At w) (hs' : s'.At w) : Calls Try.prog 42 #[s.val, s'.val] w fun e w' => e = .returned (.bool (sameP s.pl s'.pl)) ∧ Below w.heap.size w w' := by
  obtain ⟨hb0, hX, hY⟩ := box2 w #[s.wd.val, .int .i64 s.sent, .int .i64 s.dice] #[s'.wd.val, .int .i64 s'.sent, .int .i64 s'.dice] 61 61
  have hq := rints_any s.wd s'.wd _ (hs.1.below IntAt.keeps hb0) (hs'.1.below IntAt.keeps hb0)
  rw [eqL_dec] at hq
  obtain ⟨wd, sent, dice⟩ := s
  obtain ⟨wd', sent', dice'⟩ := s'
  simp only [St.val, St.pl] at *
  have hSP : sameP (wd.L, sent, dice) (wd'.L, sent', dice') = (decide (wd.L = wd'.L) && (decide (sent = sent') && decide (dice = dice'))) := rfl
  rw [hSP]
  clear hSP
  generalize decide (wd.L = wd'.L) = B at *
  generalize wd.val = v at *
  generalize wd'.val = v' at *
  have HQ := hide hq
  have HB := hide hb0
  clear hq hb0 hs hs'
  have x0 := hX.cell 0
  have x1 := hX.cell 1
  have x2 := hX.cell 2
  simp only [List.getElem?_toArray, List.getElem?_cons_zero, List.getElem?_cons_succ] at x0 x1 x2
  have y0 := hY.cell 0
  have y1 := hY.cell 1
  have y2 := hY.cell 2
  simp only [List.getElem?_toArray, List.getElem?_cons_zero, List.getElem?_cons_succ] at y0 y1 y2
  go_enter Try.func42, Try.ntmps42
  go_upto_region 1 with fail
  generalize (World.alloc (World.alloc w _) _) = w0 at *
  go_wp2_with fail
  refine HQ.out.mono ?_
  rintro e w1 ⟨rfl, nq, rfl⟩
  have hb1 := below_drewN (Below.refl w0.heap.size w0) nq
  clear x0 x1 x2 y0 y1 y2
  replace hX := hX.below hb1 hX.lt
  replace hY := hY.below hb1 hY.lt
  have x0 := hX.cell 0
  have x1 := hX.cell 1
  have x2 := hX.cell 2
  simp only [List.getElem?_toArray, List.getElem?_cons_zero, List.getElem?_cons_succ] at x0 x1 x2
  have y0 := hY.cell 0
  have y1 := hY.cell 1
  have y2 := hY.cell 2
  simp only [List.getElem?_toArray, List.getElem?_cons_zero, List.getElem?_cons_succ] at y0 y1 y2
  have HE := hide (below_after HB.out hb1)
  clear hX hY hb1 HQ HB
  generalize w0.drewN nq = w1 at *
  cases B
  · go_wp2_with fail
    go_ret
    exact ⟨rfl, HE.out⟩
  · by_cases h1 : sent = sent'
    · have e1 : (sent == sent') = true := by simp [h1]
      have HH := hide (show (true && (decide (sent = sent') && decide (dice = dice'))) = (dice == dice') from by rw [decide_eq_true h1]; rfl)
      clear h1
      go_wp2_with fail
      go_ret
      exact ⟨ret_bool HH.out.symm, HE.out⟩
    · have e1 : (sent == sent') = false := by simp [h1]
      have HH := hide (show (true && (decide (sent = sent') && decide (dice = dice'))) = false from by rw [decide_eq_false h1]; rfl)
      clear h1
      go_wp2_with fail
      go_ret
      exact ⟨ret_bool HH.out.symm, HE.out⟩
end Go.Proofs.Ytpfcmfannkbipaa
end

section
set_option linter.unusedVariables false
set_option linter.unusedSimpArgs false
set_option maxRecDepth 20000
namespace Go.Proofs.Ytpfcmfannkbipaa
open Go.RowKit Go.Deep Go.ChangeShapes Go.WideShapes Go.Joins

theorem cells_event : Try.prog.cellsOf 37 = 5 := by kernel_rfl
theorem cells_stamp : Try.prog.cellsOf 35 = 3 := by kernel_rfl
theorem cells_int : Try.prog.cellsOf 3 = 1 := by kernel_rfl
theorem cells_f64 : Try.prog.cellsOf 27 = 1 := by kernel_rfl
theorem cells_state : Try.prog.cellsOf 61 = 3 := by kernel_rfl
theorem cells_model : Try.prog.cellsOf 58 = 6 := by kernel_rfl
theorem cells_ints : Try.prog.cellsOf 59 = 1 := by kernel_rfl
theorem cells_fls : Try.prog.cellsOf 53 = 1 := by kernel_rfl
theorem cells_progs : Try.prog.cellsOf 54 = 1 := by kernel_rfl
theorem cells_lps : Try.prog.cellsOf 55 = 1 := by kernel_rfl
theorem cells_inits : Try.prog.cellsOf 56 = 1 := by kernel_rfl
section
variable {H : Type} {enc : TypeId × Value → H} {w : World} {base : Nat} {spare : Nat → Bool} {held : Bool}
theorem trod_stamp {fuel : Nat} {c0 c1 c2 : Value} {x : DataW H × List MemPlace} (h : DataW.trod enc Try.prog w base spare held fuel 35 [c0, c1, c2] = some x) :
    ∃ (t : Nat) (s n : Int), c0 = .float .f64 t ∧ c1 = .int .i64 s ∧ c2 = .int .i64 n ∧ t < 18446744073709551616 ∧ I64 s ∧ I64 n := by
  obtain ⟨xs, f, _, _, _, hlen, hg⟩ := DataW.trod_struct Try.underlying35 h
  match xs, hlen with
  | [y0, y1, y2], _ =>
    have e0 := hg 0 _ rfl
    have e1 := hg 1 _ rfl
    have e2 := hg 2 _ rfl
    simp only [cells_f64, cells_int, List.drop_zero, List.drop_succ_cons, List.take_succ_cons, List.take_zero, List.getElem?_cons_zero, List.getElem?_cons_succ] at e0 e1 e2
    obtain ⟨t, h0, _, wt⟩ := trod_flt Try.underlying27 e0
    obtain ⟨s, h1, _, ws⟩ := DataW.trod_int Try.underlying3 e1
    obtain ⟨n, h2, _, wn⟩ := DataW.trod_int Try.underlying3 e2
    injection h0 with h0
    injection h1 with h1
    injection h2 with h2
    subst h0 h1 h2
    exact ⟨t, s, n, rfl, rfl, rfl, bounds_flt wt, bounds_i64 ws, bounds_i64 wn⟩
theorem trod_event {fuel : Nat} {c0 c1 c2 c3 c4 : Value} {x : DataW H × List MemPlace} (h : DataW.trod enc Try.prog w base spare held fuel 37 [c0, c1, c2, c3, c4] = some x) :
    ∃ e : Ev, c0 = .float .f64 e.1 ∧ c1 = .int .i64 e.2.1 ∧ c2 = .int .i64 e.2.2.1 ∧ c3 = .int .i64 e.2.2.2.1 ∧ c4 = .int .i64 e.2.2.2.2 ∧ EvOk e := by
  obtain ⟨xs, f, _, _, _, hlen, hg⟩ := DataW.trod_struct Try.underlying37 h
  match xs, hlen with
  | [y0, y1, y2], _ =>
    have e0 := hg 0 _ rfl
    have e1 := hg 1 _ rfl
    have e2 := hg 2 _ rfl
    simp only [cells_stamp, cells_int, List.drop_zero, List.drop_succ_cons, List.take_succ_cons, List.take_zero, List.getElem?_cons_zero, List.getElem?_cons_succ] at e0 e1 e2
    obtain ⟨t, s, n, rfl, rfl, rfl, wt, ws, wn⟩ := trod_stamp e0
    obtain ⟨d, h1, _, wd⟩ := DataW.trod_int Try.underlying3 e1
    obtain ⟨p, h2, _, wp⟩ := DataW.trod_int Try.underlying3 e2
    injection h1 with h1
    injection h2 with h2
    subst h1 h2
    exact ⟨(t, s, n, d, p), rfl, rfl, rfl, rfl, rfl, wt, ws, wn, bounds_i64 wd, bounds_i64 wp⟩
theorem trod_state {fuel : Nat} {c0 c1 c2 : Value} {x : DataW H × List MemPlace} (h : DataW.trod enc Try.prog w base spare held fuel 61 [c0, c1, c2] = some x) :
    ∃ s : St, c0 = s.wd.val ∧ c1 = .int .i64 s.sent ∧ c2 = .int .i64 s.dice ∧ s.At w := by
  obtain ⟨xs, f, _, _, _, hlen, hg⟩ := DataW.trod_struct Try.underlying61 h
  match xs, hlen with
  | [y0, y1, y2], _ =>
    have e0 := hg 0 _ rfl
    have e1 := hg 1 _ rfl
    have e2 := hg 2 _ rfl
    simp only [cells_ints, cells_int, List.drop_zero, List.drop_succ_cons, List.take_succ_cons, List.take_zero, List.getElem?_cons_zero, List.getElem?_cons_succ] at e0 e1 e2
    obtain ⟨s, h0, hs⟩ := open_rowD (d := IntAt) Try.underlying59 cells_int (reads_int Try.underlying3) e0
    obtain ⟨a, h1, _, wa⟩ := DataW.trod_int Try.underlying3 e1
    obtain ⟨b, h2, _, wb⟩ := DataW.trod_int Try.underlying3 e2
    injection h1 with h1
    injection h2 with h2
    subst h0 h1 h2
    exact ⟨⟨s, a, b⟩, rfl, rfl, rfl, hs, bounds_i64 wa, bounds_i64 wb⟩
theorem trod_model {fuel : Nat} {c0 c1 c2 c3 c4 c5 : Value} {x : DataW H × List MemPlace} (h : DataW.trod enc Try.prog w base spare held fuel 58 [c0, c1, c2, c3, c4, c5] = some x) :
    ∃ m : Mdl, c0 = .int .i64 m.seed ∧ c1 = .float .f64 m.fin ∧ c2 = m.dl.val ∧ c3 = m.pl.val ∧ c4 = m.ll.val ∧ c5 = m.il.val ∧ m.At w := by
  obtain ⟨xs, f, _, _, _, hlen, hg⟩ := DataW.trod_struct Try.underlying58 h
  match xs, hlen with
  | [y0, y1, y2, y3, y4, y5], _ =>
    have e0 := hg 0 _ rfl
    have e1 := hg 1 _ rfl
    have e2 := hg 2 _ rfl
    have e3 := hg 3 _ rfl
    have e4 := hg 4 _ rfl
    have e5 := hg 5 _ rfl
    simp only [cells_f64, cells_int, cells_fls, cells_progs, cells_lps, cells_inits, List.drop_zero, List.drop_succ_cons, List.take_succ_cons, List.take_zero, List.getElem?_cons_zero, List.getElem?_cons_succ] at e0 e1 e2 e3 e4 e5
    obtain ⟨s, h0, _, w0⟩ := DataW.trod_int Try.underlying3 e0
    obtain ⟨t, h1, _, w1⟩ := trod_flt Try.underlying27 e1
    obtain ⟨dl, h2, k2⟩ := open_rowD Try.underlying53 (by kernel_rfl) (reads_flt Try.underlying27) e2
    obtain ⟨pl, h3, k3⟩ := open_rowD Try.underlying54 (by kernel_rfl) (reads_sl Try.underlying118 (by kernel_rfl) (reads_ins Try.underlying142 (by kernel_rfl) Try.underlying3 rfl rfl rfl rfl)) e3
    obtain ⟨ll, h4, k4⟩ := open_rowD Try.underlying55 (by kernel_rfl) (reads_lp Try.underlying120 (by kernel_rfl) Try.underlying59 (by kernel_rfl) Try.underlying3 rfl rfl) e4
    obtain ⟨il, h5, k5⟩ := open_rowD Try.underlying56 (by kernel_rfl) (reads_init Try.underlying125 (by kernel_rfl) Try.underlying27 Try.underlying3 rfl rfl rfl) e5
    injection h0 with h0
    injection h1 with h1
    subst h0 h1 h2 h3 h4 h5
    exact ⟨⟨s, t, dl, pl, ll, il⟩, rfl, rfl, rfl, rfl, rfl, rfl, bounds_i64 w0, bounds_flt w1, k2, k3, k4, k5⟩
theorem open_event {r : Reach} {b0 : Nat} {v : Value} {d : DataW H} {p : List MemPlace} (hv : Value.okWide Try.prog w r b0 37 v) (h : DataW.Trod enc Try.prog w base spare held 37 v d p) :
    ∃ e : Ev, v = .agg #[.float .f64 e.1, .int .i64 e.2.1, .int .i64 e.2.2.1, .int .i64 e.2.2.2.1, .int .i64 e.2.2.2.2] ∧ EvOk e := by
  obtain ⟨cs, rfl, hsz⟩ := okWide_struct Try.underlying37 hv
  obtain ⟨l⟩ := cs
  match l, hsz.trans cells_event with
  | [c0, c1, c2, c3, c4], _ =>
    obtain ⟨fuel, hf⟩ := h
    obtain ⟨e, rfl, rfl, rfl, rfl, rfl, b⟩ := trod_event hf
    exact ⟨e, rfl, b⟩
theorem open_state {r : Reach} {b0 : Nat} {v : Value} {d : DataW H} {p : List MemPlace} (hv : Value.okWide Try.prog w r b0 61 v) (h : DataW.Trod enc Try.prog w base spare held 61 v d p) :
    ∃ s : St, v = s.val ∧ s.At w := by
  obtain ⟨cs, rfl, hsz⟩ := okWide_struct Try.underlying61 hv
  obtain ⟨l⟩ := cs
  match l, hsz.trans cells_state with
  | [c0, c1, c2], _ =>
    obtain ⟨fuel, hf⟩ := h
    obtain ⟨s, rfl, rfl, rfl, b⟩ := trod_state hf
    exact ⟨s, rfl, b⟩
theorem cells_case : Try.prog.cellsOf 63 = 15 := by kernel_rfl
/-- A model, a process, a state, an event. -/
structure Cas where
  m : Mdl
  lp : Int
  s : St
  e : Ev
def Cas.cells (c : Cas) : Array Value := #[.int .i64 c.m.seed, .float .f64 c.m.fin, c.m.dl.val, c.m.pl.val, c.m.ll.val, c.m.il.val, .int .i64 c.lp, c.s.wd.val, .int .i64 c.s.sent, .int .i64 c.s.dice, .float .f64 c.e.1, .int .i64 c.e.2.1, .int .i64 c.e.2.2.1, .int .i64 c.e.2.2.2.1, .int .i64 c.e.2.2.2.2]
def Cas.val (c : Cas) : Value := .agg c.cells
structure Cas.At (w : World) (c : Cas) : Prop where
  m : c.m.At w
  lp : I64 c.lp
  s : c.s.At w
  e : EvOk c.e
theorem Cas.At.below {w w' : World} {c : Cas} (h : c.At w) (hb : Below w.heap.size w w') : c.At w' := ⟨h.m.below hb, h.lp, h.s.below hb, h.e⟩
theorem open_case {r : Reach} {b0 : Nat} {v : Value} {d : DataW H} {p : List MemPlace} (hv : Value.okWide Try.prog w r b0 63 v) (h : DataW.Trod enc Try.prog w base spare held 63 v d p) :
    ∃ c : Cas, v = c.val ∧ c.At w := by
  obtain ⟨cs, rfl, hsz⟩ := okWide_struct Try.underlying63 hv
  obtain ⟨l⟩ := cs
  match l, hsz.trans cells_case with
  | [c0, c1, c2, c3, c4, c5, c6, c7, c8, c9, c10, c11, c12, c13, c14], _ =>
    obtain ⟨fuel, hf⟩ := h
    obtain ⟨xs, f, _, _, _, hlen, hg⟩ := DataW.trod_struct Try.underlying63 hf
    match xs, hlen with
    | [y0, y1, y2, y3], _ =>
      have e0 := hg 0 _ rfl
      have e1 := hg 1 _ rfl
      have e2 := hg 2 _ rfl
      have e3 := hg 3 _ rfl
      simp only [Value.cells, cells_event, cells_model, cells_state, cells_int, List.drop_zero, List.drop_succ_cons, List.take_succ_cons, List.take_zero, List.getElem?_cons_zero, List.getElem?_cons_succ] at e0 e1 e2 e3
      obtain ⟨m, rfl, rfl, rfl, rfl, rfl, rfl, hm⟩ := trod_model e0
      obtain ⟨lp, h1, _, wl⟩ := DataW.trod_int Try.underlying3 e1
      obtain ⟨s, rfl, rfl, rfl, hs⟩ := trod_state e2
      obtain ⟨e, rfl, rfl, rfl, rfl, rfl, he⟩ := trod_event e3
      injection h1 with h1
      subst h1
      exact ⟨⟨m, lp, s, e⟩, rfl, hm, bounds_i64 wl, hs, he⟩
end
end Go.Proofs.Ytpfcmfannkbipaa
end

section
set_option linter.unusedVariables false
set_option maxRecDepth 20000
namespace Go.Proofs.Ytpfcmfannkbipaa.L08
open Go.RowKit Go.Deep

/-! Is a model not far too great? -/
def lightB (m : Mdl) : Bool := decide (m.pl.L.length ≤ 10 ∧ m.ll.L.length ≤ 20 ∧ m.dl.L.length ≤ 60 ∧ m.il.L.length ≤ 60) && (m.pl.L.all (fun p => decide (p.L.length ≤ 100)) && m.ll.L.all (fun x => decide (x.2.L.length ≤ 60)))
theorem light_bad (m : Mdl) (w : World) (h : m.At w) (hq : ¬ (m.pl.L.length ≤ 10 ∧ m.ll.L.length ≤ 20 ∧ m.dl.L.length ≤ 60 ∧ m.il.L.length ≤ 60)) : Calls Try.prog 49 #[m.val] w fun e w' => e = .returned (.bool (lightB m)) ∧ Below w.heap.size w w' := by
  have HS := hide (show lightB m = false by unfold lightB; rw [decide_eq_false hq]; rfl)
  obtain ⟨seed, fin, ⟨dA, dc, dl⟩, ⟨pA, pc, pl⟩, ⟨lA, lc, ll⟩, ⟨iA, ic, il⟩⟩ := m
  obtain ⟨_, _, ⟨_, d1, d2⟩, ⟨_, p1, p2⟩, ⟨_, l1, l2⟩, ⟨_, i1, i2⟩⟩ := h
  simp only [Sl.val, Mdl.val] at *
  have hd : dl.length ≤ 9223372036854775807 := by omega
  have hp : pl.length ≤ 9223372036854775807 := by omega
  have hl : ll.length ≤ 9223372036854775807 := by omega
  have hi : il.length ≤ 9223372036854775807 := by omega
  clear d1 d2 p1 p2 l1 l2 i1 i2
  go_enter Try.func49, Try.ntmps49
  go_wp2
  all_goals
    go_ret
    exact ⟨ret_bool HS.out.symm, (Below.refl _ _).alloc (Nat.le_refl _) _⟩
set_option maxHeartbeats 800000 in
theorem light_good (m : Mdl) (w : World) (h : m.At w) (hq : m.pl.L.length ≤ 10 ∧ m.ll.L.length ≤ 20 ∧ m.dl.L.length ≤ 60 ∧ m.il.L.length ≤ 60) : Calls Try.prog 49 #[m.val] w fun e w' => e = .returned (.bool (lightB m)) ∧ Below w.heap.size w w' := by
  have HS := hide (show lightB m = (m.pl.L.all (fun p => decide (p.L.length ≤ 100)) && m.ll.L.all (fun x => decide (x.2.L.length ≤ 60))) by unfold lightB; rw [decide_eq_true hq]; rfl)
  obtain ⟨seed, fin, ⟨dA, dc, dl⟩, ⟨pA, pc, pl⟩, ⟨lA, lc, ll⟩, ⟨iA, ic, il⟩⟩ := m
  obtain ⟨_, _, ⟨_, d1, d2⟩, ⟨pr, p1, p2⟩, ⟨lr, l1, l2⟩, ⟨_, i1, i2⟩⟩ := h
  obtain ⟨q1, q2, q3, q4⟩ := hq
  simp only [Sl.val, Mdl.val] at *
  have z1 : decide (10 < (pl.length : Int)) = false := by rw [decide_eq_false_iff_not]; omega
  have z2 : decide (20 < (ll.length : Int)) = false := by rw [decide_eq_false_iff_not]; omega
  have z3 : decide (60 < (dl.length : Int)) = false := by rw [decide_eq_false_iff_not]; omega
  have z4 : decide (60 < (il.length : Int)) = false := by rw [decide_eq_false_iff_not]; omega
  have hX1 := Blk.new w 58 #[.int .i64 seed, .float .f64 fin, .slice dA dl.length dc, .slice pA pl.length pc, .slice lA ll.length lc, .slice iA il.length ic]
  have hb1 : Below w.heap.size w (w.alloc (.cells #[.int .i64 seed, .float .f64 fin, .slice dA dl.length dc, .slice pA pl.length pc, .slice lA ll.length lc, .slice iA il.length ic] 58)) := (Below.refl _ _).alloc (Nat.le_refl _) _
  go_enter Try.func49, Try.ntmps49
  go_wp2_with fail
  clear z1 z2 z3 z4
  go_loopw [3] (fun i wr => RRel w #[.int .i64 seed, .float .f64 fin, .slice dA dl.length dc, .slice pA pl.length pc, .slice lA ll.length lc, .slice iA il.length ic] (fun p => decide (p.L.length ≤ 100)) pl i wr) (fun i _ => pl.length - (intOf i).toNat)
  case atStart => exact ⟨0, Nat.zero_le _, rfl, by simp, hb1, hX1⟩
  case round =>
    clear hb1 hX1
    obtain ⟨k, hk, rfl, hall, hb, hX⟩ := hrel
    have c3 := hX.cell 3
    have c4 := hX.cell 4
    by_cases hlt : k < pl.length
    · have hx := List.getElem?_eq_getElem hlt
      obtain ⟨a, rfl, h0, hs⟩ := (pr.below (SlAt.keeps InsAt.keeps 4) hb) k _ hx
      rw [Nat.mul_one] at h0
      generalize pl[k] = x at *
      have HX := hide hx
      have HA := hide (all_take_succ (fun p : Sl Ins4 => decide (p.L.length ≤ 100)) pl k x hx)
      have HB := hide hall
      have hn : x.L.length ≤ 9223372036854775807 := Nat.le_trans hs.2.1 hs.2.2
      clear hx hall hs
      obtain ⟨xA, xc, xl⟩ := x
      simp only [Sl.val] at *
      by_cases hle : xl.length ≤ 100
      · have HF := hide (decide_eq_true hle)
        go_wp2_with fail
        go_roundw
        case rel => exact ⟨k + 1, by omega, by go_num, by rw [HA.out, HB.out]; exact HF.out, hb, hX⟩
        case measure => simp [intOf]; omega
      · have HF := hide (decide_eq_false hle)
        go_wp2_with fail
        go_ret
        exact ⟨ret_bool (HS.out.trans (by rw [all_fail (fun p : Sl Ins4 => decide (p.L.length ≤ 100)) _ _ _ HX.out HF.out]; rfl)).symm, hb⟩
    · obtain rfl : k = pl.length := by omega
      have HP := hide (all_take_all _ _ hall)
      clear hall
      have hb1 := hb
      have hX1 := hX
      clear hb hX
      go_wp2_with fail
      clear c3 c4
      go_loopw [4] (fun i wr => RRel w #[.int .i64 seed, .float .f64 fin, .slice dA dl.length dc, .slice pA pl.length pc, .slice lA ll.length lc, .slice iA il.length ic] (fun x => decide (x.2.L.length ≤ 60)) ll i wr) (fun i _ => ll.length - (intOf i).toNat)
      case atStart => exact ⟨0, Nat.zero_le _, rfl, by simp, hb1, hX1⟩
      case round =>
        clear hb1 hX1
        obtain ⟨k, hk, rfl, hall, hb, hX⟩ := hrel
        have c4 := hX.cell 4
        by_cases hlt : k < ll.length
        · have hx := List.getElem?_eq_getElem hlt
          obtain ⟨a, rfl, h0, h1, _, hs⟩ := (lr.below LpAt.keeps hb) k _ hx
          generalize ll[k] = x at *
          have HX := hide hx
          have HA := hide (all_take_succ (fun x : LP2 => decide (x.2.L.length ≤ 60)) ll k x hx)
          have HB := hide hall
          have hn : x.2.L.length ≤ 9223372036854775807 := Nat.le_trans hs.2.1 hs.2.2
          clear hx hall hs
          obtain ⟨p, ⟨xA, xc, xl⟩⟩ := x
          simp only [Sl.val] at *
          by_cases hle : xl.length ≤ 60
          · have HF := hide (decide_eq_true hle)
            go_wp2_with fail
            go_roundw
            case rel => exact ⟨k + 1, by omega, by go_num, by rw [HA.out, HB.out]; exact HF.out, hb, hX⟩
            case measure => simp [intOf]; omega
          · have HF := hide (decide_eq_false hle)
            go_wp2_with fail
            go_ret
            exact ⟨ret_bool (HS.out.trans (by rw [HP.out, all_fail (fun x : LP2 => decide (x.2.L.length ≤ 60)) _ _ _ HX.out HF.out]; rfl)).symm, hb⟩
        · obtain rfl : k = ll.length := by omega
          have HL := hide (all_take_all _ _ hall)
          clear hall
          go_wp2_with fail
          go_ret
          exact ⟨ret_bool (HS.out.trans (by rw [HP.out, HL.out]; rfl)).symm, hb⟩
theorem light_any (m : Mdl) (w : World) (h : m.At w) : Calls Try.prog 49 #[m.val] w fun e w' => e = .returned (.bool (lightB m)) ∧ Below w.heap.size w w' := by
  by_cases hq : m.pl.L.length ≤ 10 ∧ m.ll.L.length ≤ 20 ∧ m.dl.L.length ≤ 60 ∧ m.il.L.length ≤ 60
  · exact light_good m w h hq
  · exact light_bad m w h hq
end Go.Proofs.Ytpfcmfannkbipaa.L08
end
