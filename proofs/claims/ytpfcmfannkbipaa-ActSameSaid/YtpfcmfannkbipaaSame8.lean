/- The walk of R08's First; when two states are the same, by act and by R08; events that are the same are the same. No condition. -/
import Derived.Test.YtpfcmfannkbipaaRAct4
import Derived.Test.YtpfcmfannkbipaaEq
import Derived.Test.YtpfcmfannkbipaaRAct2
set_option linter.unusedVariables false
set_option linter.unusedSimpArgs false
set_option maxRecDepth 20000
namespace Go.Proofs.Ytpfcmfannkbipaa
open Go.RowKit Go.Deep

attribute [local go_sem] run_store_float
theorem rsame02_self (t : Nat) (s n : Int) (w : World) : Calls Try.prog 71 #[.agg #[.float .f64 t, .int .i64 s, .int .i64 n], .agg #[.float .f64 t, .int .i64 s, .int .i64 n]] w fun e w' => e = .returned (.bool true) ∧ Below w.heap.size w w' := by
  have fb := f64bits_run
  obtain ⟨hb, hX, hY⟩ := box2 w #[.float .f64 t, .int .i64 s, .int .i64 n] #[.float .f64 t, .int .i64 s, .int .i64 n] 35 35
  go_enter Try.func71, Try.ntmps71
  go_wp2_with fail
  generalize (World.alloc (World.alloc w _) _) = w1 at *
  have x0 := hX.cell 0
  have x1 := hX.cell 1
  have x2 := hX.cell 2
  simp only [List.getElem?_toArray, List.getElem?_cons_zero, List.getElem?_cons_succ] at x0 x1 x2
  have y0 := hY.cell 0
  have y1 := hY.cell 1
  have y2 := hY.cell 2
  simp only [List.getElem?_toArray, List.getElem?_cons_zero, List.getElem?_cons_succ] at y0 y1 y2
  have HB := hide hb
  clear hb hX hY
  go_quiet (fail)
  go_wp2
  go_ret
  exact ⟨rfl, below_drewN HB.out _⟩
def RFirTo (w : World) (L : List Int) (e : Ending) (w' : World) : Prop := ∃ (A : Option Addr) (k : Nat), e = .returned (.agg #[.slice A L.length k, .int .i64 0, .int .i64 0]) ∧ OwnR 3 1 encInt w' w.heap.size (.slice A L.length k) L ∧ Below w.heap.size w w'
set_option maxHeartbeats 1000000 in
theorem rfirst_any (m : Mdl) (k : Nat) (w : World) (hm : m.At w) (hc : chkB m = true) (hlp : k < m.ll.L.length) : Calls Try.prog 53 #[m.val, .int .i64 k] w (RFirTo w (mwd m k)) := by
  obtain ⟨hb0, hX, hR⟩ := box2 w #[.int .i64 m.seed, .float .f64 m.fin, m.dl.val, m.pl.val, m.ll.val, m.il.val] #[.slice none 0 0, .int .i64 0, .int .i64 0] 58 61
  obtain ⟨x, sp, hx, hsp, p0, p1, hx8, hmpl⟩ := chk_lp hc (lp := (k : Int)) (by omega) (by omega)
  rw [Int.toNat_natCast] at hx
  have hR0 : mwd m k = x.2.L := by unfold mwd; rw [Int.toNat_natCast, hx]
  rw [hR0]
  have n1 : m.ll.L.length ≤ m.ll.c ∧ m.ll.c ≤ 9223372036854775807 := hm.2.2.2.2.1.2
  have hP := fun A c W (h1 : OwnR 3 1 encInt W w.heap.size (.slice A x.2.L.length c) x.2.L) (h2 : Below w.heap.size w W) => (show RFirTo w x.2.L (.returned (.agg #[.slice A x.2.L.length c, .int .i64 0, .int .i64 0])) W from ⟨A, c, rfl, h1, h2⟩)
  generalize RFirTo w x.2.L = Post at *
  have HP := hide hP
  obtain ⟨a, ha, a0, a1, _, hxA⟩ := hm.2.2.2.2.1.1 k x hx
  have kI : (k : Int) < (m.ll.L.length : Int) := by omega
  have kJ : (0 : Int) ≤ (k : Int) := by omega
  clear hP hR0 hc hmpl hsp p0 p1 hlp hx hm
  obtain ⟨seed, fin, dl, pl, ⟨lA, lc, ll⟩, il⟩ := m
  simp only [Mdl.val, Sl.val] at *
  subst ha
  have q1 : ll.length ≤ 9223372036854775807 := by omega
  have b0 := keepc hb0 a0
  have b1 := keepc hb0 a1
  have hxB := hxA.below IntAt.keeps hb0
  have HB := hide hb0
  clear hb0 n1 a0 a1 hxA
  go_enter Try.func53, Try.ntmps53
  go_upto_region 1 with fail
  generalize (World.alloc (World.alloc w _) _) = w0 at *
  obtain ⟨v2, w2, hrun, hown, hb3⟩ := app_new (P := Try.prog) 3 59 59 1 8 (.int .i64 0) encInt (by decide) (fun _ => rfl) one8_int Try.underlying59 inf8_int rfl lays_int w0 x.2 hxB (by omega) (by omega)
  obtain ⟨⟨qA, qc, qL⟩, rfl, hq, _, _⟩ := hown.form
  simp only [Sl.val] at hrun hq hown
  have hR2 := hR.below hb3 hR.lt
  have hsz := hR.lt
  have x0 := hX.cell 0
  have x1 := hX.cell 1
  have x2 := hX.cell 2
  have x3 := hX.cell 3
  have x4 := hX.cell 4
  have x5 := hX.cell 5
  simp only [List.getElem?_toArray, List.getElem?_cons_zero, List.getElem?_cons_succ] at x0 x1 x2 x3 x4 x5
  have r0 := hR2.cell 0
  have r1 := hR2.cell 1
  have r2 := hR2.cell 2
  simp only [List.getElem?_toArray, List.getElem?_cons_zero, List.getElem?_cons_succ] at r0 r1 r2
  have f0 := hR2.frozen 0
  have f1 := hR2.frozen 1
  have f2 := hR2.frozen 2
  have z4 := keepc ((Below.refl w0.heap.size w0).alloc (Nat.le_refl _) (.cells #[] 3)) (hX.cell 4)
  have b2 := keepc ((Below.refl w0.heap.size w0).alloc (Nat.le_refl _) (.cells #[] 3)) b1
  have HO := hide hown
  have HQ := hide hq
  have HB4 := hide (below_after HB.out hb3)
  clear hX hR hR2 hb3 hown hq HB hxB
  go_wp2_with (at_builtin; go_must (refine wpList_of_append rfl _ w2 _ _ 59 _ _ _ rfl rfl rfl hrun ?_))
  obtain rfl := HQ.out
  refine bodyPost_ret (v := .agg #[.slice qA x.2.L.length qc, .int .i64 0, .int .i64 0]) (by simp [results, Try.results53, go_sem, r0, r1, r2]) rfl ?_
  refine HP.out qA qc _ ?_ ?_
  · exact OwnR.lower (((HO.out.setCell (by simp only; omega) _).setCell (by simp only; omega) _).setCell (by simp only; omega) _) (by omega)
  · exact ((HB4.out.setCell (by simp only; omega) _).setCell (by simp only; omega) _).setCell (by simp only; omega) _
theorem eqL_dec (a b : List Int) : eqL (fun x y => decide (x = y)) a b = decide (a = b) := by
  unfold eqL
  rw [Bool.eq_iff_iff]
  simp only [Bool.and_eq_true, decide_eq_true_eq]
  constructor
  · rintro ⟨h1, h2⟩
    refine List.ext_getElem h1 fun i hi hj => ?_
    rw [List.all_eq_true] at h2
    have := h2 (a[i], b[i]) (by rw [List.mem_iff_getElem]; exact ⟨i, by rw [List.length_zip]; omega, by rw [List.getElem_zip]⟩)
    simpa using this
  · rintro rfl
    refine ⟨rfl, ?_⟩
    rw [List.all_eq_true]
    intro p hp
    obtain ⟨i, hi, e⟩ := List.getElem_of_mem hp
    rw [List.getElem_zip] at e
    rw [← e]
    simp
/-- The same state? -/
def sameP (a b : StP) : Bool := decide (a.1 = b.1) && (decide (a.2.1 = b.2.1) && decide (a.2.2 = b.2.2))
theorem sameP_iff {a b : StP} : sameP a b = true ↔ a = b := by
  obtain ⟨a1, a2, a3⟩ := a
  obtain ⟨b1, b2, b3⟩ := b
  unfold sameP
  simp
set_option maxHeartbeats 1000000 in
theorem same8_any (s s' : St) (w : World) (hs : s.At w) (hs' : s'.At w) : Calls Try.prog 48 #[s.val, s'.val] w fun e w' => e = .returned (.bool (sameP s.pl s'.pl)) ∧ Below w.heap.size w w' := by
  obtain ⟨hb0, hX, hY⟩ := box2 w #[s.wd.val, .int .i64 s.sent, .int .i64 s.dice] #[s'.wd.val, .int .i64 s'.sent, .int .i64 s'.dice] 61 61
  have hq := eqint_any s.wd s'.wd _ (hs.1.below IntAt.keeps hb0) (hs'.1.below IntAt.keeps hb0)
  rw [eqL_dec] at hq
  obtain ⟨wd, sent, dice⟩ := s
  obtain ⟨wd', sent', dice'⟩ := s'
  simp only [St.val, St.pl] at *
  have hSP : sameP (wd.L, sent, dice) (wd'.L, sent', dice') = (decide (wd.L = wd'.L) && (decide (sent = sent') && decide (dice = dice'))) := rfl
  rw [hSP]
  clear hSP
  generalize decide (wd.L = wd'.L) = B at *
  generalize wd.val = v at *
  generalize wd'.val = v' at *
  have HQ := hide hq
  have HB := hide hb0
  clear hq hb0 hs hs'
  have x0 := hX.cell 0
  have x1 := hX.cell 1
  have x2 := hX.cell 2
  simp only [List.getElem?_toArray, List.getElem?_cons_zero, List.getElem?_cons_succ] at x0 x1 x2
  have y0 := hY.cell 0
  have y1 := hY.cell 1
  have y2 := hY.cell 2
  simp only [List.getElem?_toArray, List.getElem?_cons_zero, List.getElem?_cons_succ] at y0 y1 y2
  go_enter Try.func48, Try.ntmps48
  go_upto_region 1 with fail
  generalize (World.alloc (World.alloc w _) _) = w0 at *
  go_wp2_with fail
  refine HQ.out.mono ?_
  rintro e w1 ⟨rfl, hb1⟩
  clear x0 x1 x2 y0 y1 y2
  replace hX := hX.below hb1 hX.lt
  replace hY := hY.below hb1 hY.lt
  have x0 := hX.cell 0
  have x1 := hX.cell 1
  have x2 := hX.cell 2
  simp only [List.getElem?_toArray, List.getElem?_cons_zero, List.getElem?_cons_succ] at x0 x1 x2
  have y0 := hY.cell 0
  have y1 := hY.cell 1
  have y2 := hY.cell 2
  simp only [List.getElem?_toArray, List.getElem?_cons_zero, List.getElem?_cons_succ] at y0 y1 y2
  have HE := hide (below_after HB.out hb1)
  clear hX hY hb1 HQ HB
  cases B
  · go_wp2_with fail
    go_ret
    exact ⟨rfl, HE.out⟩
  · by_cases h1 : sent = sent'
    · have e1 : (sent == sent') = true := by simp [h1]
      have HH := hide (show (true && (decide (sent = sent') && decide (dice = dice'))) = (dice == dice') from by rw [decide_eq_true h1]; rfl)
      clear h1
      go_wp2_with fail
      go_ret
      exact ⟨ret_bool HH.out.symm, HE.out⟩
    · have e1 : (sent == sent') = false := by simp [h1]
      have HH := hide (show (true && (decide (sent = sent') && decide (dice = dice'))) = false from by rw [decide_eq_false h1]; rfl)
      clear h1
      go_wp2_with fail
      go_ret
      exact ⟨ret_bool HH.out.symm, HE.out⟩
set_option maxHeartbeats 1000000 in
theorem rsame8_any (s s' : St) (w : World) (hs : s.At w) (hs' : s'.At w) : Calls Try.prog 42 #[s.val, s'.val] w fun e w' => e = .returned (.bool (sameP s.pl s'.pl)) ∧ Below w.heap.size w w' := by
  obtain ⟨hb0, hX, hY⟩ := box2 w #[s.wd.val, .int .i64 s.sent, .int .i64 s.dice] #[s'.wd.val, .int .i64 s'.sent, .int .i64 s'.dice] 61 61
  have hq := rints_any s.wd s'.wd _ (hs.1.below IntAt.keeps hb0) (hs'.1.below IntAt.keeps hb0)
  rw [eqL_dec] at hq
  obtain ⟨wd, sent, dice⟩ := s
  obtain ⟨wd', sent', dice'⟩ := s'
  simp only [St.val, St.pl] at *
  have hSP : sameP (wd.L, sent, dice) (wd'.L, sent', dice') = (decide (wd.L = wd'.L) && (decide (sent = sent') && decide (dice = dice'))) := rfl
  rw [hSP]
  clear hSP
  generalize decide (wd.L = wd'.L) = B at *
  generalize wd.val = v at *
  generalize wd'.val = v' at *
  have HQ := hide hq
  have HB := hide hb0
  clear hq hb0 hs hs'
  have x0 := hX.cell 0
  have x1 := hX.cell 1
  have x2 := hX.cell 2
  simp only [List.getElem?_toArray, List.getElem?_cons_zero, List.getElem?_cons_succ] at x0 x1 x2
  have y0 := hY.cell 0
  have y1 := hY.cell 1
  have y2 := hY.cell 2
  simp only [List.getElem?_toArray, List.getElem?_cons_zero, List.getElem?_cons_succ] at y0 y1 y2
  go_enter Try.func42, Try.ntmps42
  go_upto_region 1 with fail
  generalize (World.alloc (World.alloc w _) _) = w0 at *
  go_wp2_with fail
  refine HQ.out.mono ?_
  rintro e w1 ⟨rfl, nq, rfl⟩
  have hb1 := below_drewN (Below.refl w0.heap.size w0) nq
  clear x0 x1 x2 y0 y1 y2
  replace hX := hX.below hb1 hX.lt
  replace hY := hY.below hb1 hY.lt
  have x0 := hX.cell 0
  have x1 := hX.cell 1
  have x2 := hX.cell 2
  simp only [List.getElem?_toArray, List.getElem?_cons_zero, List.getElem?_cons_succ] at x0 x1 x2
  have y0 := hY.cell 0
  have y1 := hY.cell 1
  have y2 := hY.cell 2
  simp only [List.getElem?_toArray, List.getElem?_cons_zero, List.getElem?_cons_succ] at y0 y1 y2
  have HE := hide (below_after HB.out hb1)
  clear hX hY hb1 HQ HB
  generalize w0.drewN nq = w1 at *
  cases B
  · go_wp2_with fail
    go_ret
    exact ⟨rfl, HE.out⟩
  · by_cases h1 : sent = sent'
    · have e1 : (sent == sent') = true := by simp [h1]
      have HH := hide (show (true && (decide (sent = sent') && decide (dice = dice'))) = (dice == dice') from by rw [decide_eq_true h1]; rfl)
      clear h1
      go_wp2_with fail
      go_ret
      exact ⟨ret_bool HH.out.symm, HE.out⟩
    · have e1 : (sent == sent') = false := by simp [h1]
      have HH := hide (show (true && (decide (sent = sent') && decide (dice = dice'))) = false from by rw [decide_eq_false h1]; rfl)
      clear h1
      go_wp2_with fail
      go_ret
      exact ⟨ret_bool HH.out.symm, HE.out⟩
end Go.Proofs.Ytpfcmfannkbipaa
