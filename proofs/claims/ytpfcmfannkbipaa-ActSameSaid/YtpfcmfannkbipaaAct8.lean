/- The walks of act's First and Begin. No condition. -/
import Derived.Test.YtpfcmfannkbipaaRAct1
set_option linter.unusedVariables false
set_option linter.unusedSimpArgs false
set_option maxRecDepth 20000
namespace Go.Proofs.Ytpfcmfannkbipaa
open Go.RowKit Go.Deep

attribute [local go_sem] run_store_float
/-- A process's words at first. -/
def mwd (m : Mdl) (lp : Int) : List Int := match m.ll.L[lp.toNat]? with | some x => x.2.L | none => []
def firE (m : Mdl) (lp : Int) : Int := if chkB m = true then (if 0 ≤ lp ∧ lp < (m.ll.L.length : Int) then 0 else 2) else 15
def firR (m : Mdl) (lp : Int) : StP := if firE m lp = 0 then (mwd m lp, 0, 0) else ([], 0, 0)
def FirTo (w : World) (m : Mdl) (lp : Int) (e : Ending) (w' : World) : Prop := ∃ (A : Option Addr) (k : Nat), e = .returned (.tuple #[.agg #[.slice A (firR m lp).1.length k, .int .i64 0, .int .i64 0], .int .i64 (firE m lp)]) ∧ OwnR 3 1 encInt w' w.heap.size (.slice A (firR m lp).1.length k) (firR m lp).1 ∧ Below w.heap.size w w'
theorem firR_zero (m : Mdl) (lp : Int) : (firR m lp).2 = (0, 0) := by unfold firR; split <;> rfl
set_option maxHeartbeats 1000000 in
theorem first_any (m : Mdl) (lp : Int) (w : World) (hm : m.At w) : Calls Try.prog 51 #[m.val, .int .i64 lp] w (FirTo w m lp) := by
  have hck := fun W (h : Below w.heap.size w W) => check_any m W (hm.below h)
  obtain ⟨hb0, hX, hR⟩ := box2 w #[.int .i64 m.seed, .float .f64 m.fin, m.dl.val, m.pl.val, m.ll.val, m.il.val] #[.slice none 0 0, .int .i64 0, .int .i64 0] 58 61
  have n1 : m.ll.L.length ≤ m.ll.c ∧ m.ll.c ≤ 9223372036854775807 := hm.2.2.2.2.1.2
  by_cases hc : chkB m = true
  · have hcE : chkE m = 0 := if_pos hc
    rw [hcE] at hck
    by_cases hlp : 0 ≤ lp ∧ lp < (m.ll.L.length : Int)
    · obtain ⟨k, rfl⟩ : ∃ k : Nat, lp = k := ⟨lp.toNat, by omega⟩
      obtain ⟨x, sp, hx, hsp, p0, p1, hx8, hmpl⟩ := chk_lp hc hlp.1 hlp.2
      rw [Int.toNat_natCast] at hx
      have hE0 : firE m k = 0 := by unfold firE; rw [if_pos hc, if_pos hlp]
      have hR0 : firR m k = (x.2.L, 0, 0) := by unfold firR mwd; rw [if_pos hE0, Int.toNat_natCast, hx]
      have hP := fun A c W (h1 : OwnR 3 1 encInt W w.heap.size (.slice A x.2.L.length c) x.2.L) (h2 : Below w.heap.size w W) => (show FirTo w m k (.returned (.tuple #[.agg #[.slice A x.2.L.length c, .int .i64 0, .int .i64 0], .int .i64 0])) W from
        ⟨A, c, by rw [hR0, hE0], by rw [hR0]; exact h1, h2⟩)
      generalize FirTo w m k = Post at *
      have HP := hide hP
      have HM := hide hm
      have HC := hide (hck _ hb0)
      have kI := hlp.2
      have kJ := hlp.1
      clear hP hm hck hE0 hR0 hc hcE hmpl hsp p0 p1 hlp
      obtain ⟨a, ha, a0, a1, _, hxA⟩ := HM.out.2.2.2.2.1.1 k x hx
      obtain ⟨seed, fin, dl, pl, ⟨lA, lc, ll⟩, il⟩ := m
      simp only [Mdl.val, Sl.val] at *
      subst ha
      have q1 : ll.length ≤ 9223372036854775807 := by omega
      have d1 : decide ((k : Int) < 0) = false := decide_eq_false (by omega)
      have d2 : decide ((ll.length : Int) ≤ (k : Int)) = false := decide_eq_false (by omega)
      have HB := hide hb0
      clear hb0 n1
      have x0 := hX.cell 0
      have x1 := hX.cell 1
      have x2 := hX.cell 2
      have x3 := hX.cell 3
      have x4 := hX.cell 4
      have x5 := hX.cell 5
      simp only [List.getElem?_toArray, List.getElem?_cons_zero, List.getElem?_cons_succ] at x0 x1 x2 x3 x4 x5
      go_enter Try.func51, Try.ntmps51
      go_upto_region 1 with fail
      generalize (World.alloc (World.alloc w _) _) = w0 at *
      go_wp2_with fail
      refine HC.out.mono ?_
      rintro e w1 ⟨rfl, hb1⟩
      clear x0 x1 x2 x3 x4 x5
      replace hX := hX.below hb1 hX.lt
      replace hR := hR.below hb1 hR.lt
      have hb2 := below_after HB.out hb1
      obtain ⟨q, w2, hq, hrun, hown, hblk, hb3⟩ := words_run w1 w1 x.2 (hxA.below IntAt.keeps hb2) (Below.refl _ _) (by omega) 59
      have hR2 := hblk _ _ _ hR
      have x0 := hX.cell 0
      have x1 := hX.cell 1
      have x2 := hX.cell 2
      have x3 := hX.cell 3
      have x4 := hX.cell 4
      have x5 := hX.cell 5
      simp only [List.getElem?_toArray, List.getElem?_cons_zero, List.getElem?_cons_succ] at x0 x1 x2 x3 x4 x5
      have r0 := hR2.cell 0
      have r1 := hR2.cell 1
      have r2 := hR2.cell 2
      simp only [List.getElem?_toArray, List.getElem?_cons_zero, List.getElem?_cons_succ] at r0 r1 r2
      have f0 := hR2.frozen 0
      have f1 := hR2.frozen 1
      have f2 := hR2.frozen 2
      have b0 := keepc hb2 a0
      have b1 := keepc hb2 a1
      have hsz := hR.lt
      have HO := hide hown
      have HQ := hide hq
      have HB4 := hide (below_after hb2 hb3)
      obtain ⟨qA, qc, qL⟩ := q
      simp only [Sl.val] at hrun HO HQ b1
      clear hX hR hR2 hblk hb1 hb2 hb3 hown hq a0 a1 HB HC
      go_wp2_with (at_builtin; go_must (refine wpList_of_append rfl _ w2 _ _ 59 _ _ _ rfl rfl rfl hrun ?_))
      obtain rfl := HQ.out
      refine bodyPost_ret (v := .tuple #[.agg #[.slice qA x.2.L.length qc, .int .i64 0, .int .i64 0], .int .i64 0]) (by simp [results, Try.results51, go_sem, r0, r1, r2]) rfl ?_
      refine HP.out qA qc _ ?_ ?_
      · exact OwnR.lower (((HO.out.setCell (by simp only; omega) _).setCell (by simp only; omega) _).setCell (by simp only; omega) _) (by omega)
      · exact ((HB4.out.setCell (by simp only; omega) _).setCell (by simp only; omega) _).setCell (by simp only; omega) _
    · have hE0 : firE m lp = 2 := by unfold firE; rw [if_pos hc, if_neg hlp]
      have hR0 : firR m lp = ([], 0, 0) := by unfold firR; rw [if_neg (by rw [hE0]; decide)]
      have hP := fun W (h2 : Below w.heap.size w W) => (show FirTo w m lp (.returned (.tuple #[.agg #[.slice none 0 0, .int .i64 0, .int .i64 0], .int .i64 2])) W from
        ⟨none, 0, by rw [hR0, hE0]; rfl, by rw [hR0]; exact OwnR.nil, h2⟩)
      generalize FirTo w m lp = Post at *
      have HP := hide hP
      have HC := hide (hck _ hb0)
      clear hP hm hck hE0 hR0 hc hcE
      obtain ⟨seed, fin, dl, pl, ⟨lA, lc, ll⟩, il⟩ := m
      simp only [Mdl.val, Sl.val] at *
      have q1 : ll.length ≤ 9223372036854775807 := by omega
      have HB := hide hb0
      clear hb0 n1
      by_cases h0 : lp < 0
      · have d1 : decide (lp < 0) = true := decide_eq_true h0
        clear hlp h0
        have x0 := hX.cell 0
        have x1 := hX.cell 1
        have x2 := hX.cell 2
        have x3 := hX.cell 3
        have x4 := hX.cell 4
        have x5 := hX.cell 5
        simp only [List.getElem?_toArray, List.getElem?_cons_zero, List.getElem?_cons_succ] at x0 x1 x2 x3 x4 x5
        go_enter Try.func51, Try.ntmps51
        go_upto_region 1 with fail
        generalize (World.alloc (World.alloc w _) _) = w0 at *
        go_wp2_with fail
        refine HC.out.mono ?_
        rintro e w1 ⟨rfl, hb1⟩
        clear x0 x1 x2 x3 x4 x5
        replace hX := hX.below hb1 hX.lt
        replace hR := hR.below hb1 hR.lt
        have x0 := hX.cell 0
        have x1 := hX.cell 1
        have x2 := hX.cell 2
        have x3 := hX.cell 3
        have x4 := hX.cell 4
        have x5 := hX.cell 5
        simp only [List.getElem?_toArray, List.getElem?_cons_zero, List.getElem?_cons_succ] at x0 x1 x2 x3 x4 x5
        have r0 := hR.cell 0
        have r1 := hR.cell 1
        have r2 := hR.cell 2
        simp only [List.getElem?_toArray, List.getElem?_cons_zero, List.getElem?_cons_succ] at r0 r1 r2
        have f0 := hR.frozen 0
        have f1 := hR.frozen 1
        have f2 := hR.frozen 2
        have HB2 := hide (below_after HB.out hb1)
        clear hX hR hb1 HC
        go_wp2_with fail
        refine bodyPost_ret (v := .tuple #[.agg #[.slice none 0 0, .int .i64 0, .int .i64 0], .int .i64 2]) (by simp [results, Try.results51, go_sem, r0, r1, r2]) rfl ?_
        exact HP.out _ (((HB2.out.setCell (by simp only; omega) _).setCell (by simp only; omega) _).setCell (by simp only; omega) _)
      · have d1 : decide (lp < 0) = false := decide_eq_false h0
        have d2 : decide ((ll.length : Int) ≤ lp) = true := decide_eq_true (by omega)
        clear hlp h0
        have x0 := hX.cell 0
        have x1 := hX.cell 1
        have x2 := hX.cell 2
        have x3 := hX.cell 3
        have x4 := hX.cell 4
        have x5 := hX.cell 5
        simp only [List.getElem?_toArray, List.getElem?_cons_zero, List.getElem?_cons_succ] at x0 x1 x2 x3 x4 x5
        go_enter Try.func51, Try.ntmps51
        go_upto_region 1 with fail
        generalize (World.alloc (World.alloc w _) _) = w0 at *
        go_wp2_with fail
        refine HC.out.mono ?_
        rintro e w1 ⟨rfl, hb1⟩
        clear x0 x1 x2 x3 x4 x5
        replace hX := hX.below hb1 hX.lt
        replace hR := hR.below hb1 hR.lt
        have x0 := hX.cell 0
        have x1 := hX.cell 1
        have x2 := hX.cell 2
        have x3 := hX.cell 3
        have x4 := hX.cell 4
        have x5 := hX.cell 5
        simp only [List.getElem?_toArray, List.getElem?_cons_zero, List.getElem?_cons_succ] at x0 x1 x2 x3 x4 x5
        have r0 := hR.cell 0
        have r1 := hR.cell 1
        have r2 := hR.cell 2
        simp only [List.getElem?_toArray, List.getElem?_cons_zero, List.getElem?_cons_succ] at r0 r1 r2
        have f0 := hR.frozen 0
        have f1 := hR.frozen 1
        have f2 := hR.frozen 2
        have HB2 := hide (below_after HB.out hb1)
        clear hX hR hb1 HC
        go_wp2_with fail
        refine bodyPost_ret (v := .tuple #[.agg #[.slice none 0 0, .int .i64 0, .int .i64 0], .int .i64 2]) (by simp [results, Try.results51, go_sem, r0, r1, r2]) rfl ?_
        exact HP.out _ (((HB2.out.setCell (by simp only; omega) _).setCell (by simp only; omega) _).setCell (by simp only; omega) _)
  · have hcE : chkE m = 15 := if_neg hc
    rw [hcE] at hck
    have hE0 : firE m lp = 15 := by unfold firE; rw [if_neg hc]
    have hR0 : firR m lp = ([], 0, 0) := by unfold firR; rw [if_neg (by rw [hE0]; decide)]
    have hP := fun W (h2 : Below w.heap.size w W) => (show FirTo w m lp (.returned (.tuple #[.agg #[.slice none 0 0, .int .i64 0, .int .i64 0], .int .i64 15])) W from
      ⟨none, 0, by rw [hR0, hE0]; rfl, by rw [hR0]; exact OwnR.nil, h2⟩)
    generalize FirTo w m lp = Post at *
    have HP := hide hP
    have HC := hide (hck _ hb0)
    clear hP hm hck hE0 hR0 hc hcE
    obtain ⟨seed, fin, dl, pl, ⟨lA, lc, ll⟩, il⟩ := m
    simp only [Mdl.val, Sl.val] at *
    have HB := hide hb0
    clear hb0 n1
    have x0 := hX.cell 0
    have x1 := hX.cell 1
    have x2 := hX.cell 2
    have x3 := hX.cell 3
    have x4 := hX.cell 4
    have x5 := hX.cell 5
    simp only [List.getElem?_toArray, List.getElem?_cons_zero, List.getElem?_cons_succ] at x0 x1 x2 x3 x4 x5
    go_enter Try.func51, Try.ntmps51
    go_upto_region 1 with fail
    generalize (World.alloc (World.alloc w _) _) = w0 at *
    go_wp2_with fail
    refine HC.out.mono ?_
    rintro e w1 ⟨rfl, hb1⟩
    clear x0 x1 x2 x3 x4 x5
    replace hR := hR.below hb1 hR.lt
    have r0 := hR.cell 0
    have r1 := hR.cell 1
    have r2 := hR.cell 2
    simp only [List.getElem?_toArray, List.getElem?_cons_zero, List.getElem?_cons_succ] at r0 r1 r2
    have f0 := hR.frozen 0
    have f1 := hR.frozen 1
    have f2 := hR.frozen 2
    have HB2 := hide (below_after HB.out hb1)
    clear hX hR hb1 HC
    go_wp2_with fail
    refine bodyPost_ret (v := .tuple #[.agg #[.slice none 0 0, .int .i64 0, .int .i64 0], .int .i64 15]) (by simp [results, Try.results51, go_sem, r0, r1, r2]) rfl ?_
    exact HP.out _ (((HB2.out.setCell (by simp only; omega) _).setCell (by simp only; omega) _).setCell (by simp only; omega) _)
end Go.Proofs.Ytpfcmfannkbipaa
