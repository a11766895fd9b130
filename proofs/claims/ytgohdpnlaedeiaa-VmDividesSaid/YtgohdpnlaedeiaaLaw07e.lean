/- The walk of law07's VmDivides. No condition. -/
import Derived.Test.YtgohdpnlaedeiaaLaw07
set_option linter.unusedVariables false
set_option linter.unusedSimpArgs false
set_option maxRecDepth 20000
namespace Go.Proofs.Ytgohdpnlaedeiaa
open Go.RowKit Go.Deep

theorem vstep_eq {p : List Ins4} {W lps : Int} {s : VS} {x : Ins4} {k : Nat} (hx : p.getD s.at_ (0, 0, 0, 0) = x) (hend : ¬ p.length ≤ s.at_) (h0 : x.1 ≠ 0) (hf : vflt lps x s.tick = 0) : vrun p W lps (k + 1) s = vrun p W lps k (vone W x s.tick) := by
  subst hx
  exact (if_neg hend).trans ((if_neg h0).trans (if_pos hf))
theorem vstep_bad {p : List Ins4} {W lps : Int} {s : VS} {x : Ins4} {k : Nat} (hx : p.getD s.at_ (0, 0, 0, 0) = x) (hend : ¬ p.length ≤ s.at_) (h0 : x.1 ≠ 0) (hf : vflt lps x s.tick ≠ 0) : vrun p W lps (k + 1) s = (s.tick, vflt lps x s.tick) := by
  subst hx
  exact (if_neg hend).trans ((if_neg h0).trans (if_neg hf))
def PD (a b : Int) : List Ins4 := [(1, 4, a, 0), (1, 5, b, 0), (6, 6, 4, 5), (7, 7, 4, 5), (1, 4, 0, 0), (14, 4, 6, 0), (1, 4, 1, 0), (14, 4, 7, 0)]
theorem pd_may (a b : Int) : vmay (PD a b) 2 = 0 := by
  have h : ((PD a b).all fun x => insB x.1 x.2.1 x.2.2.1 x.2.2.2 (PD a b).length) = true := by kernel_rfl
  unfold vmay
  rw [if_neg (by show ¬ (8 < 1 ∨ 48 < 8); decide), if_pos h, if_neg (by decide)]
theorem pd_two (a b W : Int) : vrun (PD a b) W 1 120 ⟨[0, 0, 1, 2, 0, 0, 0, 0], [0, 0], [], 0, 0, 0⟩ = vrun (PD a b) W 1 118 ⟨[0, 0, 1, 2, a, b, 0, 0], [0, 0], [], 0, 2, 2⟩ := by
  have e1 : vrun (PD a b) W 1 120 ⟨[0, 0, 1, 2, 0, 0, 0, 0], [0, 0], [], 0, 0, 0⟩ = vrun (PD a b) W 1 119 ⟨[0, 0, 1, 2, a, 0, 0, 0], [0, 0], [], 0, 1, 1⟩ := vstep_eq (x := (1, 4, a, 0)) rfl (by show ¬ (8 ≤ 0); decide) (show (1 : Int) ≠ 0 by decide) rfl
  have e2 : vrun (PD a b) W 1 119 ⟨[0, 0, 1, 2, a, 0, 0, 0], [0, 0], [], 0, 1, 1⟩ = vrun (PD a b) W 1 118 ⟨[0, 0, 1, 2, a, b, 0, 0], [0, 0], [], 0, 2, 2⟩ := vstep_eq (x := (1, 5, b, 0)) rfl (by show ¬ (8 ≤ 1); decide) (show (1 : Int) ≠ 0 by decide) rfl
  exact e1.trans e2
theorem pd_zero (a : Int) : outV (PD a 0) [0, 0] 0 0 1 0 0 = ([], [], 0, 2) := by
  have e : vall (PD a 0) [0, 0] 0 0 1 0 0 = (⟨[0, 0, 1, 2, a, 0, 0, 0], [0, 0], [], 0, 3, 3⟩, 2) := (pd_two a 0 _).trans (vstep_bad (x := (6, 6, 4, 5)) rfl (by show ¬ (8 ≤ 2); decide) (show (6 : Int) ≠ 0 by decide) (by show (2 : Int) ≠ 0; decide))
  refine (if_pos (pd_may a 0)).trans ?_
  rw [e]
  rfl
theorem pd_some (a b : Int) (hb : b ≠ 0) : outV (PD a b) [0, 0] 0 0 1 0 0 = ([quoI a b, remI a b], [], 0, 0) := by
  generalize hW : wordI 0 0 = W
  have t6 : twoF 6 b = 0 := if_neg (fun h => hb h.2)
  have t7 : twoF 7 b = 0 := if_neg (fun h => hb h.2)
  have e3 : vrun (PD a b) W 1 118 ⟨[0, 0, 1, 2, a, b, 0, 0], [0, 0], [], 0, 2, 2⟩ = vrun (PD a b) W 1 117 ⟨[0, 0, 1, 2, a, b, quoI a b, 0], [0, 0], [], 0, 3, 3⟩ := vstep_eq (x := (6, 6, 4, 5)) rfl (by show ¬ (8 ≤ 2); decide) (show (6 : Int) ≠ 0 by decide) t6
  have e4 : vrun (PD a b) W 1 117 ⟨[0, 0, 1, 2, a, b, quoI a b, 0], [0, 0], [], 0, 3, 3⟩ = vrun (PD a b) W 1 116 ⟨[0, 0, 1, 2, a, b, quoI a b, remI a b], [0, 0], [], 0, 4, 4⟩ := vstep_eq (x := (7, 7, 4, 5)) rfl (by show ¬ (8 ≤ 3); decide) (show (7 : Int) ≠ 0 by decide) t7
  generalize quoI a b = q at *
  generalize remI a b = r at *
  have e5 : vrun (PD a b) W 1 116 ⟨[0, 0, 1, 2, a, b, q, r], [0, 0], [], 0, 4, 4⟩ = vrun (PD a b) W 1 115 ⟨[0, 0, 1, 2, 0, b, q, r], [0, 0], [], 0, 5, 5⟩ := vstep_eq (x := (1, 4, 0, 0)) rfl (by show ¬ (8 ≤ 4); decide) (show (1 : Int) ≠ 0 by decide) rfl
  have e6 : vrun (PD a b) W 1 115 ⟨[0, 0, 1, 2, 0, b, q, r], [0, 0], [], 0, 5, 5⟩ = vrun (PD a b) W 1 114 ⟨[0, 0, 1, 2, 0, b, q, r], [q, 0], [], 0, 6, 6⟩ := vstep_eq (x := (14, 4, 6, 0)) rfl (by show ¬ (8 ≤ 5); decide) (show (14 : Int) ≠ 0 by decide) rfl
  have e7 : vrun (PD a b) W 1 114 ⟨[0, 0, 1, 2, 0, b, q, r], [q, 0], [], 0, 6, 6⟩ = vrun (PD a b) W 1 113 ⟨[0, 0, 1, 2, 1, b, q, r], [q, 0], [], 0, 7, 7⟩ := vstep_eq (x := (1, 4, 1, 0)) rfl (by show ¬ (8 ≤ 6); decide) (show (1 : Int) ≠ 0 by decide) rfl
  have e8 : vrun (PD a b) W 1 113 ⟨[0, 0, 1, 2, 1, b, q, r], [q, 0], [], 0, 7, 7⟩ = vrun (PD a b) W 1 112 ⟨[0, 0, 1, 2, 1, b, q, r], [q, r], [], 0, 8, 8⟩ := vstep_eq (x := (14, 4, 7, 0)) rfl (by show ¬ (8 ≤ 7); decide) (show (14 : Int) ≠ 0 by decide) rfl
  have e9 : vrun (PD a b) W 1 112 ⟨[0, 0, 1, 2, 1, b, q, r], [q, r], [], 0, 8, 8⟩ = (⟨[0, 0, 1, 2, 1, b, q, r], [q, r], [], 0, 8, 8⟩, 0) := if_pos (by show 8 ≤ 8; decide)
  have e : vall (PD a b) [0, 0] 0 0 1 0 0 = (⟨[0, 0, 1, 2, 1, b, q, r], [q, r], [], 0, 8, 8⟩, 0) := by
    unfold vall
    rw [hW]
    exact (pd_two a b W).trans (e3.trans (e4.trans (e5.trans (e6.trans (e7.trans (e8.trans e9))))))
  refine (if_pos (pd_may a b)).trans ?_
  rw [e]
  rfl
theorem div_back (a b : Int) (ha : I64 a) : wrap64 (wrap64 (quoI a b * b) + remI a b) = a := by
  have h := Int.mul_tdiv_add_tmod a b
  rw [Int.mul_comm] at h
  have w1 : ∀ n : Int, wrap64 n % 18446744073709551616 = n % 18446744073709551616 := fun n => by unfold wrap64; omega
  have k : (wrap64 (quoI a b * b) + remI a b) % 18446744073709551616 = a % 18446744073709551616 := by
    rw [Int.add_emod, w1, Int.mul_emod]
    unfold quoI remI
    rw [w1, ← Int.mul_emod, ← Int.add_emod, h]
  generalize wrap64 (quoI a b * b) + remI a b = X at k ⊢
  unfold wrap64
  omega
theorem rem_sign (a b : Int) (h : remI a b ≠ 0) : (remI a b < 0) ↔ (a < 0) := by
  unfold remI at *
  constructor
  · intro hr
    by_cases h0 : 0 ≤ a
    · have := Int.tmod_nonneg b h0
      omega
    · omega
  · intro ha
    have h1 : 0 ≤ (-a).tmod b := Int.tmod_nonneg b (by omega)
    rw [Int.neg_tmod] at h1
    omega
set_option maxHeartbeats 4000000 in
theorem divides_walk (a b : Int) (w : World) (ha : I64 a) (hbI : I64 b) : Calls Try.prog 6 #[.int .i64 a, .int .i64 b] w fun e w' => e = .returned (.bool true) ∧ Below w.heap.size w w' := by
  have hB1 := Blk.new w 39 #[.int .i64 1, .int .i64 4, .int .i64 a, .int .i64 0, .int .i64 1, .int .i64 5, .int .i64 b, .int .i64 0, .int .i64 6, .int .i64 6, .int .i64 4, .int .i64 5, .int .i64 7, .int .i64 7, .int .i64 4, .int .i64 5, .int .i64 1, .int .i64 4, .int .i64 0, .int .i64 0, .int .i64 14, .int .i64 4, .int .i64 6, .int .i64 0, .int .i64 1, .int .i64 4, .int .i64 1, .int .i64 0, .int .i64 14, .int .i64 4, .int .i64 7, .int .i64 0]
  have hb : Below w.heap.size w (w.alloc (.cells #[.int .i64 1, .int .i64 4, .int .i64 a, .int .i64 0, .int .i64 1, .int .i64 5, .int .i64 b, .int .i64 0, .int .i64 6, .int .i64 6, .int .i64 4, .int .i64 5, .int .i64 7, .int .i64 7, .int .i64 4, .int .i64 5, .int .i64 1, .int .i64 4, .int .i64 0, .int .i64 0, .int .i64 14, .int .i64 4, .int .i64 6, .int .i64 0, .int .i64 1, .int .i64 4, .int .i64 1, .int .i64 0, .int .i64 14, .int .i64 4, .int .i64 7, .int .i64 0] 39)) := (Below.refl _ _).alloc (Nat.le_refl _) _
  have HA := hide (And.intro ha hbI)
  clear ha hbI
  go_enter Try.func6, Try.ntmps6
  go_upto_region 2 with fail
  generalize w.alloc _ = w1 at *
  generalize hg1 : w.heap.size = g1 at *
  have hB2 := Blk.new w1 3 #[.int .i64 0, .int .i64 0]
  have hb2 := hb.alloc (by rw [← hg1]; rw [← hg1] at hb; exact hb.size) (.cells #[.int .i64 0, .int .i64 0] 3)
  replace hB1 := hB1.alloc (.cells #[.int .i64 0, .int .i64 0] 3)
  have hp : (⟨some ⟨g1, 0, none⟩, 8, PD a b⟩ : Sl Ins4).At InsAt 4 (w1.alloc (.cells #[.int .i64 0, .int .i64 0] 3)) := made_prog (PD a b) hB1 (by
    intro x hx
    have hA := HA.out
    simp [PD] at hx
    rcases hx with rfl | rfl | rfl | rfl | rfl | rfl | rfl | rfl <;> simp only <;> refine ⟨?_, ?_, ?_, ?_⟩ <;> omega) (by show 8 ≤ 9223372036854775807; decide)
  have hi : (⟨⟨some ⟨w1.heap.size, 0, none⟩, 2, [0, 0]⟩, 0, 0, 1, 0, 0⟩ : Inp).At (w1.alloc (.cells #[.int .i64 0, .int .i64 0] 3)) := ⟨made_ints [0, 0] hB2 (by decide) (by decide), (show I64 (0 : Int) by decide), (show I64 (0 : Int) by decide), (show I64 (1 : Int) by decide), (show I64 (0 : Int) by decide), (show I64 (0 : Int) by decide)⟩
  have hr : Calls Try.prog 10 #[.slice (some ⟨g1, 0, none⟩) 8 8, .agg #[.slice (some ⟨w1.heap.size, 0, none⟩) 2 2, .int .i64 0, .int .i64 0, .int .i64 1, .int .i64 0, .int .i64 0]] (w1.alloc (.cells #[.int .i64 0, .int .i64 0] 3)) (RunTo (w1.alloc (.cells #[.int .i64 0, .int .i64 0] 3)) (vmay (PD a b) 2) (outV (PD a b) [0, 0] 0 0 1 0 0)) := run_any _ ⟨some ⟨g1, 0, none⟩, 8, PD a b⟩ ⟨⟨some ⟨w1.heap.size, 0, none⟩, 2, [0, 0]⟩, 0, 0, 1, 0, 0⟩ hp hi
  rw [pd_may a b] at hr
  have HR := hide hr
  clear hr hp hi hB1 hB2
  go_wp2_with fail
  generalize w1.alloc (.cells #[.int .i64 0, .int .i64 0] 3) = w2 at *
  generalize w1.heap.size = g2 at *
  have hsz : g1 ≤ w2.heap.size := by rw [← hg1] at hb2 ⊢; exact hb2.size
  by_cases h0 : b = 0
  · subst h0
    rw [pd_zero a] at HR
    refine HR.out.mono ?_
    rintro e w3 ⟨v, rfl, ⟨A, c, A', c', rfl, _, _⟩, h3⟩
    have hb3 := hb2.trans (h3.mono hsz)
    have hs3 : g1 ≤ w3.heap.size := Nat.le_trans hsz h3.size
    have HY := hide (Blk.new w3 30 #[.slice A 0 c, .slice A' 0 c', .int .i64 0, .int .i64 2])
    have HB := hide (hb3.alloc hs3 (.cells #[.slice A 0 c, .slice A' 0 c', .int .i64 0, .int .i64 2] 30))
    clear HR hb hb2 h3 hb3
    simp only [List.length_nil]
    go_upto_region 3 with fail
    generalize w3.alloc _ = w4 at *
    generalize w3.heap.size = yb at *
    go_wp2_with fail
    refine (awake07 _).mono ?_
    rintro e w5 ⟨rfl, h5⟩
    replace HY := hide (HY.out.below h5 HY.out.lt)
    have HE := hide (show Below w.heap.size w w5 from by rw [hg1]; exact HB.out.trans (h5.mono (by have := HB.out.size; omega)))
    clear HB h5
    have y0 := HY.out.cell 0
    have y1 := HY.out.cell 1
    have y2 := HY.out.cell 2
    have y3 := HY.out.cell 3
    simp only [List.getElem?_toArray, List.getElem?_cons_zero, List.getElem?_cons_succ] at y0 y1 y2 y3
    go_wp2_with fail
    go_ret
    exact ⟨rfl, HE.out⟩
  · rw [pd_some a b h0] at HR
    refine HR.out.mono ?_
    rintro e w3 ⟨v, rfl, ⟨A, c, A', c', rfl, ho, _⟩, h3⟩
    obtain ⟨g, hgA⟩ : ∃ g, A = some ⟨g, 0, none⟩ := by
      obtain ⟨sl, hv, hL, _, hf⟩ := ho.form
      obtain ⟨g, hA, _⟩ := hf (by simp)
      refine ⟨g, ?_⟩
      unfold Sl.val at hv
      injection hv with hv
      rw [hv, hA]
    subst hgA
    have hcq : w3.cell? ⟨g, 0, none⟩ = some (.int .i64 (quoI a b)) := by
      unfold OwnR at ho
      exact ho.cellAt 0 (by simp)
    have hcr : w3.cell? ⟨g, 1, none⟩ = some (.int .i64 (remI a b)) := by
      unfold OwnR at ho
      exact ho.cellAt 1 (by simp)
    have hb3 := hb2.trans (h3.mono hsz)
    have hs3 : g1 ≤ w3.heap.size := Nat.le_trans hsz h3.size
    have hcq4 := (World.cell?_alloc_lt w3 (.cells #[.slice (some ⟨g, 0, none⟩) 2 c, .slice A' 0 c', .int .i64 0, .int .i64 0] 30) ⟨g, 0, none⟩ (cell_lt hcq)).trans hcq
    have hcr4 := (World.cell?_alloc_lt w3 (.cells #[.slice (some ⟨g, 0, none⟩) 2 c, .slice A' 0 c', .int .i64 0, .int .i64 0] 30) ⟨g, 1, none⟩ (cell_lt hcr)).trans hcr
    have HY := hide (Blk.new w3 30 #[.slice (some ⟨g, 0, none⟩) 2 c, .slice A' 0 c', .int .i64 0, .int .i64 0])
    have HB := hide (hb3.alloc hs3 (.cells #[.slice (some ⟨g, 0, none⟩) 2 c, .slice A' 0 c', .int .i64 0, .int .i64 0] 30))
    have HQ := hide (div_back a b HA.out.1)
    have HS := hide (rem_sign a b)
    have HM := hide (show remI a b = a.tmod b from rfl)
    clear HR hb hb2 h3 hb3 ho hcq hcr
    simp only [List.length_cons, List.length_nil]
    generalize quoI a b = q at *
    generalize remI a b = r at *
    have hbb : (b == 0) = false := by rw [beq_eq_false_iff_ne]; exact h0
    go_upto_region 3 with fail
    generalize w3.alloc _ = w4 at *
    generalize w3.heap.size = yb at *
    have y0 := HY.out.cell 0
    have y1 := HY.out.cell 1
    have y2 := HY.out.cell 2
    have y3 := HY.out.cell 3
    simp only [List.getElem?_toArray, List.getElem?_cons_zero, List.getElem?_cons_succ] at y0 y1 y2 y3
    go_upto_region 7 with fail
    go_quiet (fail)
    replace HY := hide (HY.out.drewN nq)
    replace HB := hide (below_drewN HB.out nq)
    clear y0 y1 y2 y3 hcq4 hcr4
    generalize w4.drewN nq = w5 at *
    clear nq
    have hqb : (wrap64 (wrap64 (q * b) + r) == a) = true := by rw [beq_iff_eq]; exact HQ.out
    have hmb : (r == a.tmod b) = true := by rw [beq_iff_eq]; exact HM.out
    by_cases hr0 : r = 0
    · have hrb : (r == 0) = true := by rw [beq_iff_eq]; exact hr0
      by_cases hm1 : b = -1
      · have hbm : (b == -1) = true := by rw [beq_iff_eq]; exact hm1
        clear hr0 hm1
        go_wp2_with fail
        refine (awake07 _).mono ?_
        rintro e w6 ⟨rfl, h6⟩
        have HE := hide (show Below w.heap.size w w6 from by rw [hg1]; exact HB.out.trans (h6.mono (by have := HB.out.size; omega)))
        clear HB h6
        go_wp2_with fail
        go_ret
        exact ⟨rfl, HE.out⟩
      · have hbm : (b == -1) = false := by rw [beq_eq_false_iff_ne]; exact hm1
        clear hr0 hm1
        go_wp2_with fail
        refine (awake07 _).mono ?_
        rintro e w6 ⟨rfl, h6⟩
        have HE := hide (show Below w.heap.size w w6 from by rw [hg1]; exact HB.out.trans (h6.mono (by have := HB.out.size; omega)))
        clear HB h6
        go_wp2_with fail
        go_ret
        exact ⟨rfl, HE.out⟩
    · have hrb : (r == 0) = false := by rw [beq_eq_false_iff_ne]; exact hr0
      have hsg := HS.out hr0
      by_cases ha0 : a < 0
      · have da : decide (a < 0) = true := decide_eq_true ha0
        have dr : decide (r < 0) = true := decide_eq_true (hsg.2 ha0)
        by_cases hm1 : b = -1
        · have hbm : (b == -1) = true := by rw [beq_iff_eq]; exact hm1
          clear hr0 hm1 hsg ha0
          go_wp2_with fail
          refine (awake07 _).mono ?_
          rintro e w6 ⟨rfl, h6⟩
          have HE := hide (show Below w.heap.size w w6 from by rw [hg1]; exact HB.out.trans (h6.mono (by have := HB.out.size; omega)))
          clear HB h6
          go_wp2_with fail
          go_ret
          exact ⟨rfl, HE.out⟩
        · have hbm : (b == -1) = false := by rw [beq_eq_false_iff_ne]; exact hm1
          clear hr0 hm1 hsg ha0
          go_wp2_with fail
          refine (awake07 _).mono ?_
          rintro e w6 ⟨rfl, h6⟩
          have HE := hide (show Below w.heap.size w w6 from by rw [hg1]; exact HB.out.trans (h6.mono (by have := HB.out.size; omega)))
          clear HB h6
          go_wp2_with fail
          go_ret
          exact ⟨rfl, HE.out⟩
      · have da : decide (a < 0) = false := decide_eq_false ha0
        have dr : decide (r < 0) = false := decide_eq_false (fun h => ha0 (hsg.1 h))
        by_cases hm1 : b = -1
        · have hbm : (b == -1) = true := by rw [beq_iff_eq]; exact hm1
          clear hr0 hm1 hsg ha0
          go_wp2_with fail
          refine (awake07 _).mono ?_
          rintro e w6 ⟨rfl, h6⟩
          have HE := hide (show Below w.heap.size w w6 from by rw [hg1]; exact HB.out.trans (h6.mono (by have := HB.out.size; omega)))
          clear HB h6
          go_wp2_with fail
          go_ret
          exact ⟨rfl, HE.out⟩
        · have hbm : (b == -1) = false := by rw [beq_eq_false_iff_ne]; exact hm1
          clear hr0 hm1 hsg ha0
          go_wp2_with fail
          refine (awake07 _).mono ?_
          rintro e w6 ⟨rfl, h6⟩
          have HE := hide (show Below w.heap.size w w6 from by rw [hg1]; exact HB.out.trans (h6.mono (by have := HB.out.size; omega)))
          clear HB h6
          go_wp2_with fail
          go_ret
          exact ⟨rfl, HE.out⟩
end Go.Proofs.Ytgohdpnlaedeiaa
