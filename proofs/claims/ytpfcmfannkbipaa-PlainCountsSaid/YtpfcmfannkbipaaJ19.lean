/- Texts of this claim in one. No condition. -/
import Derived.Test.YtpfcmfannkbipaaJ18
import Derived.StillTailTactics
import Derived.Test.YtpfcmfannkbipaaJ12
section
set_option linter.unusedVariables false
set_option linter.unusedSimpArgs false
set_option maxRecDepth 20000
namespace Go.Proofs.Ytpfcmfannkbipaa
open Go.RowKit Go.Deep

def SomeDraws (w : World) (b : Bool) (e : Ending) (w' : World) : Prop := e = .returned (.bool b) ∧ ∃ n, w' = w.drewN n
def RIRel (w : World) (len : Nat) (i : Value) (wr : World) : Prop := ∃ k n : Nat, k ≤ len ∧ i = .int .i64 k ∧ wr = w.drewN n
/-- Lists that are the same. -/
theorem rints_self (s t : Sl Int) (w : World) (hs : s.At IntAt 1 w) (ht : t.At IntAt 1 w) (he : s.L = t.L) : Calls Try.prog 46 #[s.val, t.val] w (SomeDraws w true) := by
  obtain ⟨A, c, L⟩ := s
  obtain ⟨A', c', L'⟩ := t
  simp only at he
  subst he
  obtain ⟨hr, hn, hc⟩ := hs
  obtain ⟨hr', hn', hc'⟩ := ht
  simp only [Sl.val] at *
  go_enter Try.func46, Try.ntmps46
  go_wp2_with fail
  go_loopw [5] (fun i wr => RIRel w L.length i wr) (fun i _ => L.length - (intOf i).toNat)
  case atStart => exact ⟨0, 0, Nat.zero_le _, rfl, rfl⟩
  case round =>
    obtain ⟨k, n, hk, rfl, rfl⟩ := hrel
    by_cases hlt : k < L.length
    · obtain ⟨a, rfl, h0, _⟩ := hr k _ (List.getElem?_eq_getElem hlt)
      obtain ⟨a', rfl, g0, _⟩ := hr' k _ (List.getElem?_eq_getElem hlt)
      rw [Nat.mul_one] at h0 g0
      have kI : (k : Int) < (L.length : Int) := by omega
      generalize L[k] = x at *
      clear hr hr'
      go_wp2_with fail
      go_quiet (fail)
      go_wp2_with fail
      go_roundw
      case rel => exact ⟨k + 1, _, by omega, by go_num, by first | rfl | rw [World.drewN_drewN]⟩
      case measure => simp [intOf]; omega
    · obtain rfl : k = L.length := by omega
      clear hr hr'
      go_wp2_with fail
      go_ret
      exact ⟨rfl, _, rfl⟩
set_option maxHeartbeats 2000000 in
theorem rmay_any (w : World) (p : Sl Ins4) (i : Inp) (hp : p.At InsAt 4 w) (hi : i.At w) :
    Calls Try.prog 106 #[p.val, i.val] w fun e w' => e = .returned (.int .i64 (vmay p.L i.wd.L.length)) ∧ Below w.heap.size w w' := by
  obtain ⟨⟨wA, wc, wL⟩, pay, me, lps, seed, dice⟩ := i
  obtain ⟨pA, pc, pL⟩ := p
  have hX := Blk.new w 112 #[.slice wA wL.length wc, .int .i64 pay, .int .i64 me, .int .i64 lps, .int .i64 seed, .int .i64 dice]
  have hb : Below w.heap.size w (w.alloc (.cells #[.slice wA wL.length wc, .int .i64 pay, .int .i64 me, .int .i64 lps, .int .i64 seed, .int .i64 dice] 112)) := (Below.refl _ _).alloc (Nat.le_refl _) _
  have hpb := hp.2
  simp only at hpb
  have HB := hide hb
  unfold Inp.val Inp.cells Sl.val
  simp only
  by_cases h1 : pL.length < 1 ∨ 48 < pL.length
  · have e1 : vmay pL wL.length = 15 := if_pos h1
    rw [e1]
    clear e1 hX hb hp hi
    rcases h1 with h1 | h1
    · have e2 : pL.length = 0 := by omega
      clear h1
      rw [e2]
      go_enter Try.func106, Try.ntmps106
      go_wp2_with fail
      go_ret
      exact ⟨rfl, HB.out⟩
    · have d1 : decide ((pL.length : Int) < 1) = false := decide_eq_false (by omega)
      have d2 : decide ((48 : Int) < (pL.length : Int)) = true := decide_eq_true (by omega)
      go_enter Try.func106, Try.ntmps106
      go_wp2_with fail
      go_ret
      exact ⟨rfl, HB.out⟩
  · have hl : 1 ≤ pL.length ∧ pL.length ≤ 48 := by omega
    have d1 : decide ((pL.length : Int) < 1) = false := decide_eq_false (by omega)
    have d2 : decide ((48 : Int) < (pL.length : Int)) = false := decide_eq_false (by omega)
    have e1 : vmay pL wL.length = (if (pL.all fun x => insB x.1 x.2.1 x.2.2.1 x.2.2.2 pL.length) = true then (if 8 < wL.length then 2 else 0) else 15) := if_neg h1
    obtain ⟨V, hV⟩ : ∃ V, (if (pL.all fun x => insB x.1 x.2.1 x.2.2.1 x.2.2.2 pL.length) = true then (if 8 < wL.length then (2 : Int) else 0) else 15) = V := ⟨_, rfl⟩
    rw [e1, hV]
    have HV0 := hide hV
    clear e1 h1 hV
    have HI := hide hi
    have HP := hide hp
    have HX := hide hX
    clear hi hp hX hb
    go_enter Try.func106, Try.ntmps106
    go_upto_region 4 with fail
    generalize w.alloc _ = w1 at *
    have HL := hide hl
    clear d1 d2 hl
    go_loopw [5] (fun i wr => MayRel w w.heap.size #[.slice wA wL.length wc, .int .i64 pay, .int .i64 me, .int .i64 lps, .int .i64 seed, .int .i64 dice] pL.length (fun j => insB (pL.getD j (0, 0, 0, 0)).1 (pL.getD j (0, 0, 0, 0)).2.1 (pL.getD j (0, 0, 0, 0)).2.2.1 (pL.getD j (0, 0, 0, 0)).2.2.2 pL.length) i wr) (fun i _ => pL.length - (intOf i).toNat)
    case atStart => exact ⟨0, Nat.zero_le _, rfl, fun j hj => absurd hj (by omega), HX.out, HB.out⟩
    case round =>
      clear HX HB
      obtain ⟨k, hk, rfl, hall, hX, hb⟩ := hrel
      have HA := hide hall
      clear hall
      by_cases hlt : k < pL.length
      · obtain ⟨ad, hA, q0, q1, q2, q3, _⟩ := (HP.out.below InsAt.keeps hb).1 k (pL.getD k (0, 0, 0, 0)) (by
          show pL[k]? = _
          rw [List.getD_eq_getElem?_getD, List.getElem?_eq_getElem hlt]
          rfl)
        simp only at hA
        subst hA
        cases hins : insB (pL.getD k (0, 0, 0, 0)).1 (pL.getD k (0, 0, 0, 0)).2.1 (pL.getD k (0, 0, 0, 0)).2.2.1 (pL.getD k (0, 0, 0, 0)).2.2.2 pL.length
        · have HN := hide (show (if (pL.all fun x => insB x.1 x.2.1 x.2.2.1 x.2.2.2 pL.length) = true then (if 8 < wL.length then (2 : Int) else 0) else 15) = 15 from if_neg (by rw [all_not hlt hins]; decide))
          have IA := hide (fun w => rins_any (pL.getD k (0, 0, 0, 0)).1 (pL.getD k (0, 0, 0, 0)).2.1 (pL.getD k (0, 0, 0, 0)).2.2.1 (pL.getD k (0, 0, 0, 0)).2.2.2 pL.length w)
          rw [hins] at IA
          clear hins
          generalize pL.getD k (0, 0, 0, 0) = x at *
          obtain ⟨op, xa, xb, xc⟩ := x
          simp only at q0 q1 q2 q3 IA
          go_wp2_with fail
          refine (IA.out _).mono ?_
          rintro e w2 ⟨rfl, h2⟩
          have HB2 := hide (below_after hb h2)
          clear h2 q0 q1 q2 q3 hX hb
          go_wp2_with fail
          go_ret
          exact ⟨ret_int (HN.out.symm.trans HV0.out), HB2.out⟩
        · have HK := hide hins
          have IA := hide (fun w => rins_any (pL.getD k (0, 0, 0, 0)).1 (pL.getD k (0, 0, 0, 0)).2.1 (pL.getD k (0, 0, 0, 0)).2.2.1 (pL.getD k (0, 0, 0, 0)).2.2.2 pL.length w)
          rw [hins] at IA
          clear hins
          have HR := hide (show ∀ j, j < k + 1 → insB (pL.getD j (0, 0, 0, 0)).1 (pL.getD j (0, 0, 0, 0)).2.1 (pL.getD j (0, 0, 0, 0)).2.2.1 (pL.getD j (0, 0, 0, 0)).2.2.2 pL.length = true from fun j hj => by
            rcases Nat.lt_or_ge j k with h | h
            · exact HA.out j h
            · obtain rfl : j = k := by omega
              exact HK.out)
          clear HK HA
          generalize pL.getD k (0, 0, 0, 0) = x at q0 q1 q2 q3 IA
          obtain ⟨op, xa, xb, xc⟩ := x
          simp only at q0 q1 q2 q3 IA
          go_wp2_with fail
          refine (IA.out _).mono ?_
          rintro e w2 ⟨rfl, h2⟩
          have HB2 := hide (below_after hb h2)
          have HX2 := hide (hX.below h2 hX.lt)
          clear h2 q0 q1 q2 q3 hX hb
          have kI : (k : Int) < 48 := by have := HL.out; omega
          go_wp2_with fail
          go_roundw
          case rel => exact ⟨k + 1, by omega, by go_num, HR.out, HX2.out, HB2.out⟩
          case measure => simp [intOf]; omega
      · obtain rfl : k = pL.length := by omega
        have HN := hide (show (if (pL.all fun x => insB x.1 x.2.1 x.2.2.1 x.2.2.2 pL.length) = true then (if 8 < wL.length then (2 : Int) else 0) else 15) = (if 8 < wL.length then (2 : Int) else 0) from if_pos (all_take (P := fun x => insB x.1 x.2.1 x.2.2.1 x.2.2.2 pL.length) HA.out))
        clear HA
        have x0 := hX.cell 0
        simp only [List.getElem?_toArray, List.getElem?_cons_zero] at x0
        have HBX := hide hb
        clear hb hX
        by_cases h8 : 8 < wL.length
        · have d8 : decide ((8 : Int) < (wL.length : Int)) = true := decide_eq_true (by omega)
          have HV := hide (HN.out.trans (if_pos h8))
          go_wp2_with fail
          go_ret
          exact ⟨ret_int (HV.out.symm.trans HV0.out), HBX.out⟩
        · have d8 : decide ((8 : Int) < (wL.length : Int)) = false := decide_eq_false (by omega)
          have HV := hide (HN.out.trans (if_neg h8))
          go_wp2_with fail
          go_ret
          exact ⟨ret_int (HV.out.symm.trans HV0.out), HBX.out⟩
theorem outs_kept {α : Type} {e : TypeId} {size B r : Nat} {enc : α → List Value} {w : World} {v : Value} {L : List α} {cs : Array Value} (hR : Blk w r 115 cs) (h : OwnR e size enc w B v L) (hne : 115 ≠ e) (a b c d : Value) :
    OwnR e size enc ((((w.setCell ⟨r, 0, none⟩ a).setCell ⟨r, 1, none⟩ b).setCell ⟨r, 2, none⟩ c).setCell ⟨r, 3, none⟩ d) B v L := by
  have h1 : w.grownBy (w.setCell ⟨r, 0, none⟩ a) (some r) := only_setCell (World.grownBy.refl w (some r)) (p := ⟨r, 0, none⟩) (.inl rfl) a
  have h2 : w.grownBy ((w.setCell ⟨r, 0, none⟩ a).setCell ⟨r, 1, none⟩ b) (some r) := only_setCell h1 (p := ⟨r, 1, none⟩) (.inl rfl) b
  have h3 : w.grownBy (((w.setCell ⟨r, 0, none⟩ a).setCell ⟨r, 1, none⟩ b).setCell ⟨r, 2, none⟩ c) (some r) := only_setCell h2 (p := ⟨r, 2, none⟩) (.inl rfl) c
  have h4 : w.grownBy ((((w.setCell ⟨r, 0, none⟩ a).setCell ⟨r, 1, none⟩ b).setCell ⟨r, 2, none⟩ c).setCell ⟨r, 3, none⟩ d) (some r) := only_setCell h3 (p := ⟨r, 3, none⟩) (.inl rfl) d
  exact h.keepT hR hne h4
set_option maxHeartbeats 4000000 in
theorem rdo_any (w : World) (p : Sl Ins4) (i : Inp) (hp : p.At InsAt 4 w) (hi : i.At w) :
    Calls Try.prog 80 #[p.val, i.val] w (RunTo w (vmay p.L i.wd.L.length) (outV p.L i.wd.L i.pay i.me i.lps i.seed i.dice)) := by
  have hR := (Blk.new (w.alloc (.cells i.cells 112)) 115 #[.slice none 0 0, .slice none 0 0, .int .i64 0, .int .i64 0])
  have hX := (Blk.new w 112 i.cells).alloc (.cells #[.slice none 0 0, .slice none 0 0, .int .i64 0, .int .i64 0] 115)
  have hz : (w.alloc (.cells i.cells 112)).heap.size = w.heap.size + 1 := Array.size_push ..
  have hb : Below w.heap.size w ((w.alloc (.cells i.cells 112)).alloc (.cells #[.slice none 0 0, .slice none 0 0, .int .i64 0, .int .i64 0] 115)) := ((Below.refl _ _).alloc (Nat.le_refl _) _).alloc (by rw [hz]; omega) _
  rw [hz] at hR
  clear hz
  have HC := hide (show i.cells = #[.slice i.wd.A i.wd.L.length i.wd.c, .int .i64 i.pay, .int .i64 i.me, .int .i64 i.lps, .int .i64 i.seed, .int .i64 i.dice] from rfl)
  obtain ⟨V, hV⟩ : ∃ V, vmay p.L i.wd.L.length = V := ⟨_, rfl⟩
  have hM := rmay_any ((w.alloc (.cells i.cells 112)).alloc (.cells #[.slice none 0 0, .slice none 0 0, .int .i64 0, .int .i64 0] 115)) p i (hp.below InsAt.keeps hb) (hi.below hb)
  rw [hV] at hM ⊢
  have HM := hide hM
  have HV := hide hV
  have HB := hide hb
  have HR := hide hR
  have HX := hide hX
  have HI := hide (And.intro hp hi)
  clear hM hV hb hR hX hp hi
  unfold Inp.val
  generalize hcs : i.cells = cs at *
  obtain rfl := HC.out
  unfold Inp.val at HM
  rw [hcs] at HM
  clear hcs HC
  unfold Sl.val at HM ⊢
  go_enter Try.func80, Try.ntmps80
  go_upto_region 1 with fail
  generalize (w.alloc _).alloc _ = w1 at *
  have x0 := HX.out.cell 0
  have x1 := HX.out.cell 1
  have x2 := HX.out.cell 2
  have x3 := HX.out.cell 3
  have x4 := HX.out.cell 4
  have x5 := HX.out.cell 5
  simp only [List.getElem?_toArray, List.getElem?_cons_zero, List.getElem?_cons_succ] at x0 x1 x2 x3 x4 x5
  go_wp2_with fail
  refine HM.out.mono ?_
  rintro e w2 ⟨rfl, h2⟩
  have hb2 := below_after HB.out h2
  replace HX := hide (HX.out.below h2 HX.out.lt)
  replace HR := hide (HR.out.below h2 HR.out.lt)
  clear HM h2 x0 x1 x2 x3 x4 x5 HB
  by_cases h0 : V = 0
  · subst h0
    have HVo := hide (vmay_ok HV.out)
    have x0 := HX.out.cell 0
    have x1 := HX.out.cell 1
    have x2 := HX.out.cell 2
    have x3 := HX.out.cell 3
    have x4 := HX.out.cell 4
    have x5 := HX.out.cell 5
    simp only [List.getElem?_toArray, List.getElem?_cons_zero, List.getElem?_cons_succ] at x0 x1 x2 x3 x4 x5
    go_upto_region 4 with fail
    obtain ⟨R, hRR⟩ : ∃ R, vall p.L i.wd.L i.pay i.me i.lps i.seed i.dice = R := ⟨_, rfl⟩
    have hA := rof_any w2 p i (HI.out.1.below InsAt.keeps hb2) (HI.out.2.below hb2) HVo.out.2.2.2 HVo.out.2.1 HVo.out.2.2.1 R hRR
    unfold Inp.val Inp.cells Sl.val at hA
    have HA := hide hA
    have HRR := hide hRR
    have HB := hide hb2
    have HBsz := hide hb2.size
    clear hA hRR hb2 HX
    go_wp2_with fail
    refine HA.out.mono ?_
    rintro e w4 ⟨b, gb, wv4, sv4, rfl, hS4⟩
    clear x0 x1 x2 x3 x4 x5 HA
    obtain ⟨s4, f4⟩ := R
    simp only at hS4
    replace HR := hide (HR.out.below hS4.bel HR.out.lt)
    have hb4 := below_after HB.out hS4.bel
    have c6 := hS4.cells.2.2.2.2.2.2
    by_cases hf : f4 = 0
    · subst hf
      have HO := hide (show outV p.L i.wd.L i.pay i.me i.lps i.seed i.dice = (s4.w, s4.s, s4.d, 0) from (if_pos HV.out).trans (by rw [HRR.out]; exact if_pos rfl))
      obtain ⟨⟨wA, wc, wL⟩, hwv, hwL, _⟩ := hS4.wrd.form
      simp only [Sl.val] at hwv hwL
      subst hwL
      subst hwv
      obtain ⟨⟨sA, sc, sL⟩, hsv, hsL, _⟩ := hS4.snt.form
      simp only [Sl.val] at hsv hsL
      subst hsL
      subst hsv
      have HS := hide hS4
      clear hS4
      go_upto_region 7 with fail
      clear c6
      refine wp_region_still_tail 13 (by kernel_rfl) (by kernel_rfl) ?_
      change wpStill _ _ w4.drew _ _ _
      change wpStill _ _ _ (fun a' => wpList Try.prog _ _ _ a' w4.drew) _ _
      replace HS := hide HS.out.drew
      replace HR := hide HR.out.drew
      replace hb4 := hb4.drew
      have HB4 := hide hb4
      clear hb4 HB
      generalize w4.drew = w5 at *
      obtain ⟨_, c1, c2, c3, _⟩ := HS.out.cells
      have r0 := HR.out.cell 0
      have r1 := HR.out.cell 1
      have r2 := HR.out.cell 2
      have r3 := HR.out.cell 3
      have f0 := HR.out.frozen 0
      have f1 := HR.out.frozen 1
      have f2 := HR.out.frozen 2
      have f3 := HR.out.frozen 3
      simp only [List.getElem?_toArray, List.getElem?_cons_zero, List.getElem?_cons_succ] at r0 r1 r2 r3
      simp only [List.take_succ_cons, List.take_zero, List.drop_succ_cons, List.drop_zero]
      repeat still_step
      refine wpStill_nil ?_
      clear c1 c2 c3
      go_wp2_with fail
      have hwo := HS.out.wrd
      have hso := HS.out.snt
      clear r0 r1 r2 r3 f0 f1 f2 f3
      have hZ := (((HR.out.set_ 0 (.slice wA s4.w.length wc)).set_ 1 (.slice sA s4.s.length sc)).set_ 2 (.int .i64 s4.d)).set_ 3 (.int .i64 0)
      have bZ := ((((HB4.out.setCell (p := ⟨w.heap.size + 1, 0, none⟩) (by simp only; omega) (.slice wA s4.w.length wc)).setCell (p := ⟨w.heap.size + 1, 1, none⟩) (by simp only; omega) (.slice sA s4.s.length sc)).setCell (p := ⟨w.heap.size + 1, 2, none⟩) (by simp only; omega) (.int .i64 s4.d)).setCell (p := ⟨w.heap.size + 1, 3, none⟩) (by simp only; omega) (.int .i64 0))
      have oW := outs_kept HR.out hwo (by decide) (.slice wA s4.w.length wc) (.slice sA s4.s.length sc) (.int .i64 s4.d) (.int .i64 0)
      have oS := outs_kept HR.out hso (by decide) (.slice wA s4.w.length wc) (.slice sA s4.s.length sc) (.int .i64 s4.d) (.int .i64 0)
      generalize (((w5.setCell ⟨w.heap.size + 1, 0, none⟩ (.slice wA s4.w.length wc)).setCell ⟨w.heap.size + 1, 1, none⟩ (.slice sA s4.s.length sc)).setCell ⟨w.heap.size + 1, 2, none⟩ (.int .i64 s4.d)).setCell ⟨w.heap.size + 1, 3, none⟩ (.int .i64 0) = wZ at *
      have q0 := hZ.cell 0
      have q1 := hZ.cell 1
      have q2 := hZ.cell 2
      have q3 := hZ.cell 3
      simp only [List.setIfInBounds_toArray, List.set_cons_zero, List.set_cons_succ, List.getElem?_toArray, List.getElem?_cons_zero, List.getElem?_cons_succ] at q0 q1 q2 q3

      refine bodyPost_ret (v := .tuple #[.agg #[.slice wA s4.w.length wc, .slice sA s4.s.length sc, .int .i64 s4.d, .int .i64 0], .int .i64 0]) (by simp [results, Try.results80, go_sem, q0, q1, q2, q3]) rfl ⟨_, rfl, ?_, bZ⟩
      rw [HO.out]
      exact ⟨wA, wc, sA, sc, rfl, oW.lower HBsz.out, oS.lower HBsz.out⟩
    · have hfb : (f4 != 0) = true := by rw [bne_iff_ne]; exact hf
      have r0 := HR.out.cell 0
      have r1 := HR.out.cell 1
      have r2 := HR.out.cell 2
      have r3 := HR.out.cell 3
      have f0 := HR.out.frozen 0
      have f1 := HR.out.frozen 1
      have f2 := HR.out.frozen 2
      have f3 := HR.out.frozen 3
      simp only [List.getElem?_toArray, List.getElem?_cons_zero, List.getElem?_cons_succ] at r0 r1 r2 r3
      have HO := hide (show outV p.L i.wd.L i.pay i.me i.lps i.seed i.dice = ([], [], 0, f4) from (if_pos HV.out).trans (by rw [HRR.out]; exact if_neg hf))
      have HB4 := hide hb4
      clear hf hb4 hS4 HB
      go_wp2_with fail
      clear r0 r1 r2 r3 f0 f1 f2 f3
      have hZ := (((HR.out.set_ 0 (.slice none 0 0)).set_ 1 (.slice none 0 0)).set_ 2 (.int .i64 0)).set_ 3 (.int .i64 f4)
      have bZ := ((((HB4.out.setCell (p := ⟨w.heap.size + 1, 0, none⟩) (by simp only; omega) (.slice none 0 0)).setCell (p := ⟨w.heap.size + 1, 1, none⟩) (by simp only; omega) (.slice none 0 0)).setCell (p := ⟨w.heap.size + 1, 2, none⟩) (by simp only; omega) (.int .i64 0)).setCell (p := ⟨w.heap.size + 1, 3, none⟩) (by simp only; omega) (.int .i64 f4))
      generalize (((w4.setCell ⟨w.heap.size + 1, 0, none⟩ (.slice none 0 0)).setCell ⟨w.heap.size + 1, 1, none⟩ (.slice none 0 0)).setCell ⟨w.heap.size + 1, 2, none⟩ (.int .i64 0)).setCell ⟨w.heap.size + 1, 3, none⟩ (.int .i64 f4) = wZ at *
      have q0 := hZ.cell 0
      have q1 := hZ.cell 1
      have q2 := hZ.cell 2
      have q3 := hZ.cell 3
      simp only [List.setIfInBounds_toArray, List.set_cons_zero, List.set_cons_succ, List.getElem?_toArray, List.getElem?_cons_zero, List.getElem?_cons_succ] at q0 q1 q2 q3

      refine bodyPost_ret (v := .tuple #[.agg #[.slice none 0 0, .slice none 0 0, .int .i64 0, .int .i64 f4], .int .i64 0]) (by simp [results, Try.results80, go_sem, q0, q1, q2, q3]) rfl ⟨_, rfl, ?_, bZ⟩
      rw [HO.out]
      exact ⟨none, 0, none, 0, rfl, OwnR.nil, OwnR.nil⟩
  · have hVb : (V != 0) = true := by rw [bne_iff_ne]; exact h0
    have r0 := HR.out.cell 0
    have r1 := HR.out.cell 1
    have r2 := HR.out.cell 2
    have r3 := HR.out.cell 3
    have f0 := HR.out.frozen 0
    have f1 := HR.out.frozen 1
    have f2 := HR.out.frozen 2
    have f3 := HR.out.frozen 3
    simp only [List.getElem?_toArray, List.getElem?_cons_zero, List.getElem?_cons_succ] at r0 r1 r2 r3
    have HO := hide (show outV p.L i.wd.L i.pay i.me i.lps i.seed i.dice = ([], [], 0, 0) from if_neg (by rw [HV.out]; exact h0))
    have HB := hide hb2
    clear h0 hb2
    go_wp2_with fail
    clear r0 r1 r2 r3 f0 f1 f2 f3
    have hZ := (((HR.out.set_ 0 (.slice none 0 0)).set_ 1 (.slice none 0 0)).set_ 2 (.int .i64 0)).set_ 3 (.int .i64 0)
    have bZ := ((((HB.out.setCell (p := ⟨w.heap.size + 1, 0, none⟩) (by simp only; omega) (.slice none 0 0)).setCell (p := ⟨w.heap.size + 1, 1, none⟩) (by simp only; omega) (.slice none 0 0)).setCell (p := ⟨w.heap.size + 1, 2, none⟩) (by simp only; omega) (.int .i64 0)).setCell (p := ⟨w.heap.size + 1, 3, none⟩) (by simp only; omega) (.int .i64 0))
    generalize (((w2.setCell ⟨w.heap.size + 1, 0, none⟩ (.slice none 0 0)).setCell ⟨w.heap.size + 1, 1, none⟩ (.slice none 0 0)).setCell ⟨w.heap.size + 1, 2, none⟩ (.int .i64 0)).setCell ⟨w.heap.size + 1, 3, none⟩ (.int .i64 0) = wZ at *
    have q0 := hZ.cell 0
    have q1 := hZ.cell 1
    have q2 := hZ.cell 2
    have q3 := hZ.cell 3
    simp only [List.setIfInBounds_toArray, List.set_cons_zero, List.set_cons_succ, List.getElem?_toArray, List.getElem?_cons_zero, List.getElem?_cons_succ] at q0 q1 q2 q3

    refine bodyPost_ret (v := .tuple #[.agg #[.slice none 0 0, .slice none 0 0, .int .i64 0, .int .i64 0], .int .i64 V]) (by simp [results, Try.results80, go_sem, q0, q1, q2, q3]) rfl ⟨_, rfl, ?_, bZ⟩
    rw [HO.out]
    exact ⟨none, 0, none, 0, rfl, OwnR.nil, OwnR.nil⟩
end Go.Proofs.Ytpfcmfannkbipaa
end

section
set_option linter.unusedVariables false
set_option maxRecDepth 20000
namespace Go.Proofs.Ytpfcmfannkbipaa
open Go.RowKit Go.Deep

attribute [local go_sem] run_store_float
/-- The same float? -/
def fsame (a b : Nat) : Bool := decide (a = b) || (decide (isNan a) && decide (isNan b))
def eqL {α β : Type} (f : α → β → Bool) (a : List α) (b : List β) : Bool := decide (a.length = b.length) && (a.zip b).all (fun p => f p.1 p.2)
theorem eqL_len {α β : Type} {f : α → β → Bool} {a : List α} {b : List β} (h : a.length ≠ b.length) : eqL f a b = false := by
  unfold eqL
  rw [decide_eq_false h]
  rfl
theorem zip_at {α β : Type} {a : List α} {b : List β} {k : Nat} {x : α} {y : β} (hx : a[k]? = some x) (hy : b[k]? = some y) : (a.zip b)[k]? = some (x, y) := by
  rw [List.getElem?_zip_eq_some]
  exact ⟨hx, hy⟩
theorem eqL_no {α β : Type} {f : α → β → Bool} {a : List α} {b : List β} {k : Nat} {x : α} {y : β} (hx : a[k]? = some x) (hy : b[k]? = some y) (hf : f x y = false) : eqL f a b = false := by
  unfold eqL
  rw [all_fail (fun p : α × β => f p.1 p.2) (a.zip b) k (x, y) (zip_at hx hy) hf]
  simp
theorem eqL_yes {α β : Type} {f : α → β → Bool} {a : List α} {b : List β} (h : a.length = b.length) (hf : ((a.zip b).take a.length).all (fun p => f p.1 p.2) = true) : eqL f a b = true := by
  unfold eqL
  rw [decide_eq_true h]
  rw [List.take_of_length_le (by rw [List.length_zip]; omega)] at hf
  rw [hf]
  rfl
theorem eqL_step {α β : Type} {f : α → β → Bool} {a : List α} {b : List β} {k : Nat} {x : α} {y : β} (hx : a[k]? = some x) (hy : b[k]? = some y) (h : ((a.zip b).take k).all (fun p => f p.1 p.2) = true) (hf : f x y = true) : ((a.zip b).take (k + 1)).all (fun p => f p.1 p.2) = true := by
  rw [all_take_succ _ _ k (x, y) (zip_at hx hy), h]
  exact hf
theorem at_len {α β : Type} {a : List α} {b : List β} (h : a.length = b.length) {k : Nat} (hk : k < a.length) : ∃ x y, a[k]? = some x ∧ b[k]? = some y :=
  ⟨_, _, List.getElem?_eq_getElem hk, List.getElem?_eq_getElem (h ▸ hk)⟩
theorem fsame_eq (a : Nat) : fsame a a = true := by simp [fsame]
theorem fsame_ne {a b : Nat} (h : ¬ a = b) : fsame a b = (decide (isNan a) && decide (isNan b)) := by
  unfold fsame
  rw [decide_eq_false h]
  rfl
theorem rfloat_any (a b : Nat) (w : World) : Calls Try.prog 66 #[.float .f64 a, .float .f64 b] w fun e w' => e = .returned (.bool (fsame a b)) ∧ w = w' := by
  have fb := f64bits_run
  have hne : ((none : Option Ordering) != some .eq) = true := rfl
  have hee : ((some .eq : Option Ordering) != some .eq) = false := rfl
  by_cases ha : isNan a
  · have oa := fo_nan a a (.inl ha)
    by_cases hb : isNan b
    · have ob := fo_nan b b (.inl hb)
      have HF := hide (show fsame a b = true by simp [fsame, ha, hb])
      clear ha hb
      go_enter Try.func66, Try.ntmps66
      go_wp2_with fail
      go_ret
      exact ⟨ret_bool HF.out.symm, rfl⟩
    · have ob := fo_self b hb
      have HF := hide (show fsame a b = false by
        rw [fsame_ne (fun e => hb (by rw [← e]; exact ha))]
        simp [hb])
      clear ha hb
      go_enter Try.func66, Try.ntmps66
      go_wp2_with fail
      go_ret
      exact ⟨ret_bool HF.out.symm, rfl⟩
  · have oa := fo_self a ha
    by_cases hb : isNan b
    · have ob := fo_nan b b (.inl hb)
      have HF := hide (show fsame a b = false by
        rw [fsame_ne (fun e => ha (by rw [e]; exact hb))]
        simp [ha])
      clear ha hb
      go_enter Try.func66, Try.ntmps66
      go_wp2_with fail
      go_ret
      exact ⟨ret_bool HF.out.symm, rfl⟩
    · have ob := fo_self b hb
      have HF := hide (show fsame a b = decide (a = b) by simp [fsame, ha])
      clear ha hb
      go_enter Try.func66, Try.ntmps66
      go_wp2_with fail
      go_ret
      exact ⟨ret_bool (by rw [HF.out, Bool.eq_iff_iff]; simp; omega), rfl⟩
def EqRel {α β : Type} (w : World) (f : α → β → Bool) (a : List α) (b : List β) (i : Value) (wr : World) : Prop :=
  ∃ k : Nat, k ≤ a.length ∧ i = .int .i64 k ∧ ((a.zip b).take k).all (fun p => f p.1 p.2) = true ∧ Below w.heap.size w wr
theorem eqint_any (s t : Sl Int) (w : World) (hs : s.At IntAt 1 w) (ht : t.At IntAt 1 w) : Calls Try.prog 83 #[s.val, t.val] w fun e w' => e = .returned (.bool (eqL (fun x y => decide (x = y)) s.L t.L)) ∧ Below w.heap.size w w' := by
  obtain ⟨A, c, L⟩ := s
  obtain ⟨A', c', L'⟩ := t
  obtain ⟨hr, hn, hc⟩ := hs
  obtain ⟨hr', hn', hc'⟩ := ht
  simp only [Sl.val] at *
  by_cases hlen : L.length = L'.length
  · have HL := hide hlen
    rw [← hlen] at hn'
    rw [← hlen]
    clear hlen
    go_enter Try.func83, Try.ntmps83
    go_wp2_with fail
    go_loopw [13] (fun i wr => EqRel w (fun x y => decide (x = y)) L L' i wr) (fun i _ => L.length - (intOf i).toNat)
    case atStart => exact ⟨0, Nat.zero_le _, rfl, by simp, Below.refl _ _⟩
    case round =>
      obtain ⟨k, hk, rfl, hall, hb⟩ := hrel
      by_cases hlt : k < L.length
      · obtain ⟨x, y, hx, hy⟩ := at_len HL.out hlt
        obtain ⟨a, rfl, h0, _⟩ := (hr.below IntAt.keeps hb) k _ hx
        obtain ⟨a', rfl, g0, _⟩ := (hr'.below IntAt.keeps hb) k _ hy
        have HY := hide (fun h => eqL_step (f := (fun x y => decide (x = y))) hx hy hall h)
        have HN := hide (fun h => eqL_no (f := (fun x y => decide (x = y))) hx hy h)
        clear hall hx hy
        rw [Nat.mul_one] at h0 g0
        have kI : (k : Int) < (L.length : Int) := by omega
        by_cases hq : x = y
        · subst hq
          have HQ := hide (show (fun x y : Int => decide (x = y)) x x = true by simp)
          go_wp2_with fail
          go_quiet (fail)
          go_wp2_with fail
          go_roundw
          case rel => exact ⟨k + 1, by omega, by go_num, HY.out HQ.out, below_drewN hb _⟩
          case measure => simp [intOf]; omega
        · have HQ := hide (show (fun x y : Int => decide (x = y)) x y = false by simp [hq])
          have hne : (x != y) = true := by rw [bne_iff_ne]; exact hq
          clear hq
          go_wp2_with fail
          go_quiet (fail)
          go_wp2_with fail
          go_ret
          exact ⟨ret_bool (HN.out HQ.out).symm, below_drewN hb _⟩
      · obtain rfl : k = L.length := by omega
        have HF := hide (eqL_yes (f := (fun x y => decide (x = y))) HL.out hall)
        clear hall
        go_wp2_with fail
        go_ret
        exact ⟨ret_bool HF.out.symm, hb⟩
  · have hne : ((L.length : Int) == (L'.length : Int)) = false := by rw [beq_eq_false_iff_ne]; omega
    have hne2 : ((L.length : Int) != (L'.length : Int)) = true := by rw [bne_iff_ne]; omega
    have HF := hide (eqL_len (f := (fun x y => decide (x = y))) hlen)
    go_enter Try.func83, Try.ntmps83
    go_wp2_with fail
    go_ret
    exact ⟨ret_bool HF.out.symm, Below.refl _ _⟩
def RJRel (w : World) (a b : List Int) (i : Value) (wr : World) : Prop :=
  ∃ k n : Nat, k ≤ a.length ∧ i = .int .i64 k ∧ ((a.zip b).take k).all (fun p => decide (p.1 = p.2)) = true ∧ wr = w.drewN n
theorem rints_any (s t : Sl Int) (w : World) (hs : s.At IntAt 1 w) (ht : t.At IntAt 1 w) : Calls Try.prog 46 #[s.val, t.val] w (SomeDraws w (eqL (fun a b => decide (a = b)) s.L t.L)) := by
  obtain ⟨A, c, L⟩ := s
  obtain ⟨A', c', L'⟩ := t
  obtain ⟨hr, hn, hc⟩ := hs
  obtain ⟨hr', hn', hc'⟩ := ht
  simp only [Sl.val] at *
  by_cases hlen : L.length = L'.length
  · have HL := hide hlen
    rw [← hlen] at hn'
    rw [← hlen]
    clear hlen
    go_enter Try.func46, Try.ntmps46
    go_wp2_with fail
    go_loopw [5] (fun i wr => RJRel w L L' i wr) (fun i _ => L.length - (intOf i).toNat)
    case atStart => exact ⟨0, 0, Nat.zero_le _, rfl, by simp, rfl⟩
    case round =>
      obtain ⟨k, n, hk, rfl, hall, rfl⟩ := hrel
      by_cases hlt : k < L.length
      · obtain ⟨x, y, hx, hy⟩ := at_len HL.out hlt
        obtain ⟨a, rfl, h0, _⟩ := hr k _ hx
        obtain ⟨a', rfl, g0, _⟩ := hr' k _ hy
        rw [Nat.mul_one] at h0 g0
        have HY := hide (fun h => eqL_step (f := fun a b : Int => decide (a = b)) hx hy hall h)
        have HN := hide (fun h => eqL_no (f := fun a b : Int => decide (a = b)) hx hy h)
        have kI : (k : Int) < (L.length : Int) := by omega
        clear hall hx hy hr hr'
        by_cases hq : x = y
        · subst hq
          go_wp2_with fail
          go_quiet (fail)
          go_wp2_with fail
          go_roundw
          case rel => exact ⟨k + 1, _, by omega, by go_num, HY.out (by simp), by first | rfl | rw [World.drewN_drewN]⟩
          case measure => simp [intOf]; omega
        · have HQ := hide (show (fun a b : Int => decide (a = b)) x y = false by simp [hq])
          have hne : (x != y) = true := by rw [bne_iff_ne]; exact hq
          clear hq
          go_wp2_with fail
          go_quiet (fail)
          go_wp2_with fail
          go_ret
          exact ⟨ret_bool (HN.out HQ.out).symm, _, by first | rfl | rw [World.drewN_drewN]⟩
      · obtain rfl : k = L.length := by omega
        have HF := hide (eqL_yes (f := fun a b : Int => decide (a = b)) HL.out hall)
        clear hall
        go_wp2_with fail
        go_ret
        exact ⟨ret_bool HF.out.symm, _, rfl⟩
  · have hne : ((L.length : Int) == (L'.length : Int)) = false := by rw [beq_eq_false_iff_ne]; omega
    have hne2 : ((L.length : Int) != (L'.length : Int)) = true := by rw [bne_iff_ne]; omega
    have HF := hide (eqL_len (f := fun a b : Int => decide (a = b)) hlen)
    clear hr hr'
    go_enter Try.func46, Try.ntmps46
    go_wp2_with fail
    go_ret
    exact ⟨ret_bool HF.out.symm, 0, rfl⟩
end Go.Proofs.Ytpfcmfannkbipaa
end
