/- Texts of this claim in one. No condition. -/
import Derived.Test.YtpfcmfannkbipaaJ10
import Derived.StillTailTactics
section
set_option linter.unusedVariables false
set_option linter.unusedSimpArgs false
set_option maxRecDepth 20000
namespace Go.Proofs.Ytpfcmfannkbipaa
open Go.RowKit Go.Deep

/-- What comes of a handler, plainly: words, what is sent, rolls, how it went wrong. -/
abbrev OutV := List Int × List Snt × Int × Int
def outV (p : List Ins4) (words : List Int) (pay me lps seed dice : Int) : OutV :=
  if vmay p words.length = 0 then
    (if (vall p words pay me lps seed dice).2 = 0 then ((vall p words pay me lps seed dice).1.w, (vall p words pay me lps seed dice).1.s, (vall p words pay me lps seed dice).1.d, 0) else ([], [], 0, (vall p words pay me lps seed dice).2))
  else ([], [], 0, 0)
/-- An output in memory of the call's own. -/
def OutAt (w : World) (N : Nat) (v : Value) (o : OutV) : Prop :=
  ∃ (A : Option Addr) (c : Nat) (A' : Option Addr) (c' : Nat), v = .agg #[.slice A o.1.length c, .slice A' o.2.1.length c', .int .i64 o.2.2.1, .int .i64 o.2.2.2] ∧
    OwnR 3 1 encInt w N (.slice A o.1.length c) o.1 ∧ OwnR 130 3 encSnt w N (.slice A' o.2.1.length c') o.2.1
theorem OwnR.lower {α : Type} {e : TypeId} {size B N : Nat} {enc : α → List Value} {w : World} {v : Value} {L : List α} (h : OwnR e size enc w B v L) (hN : N ≤ B) : OwnR e size enc w N v L := by
  unfold OwnR World.ownsRow at *
  refine ⟨h.1, h.2.imp id ?_⟩
  rintro ⟨g, cap, cur, h1, h2, h3⟩
  exact ⟨g, cap, cur, h1, by omega, h3⟩
theorem ins_ok {w : World} {p : Sl Ins4} (hp : p.At InsAt 4 w) (h : ∀ x ∈ p.L, okIns p.L.length x) : ∀ x ∈ p.L, okIns p.L.length x ∧ I64 x.2.2.1 := by
  intro x hx
  refine ⟨h x hx, ?_⟩
  obtain ⟨i, hi, rfl⟩ := List.getElem_of_mem hx
  obtain ⟨a, _, _, _, _, _, _, _, h1, _⟩ := hp.1 i p.L[i] (List.getElem?_eq_getElem hi)
  exact h1
def RunTo (w : World) (E : Int) (o : OutV) (e : Ending) (w' : World) : Prop := ∃ v, e = .returned (.tuple #[v, .int .i64 E]) ∧ OutAt w' w.heap.size v o ∧ Below w.heap.size w w'
set_option maxHeartbeats 4000000 in
theorem run_any (w : World) (p : Sl Ins4) (i : Inp) (hp : p.At InsAt 4 w) (hi : i.At w) :
    Calls Try.prog 77 #[p.val, i.val] w (RunTo w (vmay p.L i.wd.L.length) (outV p.L i.wd.L i.pay i.me i.lps i.seed i.dice)) := by
  have hR := (Blk.new (w.alloc (.cells i.cells 112)) 115 #[.slice none 0 0, .slice none 0 0, .int .i64 0, .int .i64 0])
  have hX := (Blk.new w 112 i.cells).alloc (.cells #[.slice none 0 0, .slice none 0 0, .int .i64 0, .int .i64 0] 115)
  have hz : (w.alloc (.cells i.cells 112)).heap.size = w.heap.size + 1 := Array.size_push ..
  have hb : Below w.heap.size w ((w.alloc (.cells i.cells 112)).alloc (.cells #[.slice none 0 0, .slice none 0 0, .int .i64 0, .int .i64 0] 115)) := ((Below.refl _ _).alloc (Nat.le_refl _) _).alloc (by rw [hz]; omega) _
  rw [hz] at hR
  clear hz
  have HC := hide (show i.cells = #[.slice i.wd.A i.wd.L.length i.wd.c, .int .i64 i.pay, .int .i64 i.me, .int .i64 i.lps, .int .i64 i.seed, .int .i64 i.dice] from rfl)
  obtain ⟨V, hV⟩ : ∃ V, vmay p.L i.wd.L.length = V := ⟨_, rfl⟩
  have hM := may_any ((w.alloc (.cells i.cells 112)).alloc (.cells #[.slice none 0 0, .slice none 0 0, .int .i64 0, .int .i64 0] 115)) p i (hp.below InsAt.keeps hb) (hi.below hb)
  rw [hV] at hM ⊢
  have HM := hide hM
  have HV := hide hV
  have HB := hide hb
  have HR := hide hR
  have HX := hide hX
  have HI := hide (And.intro hp hi)
  clear hM hV hb hR hX hp hi
  unfold Inp.val
  generalize hcs : i.cells = cs at *
  obtain rfl := HC.out
  unfold Inp.val at HM
  rw [hcs] at HM
  clear hcs HC
  unfold Sl.val at HM ⊢
  go_enter Try.func77, Try.ntmps77
  go_upto_region 1 with fail
  generalize (w.alloc _).alloc _ = w1 at *
  have x0 := HX.out.cell 0
  have x1 := HX.out.cell 1
  have x2 := HX.out.cell 2
  have x3 := HX.out.cell 3
  have x4 := HX.out.cell 4
  have x5 := HX.out.cell 5
  simp only [List.getElem?_toArray, List.getElem?_cons_zero, List.getElem?_cons_succ] at x0 x1 x2 x3 x4 x5
  go_wp2_with fail
  refine HM.out.mono ?_
  rintro e w2 ⟨rfl, h2⟩
  have hb2 := below_after HB.out h2
  replace HX := hide (HX.out.below h2 HX.out.lt)
  replace HR := hide (HR.out.below h2 HR.out.lt)
  clear HM h2 x0 x1 x2 x3 x4 x5 HB
  by_cases h0 : V = 0
  · subst h0
    have HVo := hide (vmay_ok HV.out)
    have x0 := HX.out.cell 0
    have x1 := HX.out.cell 1
    have x2 := HX.out.cell 2
    have x3 := HX.out.cell 3
    have x4 := HX.out.cell 4
    have x5 := HX.out.cell 5
    simp only [List.getElem?_toArray, List.getElem?_cons_zero, List.getElem?_cons_succ] at x0 x1 x2 x3 x4 x5
    go_upto_region 4 with fail
    have hBG := begin_any w2 p i (HI.out.2.below hb2) HVo.out.2.2.2
    unfold Inp.val Inp.cells Sl.val at hBG
    have HG := hide hBG
    clear hBG
    go_wp2_with fail
    refine HG.out.mono ?_
    rintro e w3 ⟨B, b, db, wv, rfl, hS⟩
    have hlps := HI.out.2.lps
    have hOk := vbeg_ok (words := i.wd.L) (pay := i.pay) (me := i.me) (lps := i.lps) (dice := i.dice) (len := p.L.length) (sl_ints HI.out.2.wd) HVo.out.2.2.2 HI.out.2.pay HI.out.2.me HI.out.2.lps HI.out.2.dice
    obtain ⟨R, hRR⟩ : ∃ R, vall p.L i.wd.L i.pay i.me i.lps i.seed i.dice = R := ⟨_, rfl⟩
    have hA := all_any w2 w3 B b db p wv _ (wordI i.seed i.me) i.lps _ i.wd.L.length hS hOk (by simp [vbeg]) (HI.out.1.below InsAt.keeps hb2) (by have := HVo.out.2.1; omega) (ins_ok HI.out.1 HVo.out.2.2.1) hlps R hRR
    have HA := hide hA
    have hbs := hS.bel
    replace HX := hide (HX.out.below hbs HX.out.lt)
    have HRR := hide hRR
    have HB := hide hb2
    clear hA hS hOk hlps hRR HG x0 x1 x2 x3 x4 x5 hb2 hbs
    go_wp2_with fail
    refine HA.out.mono ?_
    rintro e w4 ⟨rfl, wv4, sv4, hS4⟩
    obtain ⟨s4, f4⟩ := R
    simp only at hS4
    have HBB := hide (show w.heap.size + 1 < B from by have h9 := HR.out.lt; have := hS4.lo; have := hS4.lb; omega)
    replace HR := hide (HR.out.below hS4.bel HR.out.lt)
    have hb4 := below_after HB.out hS4.bel
    clear HA HX
    by_cases hf : f4 = 0
    · subst hf
      have HO := hide (show outV p.L i.wd.L i.pay i.me i.lps i.seed i.dice = (s4.w, s4.s, s4.d, 0) from (if_pos HV.out).trans (by rw [HRR.out]; exact if_pos rfl))
      have H8 : s4.g.length = 8 := by
        have hk := (vrun_ok (W := wordI i.seed i.me) (lps := i.lps) (nw := i.wd.L.length) (ins_ok HI.out.1 HVo.out.2.2.1) 120 (vbeg i.wd.L i.pay i.me i.lps i.dice) (vbeg_ok (sl_ints HI.out.2.wd) HVo.out.2.2.2 HI.out.2.pay HI.out.2.me HI.out.2.lps HI.out.2.dice)).1.g8
        have hr := HRR.out
        unfold vall at hr
        rw [hr] at hk
        exact hk
      obtain ⟨⟨wA, wc, wL⟩, hwv, hwL, _⟩ := hS4.wrd.form
      simp only [Sl.val] at hwv hwL
      subst hwL
      subst hwv
      obtain ⟨⟨sA, sc, sL⟩, hsv, hsL, _⟩ := hS4.snt.form
      simp only [Sl.val] at hsv hsL
      subst hsL
      subst hsv
      have HS := hide hS4
      clear hS4
      go_upto_region 8 with fail
      refine wp_region_still_tail 14 (by kernel_rfl) (by kernel_rfl) ?_
      change wpStill _ _ w4.drew _ _ _
      change wpStill _ _ _ (fun a' => wpList Try.prog _ _ _ a' w4.drew) _ _
      replace HS := hide HS.out.drew
      replace HR := hide HR.out.drew
      replace hb4 := hb4.drew
      have HB4 := hide hb4
      clear hb4 HB
      generalize w4.drew = w5 at *
      have CA := hide ((count_at db (wordI i.seed i.me) s4.d w5 HS.out.dic).mono fun e w' (h : _ ∧ _) => And.intro h.1 h.2.symm)
      obtain ⟨_, c9, _, c11, c12, _⟩ := HS.out.tails H8
      have r0 := HR.out.cell 0
      have r1 := HR.out.cell 1
      have r2 := HR.out.cell 2
      have r3 := HR.out.cell 3
      have f0 := HR.out.frozen 0
      have f1 := HR.out.frozen 1
      have f2 := HR.out.frozen 2
      have f3 := HR.out.frozen 3
      simp only [List.getElem?_toArray, List.getElem?_cons_zero, List.getElem?_cons_succ] at r0 r1 r2 r3
      simp only [List.take_succ_cons, List.take_zero, List.drop_succ_cons, List.drop_zero]
      repeat (first
        | still_step
        | (still_call (CA.out)))
      refine wpStill_nil ?_
      clear c9 c11 c12
      go_wp2_with fail
      have hwo := HS.out.wrd
      have hso := HS.out.snt
      have hbb := HBB.out
      clear r0 r1 r2 r3 f0 f1 f2 f3
      have hZ := (((HR.out.set_ 0 (.slice wA s4.w.length wc)).set_ 1 (.slice sA s4.s.length sc)).set_ 2 (.int .i64 s4.d)).set_ 3 (.int .i64 0)
      have bZ := ((((HB4.out.setCell (p := ⟨w.heap.size + 1, 0, none⟩) (by simp only; omega) (.slice wA s4.w.length wc)).setCell (p := ⟨w.heap.size + 1, 1, none⟩) (by simp only; omega) (.slice sA s4.s.length sc)).setCell (p := ⟨w.heap.size + 1, 2, none⟩) (by simp only; omega) (.int .i64 s4.d)).setCell (p := ⟨w.heap.size + 1, 3, none⟩) (by simp only; omega) (.int .i64 0))
      have oW := ((((hwo.setCell (p := ⟨w.heap.size + 1, 0, none⟩) (by simp only; omega) (.slice wA s4.w.length wc)).setCell (p := ⟨w.heap.size + 1, 1, none⟩) (by simp only; omega) (.slice sA s4.s.length sc)).setCell (p := ⟨w.heap.size + 1, 2, none⟩) (by simp only; omega) (.int .i64 s4.d)).setCell (p := ⟨w.heap.size + 1, 3, none⟩) (by simp only; omega) (.int .i64 0))
      have oS := ((((hso.setCell (p := ⟨w.heap.size + 1, 0, none⟩) (by simp only; omega) (.slice wA s4.w.length wc)).setCell (p := ⟨w.heap.size + 1, 1, none⟩) (by simp only; omega) (.slice sA s4.s.length sc)).setCell (p := ⟨w.heap.size + 1, 2, none⟩) (by simp only; omega) (.int .i64 s4.d)).setCell (p := ⟨w.heap.size + 1, 3, none⟩) (by simp only; omega) (.int .i64 0))
      generalize (((w5.setCell ⟨w.heap.size + 1, 0, none⟩ (.slice wA s4.w.length wc)).setCell ⟨w.heap.size + 1, 1, none⟩ (.slice sA s4.s.length sc)).setCell ⟨w.heap.size + 1, 2, none⟩ (.int .i64 s4.d)).setCell ⟨w.heap.size + 1, 3, none⟩ (.int .i64 0) = wZ at *
      have q0 := hZ.cell 0
      have q1 := hZ.cell 1
      have q2 := hZ.cell 2
      have q3 := hZ.cell 3
      simp only [List.setIfInBounds_toArray, List.set_cons_zero, List.set_cons_succ, List.getElem?_toArray, List.getElem?_cons_zero, List.getElem?_cons_succ] at q0 q1 q2 q3

      refine bodyPost_ret (v := .tuple #[.agg #[.slice wA s4.w.length wc, .slice sA s4.s.length sc, .int .i64 s4.d, .int .i64 0], .int .i64 0]) (by simp [results, Try.results77, go_sem, q0, q1, q2, q3]) rfl ⟨_, rfl, ?_, bZ⟩
      rw [HO.out]
      exact ⟨wA, wc, sA, sc, rfl, oW.lower (by omega), oS.lower (by omega)⟩
    · have hfb : (f4 != 0) = true := by rw [bne_iff_ne]; exact hf
      have r0 := HR.out.cell 0
      have r1 := HR.out.cell 1
      have r2 := HR.out.cell 2
      have r3 := HR.out.cell 3
      have f0 := HR.out.frozen 0
      have f1 := HR.out.frozen 1
      have f2 := HR.out.frozen 2
      have f3 := HR.out.frozen 3
      simp only [List.getElem?_toArray, List.getElem?_cons_zero, List.getElem?_cons_succ] at r0 r1 r2 r3
      have HO := hide (show outV p.L i.wd.L i.pay i.me i.lps i.seed i.dice = ([], [], 0, f4) from (if_pos HV.out).trans (by rw [HRR.out]; exact if_neg hf))
      have HB4 := hide hb4
      clear hf hb4 hS4 HB
      go_wp2_with fail
      clear r0 r1 r2 r3 f0 f1 f2 f3
      have hZ := (((HR.out.set_ 0 (.slice none 0 0)).set_ 1 (.slice none 0 0)).set_ 2 (.int .i64 0)).set_ 3 (.int .i64 f4)
      have bZ := ((((HB4.out.setCell (p := ⟨w.heap.size + 1, 0, none⟩) (by simp only; omega) (.slice none 0 0)).setCell (p := ⟨w.heap.size + 1, 1, none⟩) (by simp only; omega) (.slice none 0 0)).setCell (p := ⟨w.heap.size + 1, 2, none⟩) (by simp only; omega) (.int .i64 0)).setCell (p := ⟨w.heap.size + 1, 3, none⟩) (by simp only; omega) (.int .i64 f4))
      generalize (((w4.setCell ⟨w.heap.size + 1, 0, none⟩ (.slice none 0 0)).setCell ⟨w.heap.size + 1, 1, none⟩ (.slice none 0 0)).setCell ⟨w.heap.size + 1, 2, none⟩ (.int .i64 0)).setCell ⟨w.heap.size + 1, 3, none⟩ (.int .i64 f4) = wZ at *
      have q0 := hZ.cell 0
      have q1 := hZ.cell 1
      have q2 := hZ.cell 2
      have q3 := hZ.cell 3
      simp only [List.setIfInBounds_toArray, List.set_cons_zero, List.set_cons_succ, List.getElem?_toArray, List.getElem?_cons_zero, List.getElem?_cons_succ] at q0 q1 q2 q3

      refine bodyPost_ret (v := .tuple #[.agg #[.slice none 0 0, .slice none 0 0, .int .i64 0, .int .i64 f4], .int .i64 0]) (by simp [results, Try.results77, go_sem, q0, q1, q2, q3]) rfl ⟨_, rfl, ?_, bZ⟩
      rw [HO.out]
      exact ⟨none, 0, none, 0, rfl, OwnR.nil, OwnR.nil⟩
  · have hVb : (V != 0) = true := by rw [bne_iff_ne]; exact h0
    have r0 := HR.out.cell 0
    have r1 := HR.out.cell 1
    have r2 := HR.out.cell 2
    have r3 := HR.out.cell 3
    have f0 := HR.out.frozen 0
    have f1 := HR.out.frozen 1
    have f2 := HR.out.frozen 2
    have f3 := HR.out.frozen 3
    simp only [List.getElem?_toArray, List.getElem?_cons_zero, List.getElem?_cons_succ] at r0 r1 r2 r3
    have HO := hide (show outV p.L i.wd.L i.pay i.me i.lps i.seed i.dice = ([], [], 0, 0) from if_neg (by rw [HV.out]; exact h0))
    have HB := hide hb2
    clear h0 hb2
    go_wp2_with fail
    clear r0 r1 r2 r3 f0 f1 f2 f3
    have hZ := (((HR.out.set_ 0 (.slice none 0 0)).set_ 1 (.slice none 0 0)).set_ 2 (.int .i64 0)).set_ 3 (.int .i64 0)
    have bZ := ((((HB.out.setCell (p := ⟨w.heap.size + 1, 0, none⟩) (by simp only; omega) (.slice none 0 0)).setCell (p := ⟨w.heap.size + 1, 1, none⟩) (by simp only; omega) (.slice none 0 0)).setCell (p := ⟨w.heap.size + 1, 2, none⟩) (by simp only; omega) (.int .i64 0)).setCell (p := ⟨w.heap.size + 1, 3, none⟩) (by simp only; omega) (.int .i64 0))
    generalize (((w2.setCell ⟨w.heap.size + 1, 0, none⟩ (.slice none 0 0)).setCell ⟨w.heap.size + 1, 1, none⟩ (.slice none 0 0)).setCell ⟨w.heap.size + 1, 2, none⟩ (.int .i64 0)).setCell ⟨w.heap.size + 1, 3, none⟩ (.int .i64 0) = wZ at *
    have q0 := hZ.cell 0
    have q1 := hZ.cell 1
    have q2 := hZ.cell 2
    have q3 := hZ.cell 3
    simp only [List.setIfInBounds_toArray, List.set_cons_zero, List.set_cons_succ, List.getElem?_toArray, List.getElem?_cons_zero, List.getElem?_cons_succ] at q0 q1 q2 q3

    refine bodyPost_ret (v := .tuple #[.agg #[.slice none 0 0, .slice none 0 0, .int .i64 0, .int .i64 0], .int .i64 V]) (by simp [results, Try.results77, go_sem, q0, q1, q2, q3]) rfl ⟨_, rfl, ?_, bZ⟩
    rw [HO.out]
    exact ⟨none, 0, none, 0, rfl, OwnR.nil, OwnR.nil⟩
end Go.Proofs.Ytpfcmfannkbipaa
end
