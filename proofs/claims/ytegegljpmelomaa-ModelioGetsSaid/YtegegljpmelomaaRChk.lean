/- The walk of R05.Check: which models may be. No condition. -/
import Derived.Test.YtegegljpmelomaaChk
set_option linter.unusedVariables false
set_option maxRecDepth 20000
namespace Go.Proofs.Ytegegljpmelomaa
open Go.RowKit Go.Deep

attribute [local go_sem] run_store_float
theorem chk_no {m : Mdl} (h : chkB m = false) : chkE m = 15 := by
  unfold chkE
  rw [h]
  rfl
theorem chkB_eq (m : Mdl) : chkB m = (countsB m && !decide (isNan m.fin) && m.dl.L.all posB && m.pl.L.all (fun p => progB p.L) && m.ll.L.all (lpB m.pl.L.length) && m.il.L.all (initB m.ll.L.length)) := rfl
def RRel {α : Type} (w : World) (M : Array Value) (f : α → Bool) (L : List α) (i : Value) (wr : World) : Prop :=
  ∃ k : Nat, k ≤ L.length ∧ i = .int .i64 k ∧ (L.take k).all f = true ∧ Below w.heap.size w wr ∧ Blk wr w.heap.size 28 M
set_option maxHeartbeats 800000 in
theorem rcheck_bad (m : Mdl) (w : World) (h : m.At w) (hbad : countsB m = false ∨ isNan m.fin) : Calls Try.prog 16 #[m.val] w fun e w' => e = .returned (.int .i64 (chkE m)) ∧ Below w.heap.size w w' := by
  have HE := hide (chk_no (show chkB m = false by
    rw [chkB_eq]
    rcases hbad with h | h
    · rw [h]; rfl
    · simp [h]))
  obtain ⟨seed, fin, ⟨dA, dc, dl⟩, ⟨pA, pc, pl⟩, ⟨lA, lc, ll⟩, ⟨iA, ic, il⟩⟩ := m
  obtain ⟨_, _, ⟨dr, d1, d2⟩, ⟨pr, p1, p2⟩, ⟨lr, l1, l2⟩, ⟨ir, i1, i2⟩⟩ := h
  simp only [Sl.val, Mdl.val, countsB, decide_eq_false_iff_not] at *
  have hd : dl.length ≤ 9223372036854775807 := by omega
  have hp : pl.length ≤ 9223372036854775807 := by omega
  have hl : ll.length ≤ 9223372036854775807 := by omega
  have hi : il.length ≤ 9223372036854775807 := by omega
  by_cases hn : isNan fin
  · have ho := fo_nan fin fin (.inl hn)
    have hne : ((none : Option Ordering) != some .eq) = true := rfl
    have HN := hide hn
    clear hbad hn dr pr lr ir d1 d2 p1 p2 l1 l2 i1 i2
    go_enter Try.func16, Try.ntmps16
    go_wp2
    all_goals
      go_ret
      exact ⟨ret_int HE.out.symm, (Below.refl _ _).alloc (Nat.le_refl _) _⟩
  · have ho := fo_self fin hn
    have hb : ¬ (1 ≤ ll.length ∧ ll.length ≤ 6 ∧ 1 ≤ pl.length ∧ pl.length ≤ 4 ∧ 1 ≤ dl.length ∧ dl.length ≤ 8 ∧ il.length ≤ 16) := hbad.resolve_right hn
    clear hbad hn dr pr lr ir d1 d2 p1 p2 l1 l2 i1 i2
    go_enter Try.func16, Try.ntmps16
    go_wp2
    all_goals
      go_ret
      exact ⟨ret_int HE.out.symm, (Below.refl _ _).alloc (Nat.le_refl _) _⟩
set_option maxHeartbeats 1600000 in
theorem rcheck_good (m : Mdl) (w : World) (h : m.At w) (hc : countsB m = true) (hn : ¬ isNan m.fin) : Calls Try.prog 16 #[m.val] w fun e w' => e = .returned (.int .i64 (chkE m)) ∧ Below w.heap.size w w' := by
  have HE := hide (show chkE m = if chkB m then 0 else 15 from rfl)
  have HB := hide (show chkB m = (m.dl.L.all posB && m.pl.L.all (fun p => progB p.L) && m.ll.L.all (lpB m.pl.L.length) && m.il.L.all (initB m.ll.L.length)) by rw [chkB_eq, hc]; simp [hn])
  generalize chkE m = E at *
  generalize chkB m = B at *
  obtain ⟨seed, fin, ⟨dA, dc, dl⟩, ⟨pA, pc, pl⟩, ⟨lA, lc, ll⟩, ⟨iA, ic, il⟩⟩ := m
  obtain ⟨_, _, ⟨dr, d1, d2⟩, ⟨pr, p1, p2⟩, ⟨lr, l1, l2⟩, ⟨ir, i1, i2⟩⟩ := h
  simp only [Sl.val, Mdl.val, countsB, decide_eq_true_eq] at *
  obtain ⟨q1, q2, q3, q4, q5, q6, q7⟩ := hc
  have ho := fo_self fin hn
  clear hn
  have z1 : decide ((ll.length : Int) < 1) = false := by rw [decide_eq_false_iff_not]; omega
  have z2 : decide (6 < (ll.length : Int)) = false := by rw [decide_eq_false_iff_not]; omega
  have z3 : decide ((pl.length : Int) < 1) = false := by rw [decide_eq_false_iff_not]; omega
  have z4 : decide (4 < (pl.length : Int)) = false := by rw [decide_eq_false_iff_not]; omega
  have z5 : decide ((dl.length : Int) < 1) = false := by rw [decide_eq_false_iff_not]; omega
  have z6 : decide (8 < (dl.length : Int)) = false := by rw [decide_eq_false_iff_not]; omega
  have z7 : decide (16 < (il.length : Int)) = false := by rw [decide_eq_false_iff_not]; omega
  go_enter Try.func16, Try.ntmps16
  go_wp2_with fail
  clear z1 z2 z3 z4 z5 z6 z7 ho
  have hb1 : Below w.heap.size w (w.alloc (.cells #[.int .i64 seed, .float .f64 fin, .slice dA dl.length dc, .slice pA pl.length pc, .slice lA ll.length lc, .slice iA il.length ic] 28)) := (Below.refl _ _).alloc (Nat.le_refl _) _
  have hX1 := Blk.new w 28 #[.int .i64 seed, .float .f64 fin, .slice dA dl.length dc, .slice pA pl.length pc, .slice lA ll.length lc, .slice iA il.length ic]
  go_loopw [3] (fun i wr => RRel w #[.int .i64 seed, .float .f64 fin, .slice dA dl.length dc, .slice pA pl.length pc, .slice lA ll.length lc, .slice iA il.length ic] posB dl i wr) (fun i _ => dl.length - (intOf i).toNat)
  case atStart => exact ⟨0, Nat.zero_le _, rfl, by simp, hb1, hX1⟩
  case round =>
    clear hb1 hX1
    obtain ⟨k, hk, rfl, hall, hb, hX⟩ := hrel
    obtain ⟨c2, c3, c4, c5⟩ : wr.cell? ⟨w.heap.size, 2, none⟩ = _ ∧ wr.cell? ⟨w.heap.size, 3, none⟩ = _ ∧ wr.cell? ⟨w.heap.size, 4, none⟩ = _ ∧ wr.cell? ⟨w.heap.size, 5, none⟩ = _ := ⟨hX.cell 2, hX.cell 3, hX.cell 4, hX.cell 5⟩
    by_cases hlt : k < dl.length
    · have hx := List.getElem?_eq_getElem hlt
      obtain ⟨a, rfl, h0, _⟩ := (dr.below FlAt.keeps hb) k _ hx
      rw [Nat.mul_one] at h0
      generalize dl[k] = x at *
      have HS := hide (all_take_succ posB dl k x hx)
      have HA := hide hall
      have HX := hide hx
      clear hall hx
      have hp : posB x = decide (¬ isNan x ∧ 0 < skey x) := rfl
      by_cases hn : isNan x
      · have HF := hide (show posB x = false by rw [hp]; simp [hn])
        have ho := fo_nan x 0 (.inl hn)
        clear hp hn
        go_wp2_with fail
        go_ret
        exact ⟨ret_int (by rw [HE.out, HB.out, all_fail _ _ _ _ HX.out HF.out]; rfl), hb⟩
      · have fw := fo_ways x 0 hn zero_num
        rw [skey_zero] at fw
        rcases fw with ⟨hs, ho⟩ | ⟨hs, ho⟩ | ⟨hs, ho⟩
        · have HF := hide (show posB x = false by rw [hp]; simp; omega)
          clear hp hn
          go_wp2_with fail
          go_ret
          exact ⟨ret_int (by rw [HE.out, HB.out, all_fail _ _ _ _ HX.out HF.out]; rfl), hb⟩
        · have HF := hide (show posB x = false by rw [hp]; simp; omega)
          clear hp hn
          go_wp2_with fail
          go_ret
          exact ⟨ret_int (by rw [HE.out, HB.out, all_fail _ _ _ _ HX.out HF.out]; rfl), hb⟩
        · have HF := hide (show posB x = true by rw [hp]; simp [hn]; omega)
          clear hp hn
          go_wp2_with fail
          go_roundw
          case rel => exact ⟨k + 1, by omega, by go_num, by rw [HS.out, HA.out, HF.out]; rfl, hb, hX⟩
          case measure => simp [intOf]; omega
    · obtain rfl : k = dl.length := by omega
      have hA := all_take_all _ _ hall
      have HB := hide (HB.out.trans (show (dl.all posB && pl.all (fun p => progB p.L) && ll.all (lpB pl.length) && il.all (initB ll.length)) = (pl.all (fun p => progB p.L) && ll.all (lpB pl.length) && il.all (initB ll.length)) by rw [hA]; rfl))
      clear hA hall
      go_wp2_with fail
      have hb1 := hb
      have hX1 := hX
      clear hb hX c2 c3 c4 c5
      go_loopw [4] (fun i wr => RRel w #[.int .i64 seed, .float .f64 fin, .slice dA dl.length dc, .slice pA pl.length pc, .slice lA ll.length lc, .slice iA il.length ic] (fun p => progB p.L) pl i wr) (fun i _ => pl.length - (intOf i).toNat)
      case atStart => exact ⟨0, Nat.zero_le _, rfl, by simp, hb1, hX1⟩
      case round =>
        clear hb1 hX1
        obtain ⟨k, hk, rfl, hall, hb, hX⟩ := hrel
        obtain ⟨c2, c3, c4, c5⟩ : wr.cell? ⟨w.heap.size, 2, none⟩ = _ ∧ wr.cell? ⟨w.heap.size, 3, none⟩ = _ ∧ wr.cell? ⟨w.heap.size, 4, none⟩ = _ ∧ wr.cell? ⟨w.heap.size, 5, none⟩ = _ := ⟨hX.cell 2, hX.cell 3, hX.cell 4, hX.cell 5⟩
        by_cases hlt : k < pl.length
        · have hx := List.getElem?_eq_getElem hlt
          obtain ⟨a, rfl, h0, hs⟩ := (pr.below (SlAt.keeps InsAt.keeps 4) hb) k _ hx
          rw [Nat.mul_one] at h0
          generalize pl[k] = x at *
          have HS := hide (all_take_succ (fun p => progB p.L) pl k x hx)
          have HA := hide hall
          have HX := hide hx
          clear hall hx
          have hpa := rprogram_any x wr hs
          clear hs
          generalize hq : progB x.L = q at *
          have HF : Hid ((fun p : Sl Ins4 => progB p.L) x = q) := hide hq
          clear hq
          obtain ⟨xA, xc, xl⟩ := x
          simp only [Sl.val] at h0 hpa
          cases q
          · go_wp2_with fail
            refine hpa.mono ?_
            clear hpa
            rintro e w2 ⟨rfl, hb2⟩
            have hb3 := below_after hb hb2
            go_wp2_with fail
            go_ret
            exact ⟨ret_int (by rw [HE.out, HB.out, all_fail (fun p : Sl Ins4 => progB p.L) _ _ _ HX.out HF.out]; rfl), hb3⟩
          · go_wp2_with fail
            refine hpa.mono ?_
            clear hpa
            rintro e w2 ⟨rfl, hb2⟩
            have hX2 := hX.below hb2 hX.lt
            have hb3 := below_after hb hb2
            go_wp2_with fail
            go_roundw
            case rel => exact ⟨k + 1, by omega, by go_num, by rw [HS.out, HA.out]; rfl, hb3, hX2⟩
            case measure => simp [intOf]; omega
        · obtain rfl : k = pl.length := by omega
          have hA := all_take_all _ _ hall
          have HB := hide (HB.out.trans (show (pl.all (fun p => progB p.L) && ll.all (lpB pl.length) && il.all (initB ll.length)) = (ll.all (lpB pl.length) && il.all (initB ll.length)) by rw [hA]; rfl))
          clear hA hall
          go_wp2_with fail
          have hb1 := hb
          have hX1 := hX
          clear hb hX c2 c3 c4 c5
          go_loopw [5] (fun i wr => RRel w #[.int .i64 seed, .float .f64 fin, .slice dA dl.length dc, .slice pA pl.length pc, .slice lA ll.length lc, .slice iA il.length ic] (lpB pl.length) ll i wr) (fun i _ => ll.length - (intOf i).toNat)
          case atStart => exact ⟨0, Nat.zero_le _, rfl, by simp, hb1, hX1⟩
          case round =>
            clear hb1 hX1
            obtain ⟨k, hk, rfl, hall, hb, hX⟩ := hrel
            obtain ⟨c2, c3, c4, c5⟩ : wr.cell? ⟨w.heap.size, 2, none⟩ = _ ∧ wr.cell? ⟨w.heap.size, 3, none⟩ = _ ∧ wr.cell? ⟨w.heap.size, 4, none⟩ = _ ∧ wr.cell? ⟨w.heap.size, 5, none⟩ = _ := ⟨hX.cell 2, hX.cell 3, hX.cell 4, hX.cell 5⟩
            by_cases hlt : k < ll.length
            · have hx := List.getElem?_eq_getElem hlt
              obtain ⟨a, rfl, h0, h1, _, hs⟩ := (lr.below LpAt.keeps hb) k _ hx
              generalize ll[k] = x at *
              have HS := hide (all_take_succ (lpB pl.length) ll k x hx)
              have HA := hide hall
              have HX := hide hx
              clear hall hx
              have hp : lpB pl.length x = decide (0 ≤ x.1 ∧ x.1 < pl.length ∧ x.2.L.length ≤ 8) := rfl
              obtain ⟨_, xn, xm⟩ := hs
              obtain ⟨p, ⟨xA, xc, xl⟩⟩ := x
              simp only [Sl.val] at *
              have kI : (k : Int) < (ll.length : Int) := by omega
              by_cases h1p : 0 ≤ p
              · have e1 : decide (p < 0) = false := by rw [decide_eq_false_iff_not]; omega
                by_cases h2p : p < pl.length
                · have e2 : decide ((pl.length : Int) ≤ p) = false := by rw [decide_eq_false_iff_not]; omega
                  by_cases h3p : xl.length ≤ 8
                  · have e3 : decide (8 < (xl.length : Int)) = false := by rw [decide_eq_false_iff_not]; omega
                    have HF := hide (show lpB pl.length (p, ⟨xA, xc, xl⟩) = true by rw [hp]; simp [h1p, h2p, h3p])
                    clear hp
                    go_wp2_with fail
                    go_quiet (fail)
                    go_wp2_with fail
                    go_roundw
                    case rel => exact ⟨k + 1, by omega, by go_num, by rw [HS.out, HA.out, HF.out]; rfl, below_drewN hb _, hX.drewN _⟩
                    case measure => simp [intOf]; omega
                  · have e3 : decide (8 < (xl.length : Int)) = true := by rw [decide_eq_true_eq]; omega
                    have HF := hide (show lpB pl.length (p, ⟨xA, xc, xl⟩) = false by rw [hp]; simp; omega)
                    clear hp
                    go_wp2_with fail
                    go_quiet (fail)
                    go_wp2_with fail
                    go_ret
                    exact ⟨ret_int (by rw [HE.out, HB.out, all_fail _ _ _ _ HX.out HF.out]; rfl), below_drewN hb _⟩
                · have e2 : decide ((pl.length : Int) ≤ p) = true := by rw [decide_eq_true_eq]; omega
                  have HF := hide (show lpB pl.length (p, ⟨xA, xc, xl⟩) = false by rw [hp]; simp; omega)
                  clear hp
                  go_wp2_with fail
                  go_quiet (fail)
                  go_wp2_with fail
                  go_ret
                  exact ⟨ret_int (by rw [HE.out, HB.out, all_fail _ _ _ _ HX.out HF.out]; rfl), below_drewN hb _⟩
              · have e1 : decide (p < 0) = true := by rw [decide_eq_true_eq]; omega
                have HF := hide (show lpB pl.length (p, ⟨xA, xc, xl⟩) = false by rw [hp]; simp; omega)
                clear hp
                go_wp2_with fail
                go_quiet (fail)
                go_wp2_with fail
                go_ret
                exact ⟨ret_int (by rw [HE.out, HB.out, all_fail _ _ _ _ HX.out HF.out]; rfl), below_drewN hb _⟩
            · obtain rfl : k = ll.length := by omega
              have hA := all_take_all _ _ hall
              have HB := hide (HB.out.trans (show (ll.all (lpB pl.length) && il.all (initB ll.length)) = il.all (initB ll.length) by rw [hA]; rfl))
              clear hA hall
              go_wp2_with fail
              have hb1 := hb
              have hX1 := hX
              clear hb hX c2 c3 c4 c5
              go_loopw [6] (fun i wr => RRel w #[.int .i64 seed, .float .f64 fin, .slice dA dl.length dc, .slice pA pl.length pc, .slice lA ll.length lc, .slice iA il.length ic] (initB ll.length) il i wr) (fun i _ => il.length - (intOf i).toNat)
              case atStart => exact ⟨0, Nat.zero_le _, rfl, by simp, hb1, hX1⟩
              case round =>
                clear hb1 hX1
                obtain ⟨k, hk, rfl, hall, hb, hX⟩ := hrel
                obtain ⟨c2, c3, c4, c5⟩ : wr.cell? ⟨w.heap.size, 2, none⟩ = _ ∧ wr.cell? ⟨w.heap.size, 3, none⟩ = _ ∧ wr.cell? ⟨w.heap.size, 4, none⟩ = _ ∧ wr.cell? ⟨w.heap.size, 5, none⟩ = _ := ⟨hX.cell 2, hX.cell 3, hX.cell 4, hX.cell 5⟩
                by_cases hlt : k < il.length
                · have hx := List.getElem?_eq_getElem hlt
                  obtain ⟨a, rfl, h0, h1, h2, _⟩ := (ir.below InitAt.keeps hb) k _ hx
                  generalize il[k] = x at *
                  have HS := hide (all_take_succ (initB ll.length) il k x hx)
                  have HA := hide hall
                  have HX := hide hx
                  clear hall hx
                  have hp : initB ll.length x = decide (¬ isNan x.1 ∧ 0 ≤ x.2.1 ∧ x.2.1 < ll.length) := rfl
                  obtain ⟨t, d, pay⟩ := x
                  simp only at *
                  have hX0 := hX.alloc (.cells #[.float .f64 t, .int .i64 d, .int .i64 pay] 43)
                  have hb0 := hb.alloc hb.size (.cells #[.float .f64 t, .int .i64 d, .int .i64 pay] 43)
                  have cc4 := hX0.cell 4
                  by_cases hn : isNan t
                  · have HF := hide (show initB ll.length (t, d, pay) = false by rw [hp]; simp [hn])
                    have ho := fo_nan t t (.inl hn)
                    have hne : ((none : Option Ordering) != some .eq) = true := rfl
                    clear hp hn
                    go_wp2_with fail
                    all_goals
                      go_ret
                      exact ⟨ret_int (by rw [HE.out, HB.out, all_fail _ _ _ _ HX.out HF.out]; rfl), hb0⟩
                  · have ho := fo_self t hn
                    by_cases hg : 0 ≤ d ∧ d < ll.length
                    · have HF := hide (show initB ll.length (t, d, pay) = true by rw [hp]; simp [hg, hn])
                      obtain ⟨g1, g2⟩ := hg
                      clear hp hn
                      go_wp2_with fail
                      go_roundw
                      case rel => exact ⟨k + 1, by omega, by go_num, by rw [HS.out, HA.out, HF.out]; rfl, hb0, hX0⟩
                      case measure => simp [intOf]; omega
                    · have HF := hide (show initB ll.length (t, d, pay) = false by rw [hp]; simp [hn]; omega)
                      clear hp hn
                      go_wp2_with fail
                      all_goals
                        go_ret
                        exact ⟨ret_int (by rw [HE.out, HB.out, all_fail _ _ _ _ HX.out HF.out]; rfl), hb0⟩
                · obtain rfl : k = il.length := by omega
                  have hA := all_take_all _ _ hall
                  have HB := hide (HB.out.trans hA)
                  clear hA hall
                  go_wp2_with fail
                  go_ret
                  exact ⟨ret_int (by rw [HE.out, HB.out]; rfl), hb⟩
end Go.Proofs.Ytegegljpmelomaa
