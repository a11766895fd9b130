/- Texts of this claim in one. No condition. -/
import Derived.Test.YtpfcmfannkbipaaJ12
import Derived.Test.YtpfcmfannkbipaaJ03
import Derived.Test.YtpfcmfannkbipaaJ11
import Derived.Test.YtpfcmfannkbipaaJ01
import Derived.Test.YtpfcmfannkbipaaJ06
section
set_option linter.unusedVariables false
set_option maxRecDepth 20000
namespace Go.Proofs.Ytpfcmfannkbipaa
open Go.RowKit Go.Deep

attribute [local go_sem] run_store_float
theorem chk_no {m : Mdl} (h : chkB m = false) : chkE m = 15 := by
  unfold chkE
  rw [h]
  rfl
theorem chkB_eq (m : Mdl) : chkB m = (countsB m && !decide (isNan m.fin) && m.dl.L.all posB && m.pl.L.all (fun p => progB p.L) && m.ll.L.all (lpB m.pl.L.length) && m.il.L.all (initB m.ll.L.length)) := rfl
def RRel {α : Type} (w : World) (M : Array Value) (f : α → Bool) (L : List α) (i : Value) (wr : World) : Prop :=
  ∃ k : Nat, k ≤ L.length ∧ i = .int .i64 k ∧ (L.take k).all f = true ∧ Below w.heap.size w wr ∧ Blk wr w.heap.size 58 M
set_option maxHeartbeats 800000 in
theorem rcheck_bad (m : Mdl) (w : World) (h : m.At w) (hbad : countsB m = false ∨ isNan m.fin) : Calls Try.prog 43 #[m.val] w fun e w' => e = .returned (.int .i64 (chkE m)) ∧ Below w.heap.size w w' := by
  have HE := hide (chk_no (show chkB m = false by
    rw [chkB_eq]
    rcases hbad with h | h
    · rw [h]; rfl
    · simp [h]))
  obtain ⟨seed, fin, ⟨dA, dc, dl⟩, ⟨pA, pc, pl⟩, ⟨lA, lc, ll⟩, ⟨iA, ic, il⟩⟩ := m
  obtain ⟨_, _, ⟨dr, d1, d2⟩, ⟨pr, p1, p2⟩, ⟨lr, l1, l2⟩, ⟨ir, i1, i2⟩⟩ := h
  simp only [Sl.val, Mdl.val, countsB, decide_eq_false_iff_not] at *
  have hd : dl.length ≤ 9223372036854775807 := by omega
  have hp : pl.length ≤ 9223372036854775807 := by omega
  have hl : ll.length ≤ 9223372036854775807 := by omega
  have hi : il.length ≤ 9223372036854775807 := by omega
  by_cases hn : isNan fin
  · have ho := fo_nan fin fin (.inl hn)
    have hne : ((none : Option Ordering) != some .eq) = true := rfl
    have HN := hide hn
    clear hbad hn dr pr lr ir d1 d2 p1 p2 l1 l2 i1 i2
    go_enter Try.func43, Try.ntmps43
    go_wp2
    all_goals
      go_ret
      exact ⟨ret_int HE.out.symm, (Below.refl _ _).alloc (Nat.le_refl _) _⟩
  · have ho := fo_self fin hn
    have hb : ¬ (1 ≤ ll.length ∧ ll.length ≤ 6 ∧ 1 ≤ pl.length ∧ pl.length ≤ 4 ∧ 1 ≤ dl.length ∧ dl.length ≤ 8 ∧ il.length ≤ 16) := hbad.resolve_right hn
    clear hbad hn dr pr lr ir d1 d2 p1 p2 l1 l2 i1 i2
    go_enter Try.func43, Try.ntmps43
    go_wp2
    all_goals
      go_ret
      exact ⟨ret_int HE.out.symm, (Below.refl _ _).alloc (Nat.le_refl _) _⟩
set_option maxHeartbeats 1600000 in
theorem rcheck_good (m : Mdl) (w : World) (h : m.At w) (hc : countsB m = true) (hn : ¬ isNan m.fin) : Calls Try.prog 43 #[m.val] w fun e w' => e = .returned (.int .i64 (chkE m)) ∧ Below w.heap.size w w' := by
  have HE := hide (show chkE m = if chkB m then 0 else 15 from rfl)
  have HB := hide (show chkB m = (m.dl.L.all posB && m.pl.L.all (fun p => progB p.L) && m.ll.L.all (lpB m.pl.L.length) && m.il.L.all (initB m.ll.L.length)) by rw [chkB_eq, hc]; simp [hn])
  generalize chkE m = E at *
  generalize chkB m = B at *
  obtain ⟨seed, fin, ⟨dA, dc, dl⟩, ⟨pA, pc, pl⟩, ⟨lA, lc, ll⟩, ⟨iA, ic, il⟩⟩ := m
  obtain ⟨_, _, ⟨dr, d1, d2⟩, ⟨pr, p1, p2⟩, ⟨lr, l1, l2⟩, ⟨ir, i1, i2⟩⟩ := h
  simp only [Sl.val, Mdl.val, countsB, decide_eq_true_eq] at *
  obtain ⟨q1, q2, q3, q4, q5, q6, q7⟩ := hc
  have ho := fo_self fin hn
  clear hn
  have z1 : decide ((ll.length : Int) < 1) = false := by rw [decide_eq_false_iff_not]; omega
  have z2 : decide (6 < (ll.length : Int)) = false := by rw [decide_eq_false_iff_not]; omega
  have z3 : decide ((pl.length : Int) < 1) = false := by rw [decide_eq_false_iff_not]; omega
  have z4 : decide (4 < (pl.length : Int)) = false := by rw [decide_eq_false_iff_not]; omega
  have z5 : decide ((dl.length : Int) < 1) = false := by rw [decide_eq_false_iff_not]; omega
  have z6 : decide (8 < (dl.length : Int)) = false := by rw [decide_eq_false_iff_not]; omega
  have z7 : decide (16 < (il.length : Int)) = false := by rw [decide_eq_false_iff_not]; omega
  go_enter Try.func43, Try.ntmps43
  go_wp2_with fail
  clear z1 z2 z3 z4 z5 z6 z7 ho
  have hb1 : Below w.heap.size w (w.alloc (.cells #[.int .i64 seed, .float .f64 fin, .slice dA dl.length dc, .slice pA pl.length pc, .slice lA ll.length lc, .slice iA il.length ic] 58)) := (Below.refl _ _).alloc (Nat.le_refl _) _
  have hX1 := Blk.new w 58 #[.int .i64 seed, .float .f64 fin, .slice dA dl.length dc, .slice pA pl.length pc, .slice lA ll.length lc, .slice iA il.length ic]
  go_loopw [3] (fun i wr => RRel w #[.int .i64 seed, .float .f64 fin, .slice dA dl.length dc, .slice pA pl.length pc, .slice lA ll.length lc, .slice iA il.length ic] posB dl i wr) (fun i _ => dl.length - (intOf i).toNat)
  case atStart => exact ⟨0, Nat.zero_le _, rfl, by simp, hb1, hX1⟩
  case round =>
    clear hb1 hX1
    obtain ⟨k, hk, rfl, hall, hb, hX⟩ := hrel
    obtain ⟨c2, c3, c4, c5⟩ : wr.cell? ⟨w.heap.size, 2, none⟩ = _ ∧ wr.cell? ⟨w.heap.size, 3, none⟩ = _ ∧ wr.cell? ⟨w.heap.size, 4, none⟩ = _ ∧ wr.cell? ⟨w.heap.size, 5, none⟩ = _ := ⟨hX.cell 2, hX.cell 3, hX.cell 4, hX.cell 5⟩
    by_cases hlt : k < dl.length
    · have hx := List.getElem?_eq_getElem hlt
      obtain ⟨a, rfl, h0, _⟩ := (dr.below FlAt.keeps hb) k _ hx
      rw [Nat.mul_one] at h0
      generalize dl[k] = x at *
      have HS := hide (all_take_succ posB dl k x hx)
      have HA := hide hall
      have HX := hide hx
      clear hall hx
      have hp : posB x = decide (¬ isNan x ∧ 0 < skey x) := rfl
      by_cases hn : isNan x
      · have HF := hide (show posB x = false by rw [hp]; simp [hn])
        have ho := fo_nan x 0 (.inl hn)
        clear hp hn
        go_wp2_with fail
        go_ret
        exact ⟨ret_int (by rw [HE.out, HB.out, all_fail _ _ _ _ HX.out HF.out]; rfl), hb⟩
      · have fw := fo_ways x 0 hn zero_num
        rw [skey_zero] at fw
        rcases fw with ⟨hs, ho⟩ | ⟨hs, ho⟩ | ⟨hs, ho⟩
        · have HF := hide (show posB x = false by rw [hp]; simp; omega)
          clear hp hn
          go_wp2_with fail
          go_ret
          exact ⟨ret_int (by rw [HE.out, HB.out, all_fail _ _ _ _ HX.out HF.out]; rfl), hb⟩
        · have HF := hide (show posB x = false by rw [hp]; simp; omega)
          clear hp hn
          go_wp2_with fail
          go_ret
          exact ⟨ret_int (by rw [HE.out, HB.out, all_fail _ _ _ _ HX.out HF.out]; rfl), hb⟩
        · have HF := hide (show posB x = true by rw [hp]; simp [hn]; omega)
          clear hp hn
          go_wp2_with fail
          go_roundw
          case rel => exact ⟨k + 1, by omega, by go_num, by rw [HS.out, HA.out, HF.out]; rfl, hb, hX⟩
          case measure => simp [intOf]; omega
    · obtain rfl : k = dl.length := by omega
      have hA := all_take_all _ _ hall
      have HB := hide (HB.out.trans (show (dl.all posB && pl.all (fun p => progB p.L) && ll.all (lpB pl.length) && il.all (initB ll.length)) = (pl.all (fun p => progB p.L) && ll.all (lpB pl.length) && il.all (initB ll.length)) by rw [hA]; rfl))
      clear hA hall
      go_wp2_with fail
      have hb1 := hb
      have hX1 := hX
      clear hb hX c2 c3 c4 c5
      go_loopw [4] (fun i wr => RRel w #[.int .i64 seed, .float .f64 fin, .slice dA dl.length dc, .slice pA pl.length pc, .slice lA ll.length lc, .slice iA il.length ic] (fun p => progB p.L) pl i wr) (fun i _ => pl.length - (intOf i).toNat)
      case atStart => exact ⟨0, Nat.zero_le _, rfl, by simp, hb1, hX1⟩
      case round =>
        clear hb1 hX1
        obtain ⟨k, hk, rfl, hall, hb, hX⟩ := hrel
        obtain ⟨c2, c3, c4, c5⟩ : wr.cell? ⟨w.heap.size, 2, none⟩ = _ ∧ wr.cell? ⟨w.heap.size, 3, none⟩ = _ ∧ wr.cell? ⟨w.heap.size, 4, none⟩ = _ ∧ wr.cell? ⟨w.heap.size, 5, none⟩ = _ := ⟨hX.cell 2, hX.cell 3, hX.cell 4, hX.cell 5⟩
        by_cases hlt : k < pl.length
        · have hx := List.getElem?_eq_getElem hlt
          obtain ⟨a, rfl, h0, hs⟩ := (pr.below (SlAt.keeps InsAt.keeps 4) hb) k _ hx
          rw [Nat.mul_one] at h0
          generalize pl[k] = x at *
          have HS := hide (all_take_succ (fun p => progB p.L) pl k x hx)
          have HA := hide hall
          have HX := hide hx
          clear hall hx
          have hpa := rprogram_any x wr hs
          clear hs
          generalize hq : progB x.L = q at *
          have HF : Hid ((fun p : Sl Ins4 => progB p.L) x = q) := hide hq
          clear hq
          obtain ⟨xA, xc, xl⟩ := x
          simp only [Sl.val] at h0 hpa
          cases q
          · go_wp2_with fail
            refine hpa.mono ?_
            clear hpa
            rintro e w2 ⟨rfl, hb2⟩
            have hb3 := below_after hb hb2
            go_wp2_with fail
            go_ret
            exact ⟨ret_int (by rw [HE.out, HB.out, all_fail (fun p : Sl Ins4 => progB p.L) _ _ _ HX.out HF.out]; rfl), hb3⟩
          · go_wp2_with fail
            refine hpa.mono ?_
            clear hpa
            rintro e w2 ⟨rfl, hb2⟩
            have hX2 := hX.below hb2 hX.lt
            have hb3 := below_after hb hb2
            go_wp2_with fail
            go_roundw
            case rel => exact ⟨k + 1, by omega, by go_num, by rw [HS.out, HA.out]; rfl, hb3, hX2⟩
            case measure => simp [intOf]; omega
        · obtain rfl : k = pl.length := by omega
          have hA := all_take_all _ _ hall
          have HB := hide (HB.out.trans (show (pl.all (fun p => progB p.L) && ll.all (lpB pl.length) && il.all (initB ll.length)) = (ll.all (lpB pl.length) && il.all (initB ll.length)) by rw [hA]; rfl))
          clear hA hall
          go_wp2_with fail
          have hb1 := hb
          have hX1 := hX
          clear hb hX c2 c3 c4 c5
          go_loopw [5] (fun i wr => RRel w #[.int .i64 seed, .float .f64 fin, .slice dA dl.length dc, .slice pA pl.length pc, .slice lA ll.length lc, .slice iA il.length ic] (lpB pl.length) ll i wr) (fun i _ => ll.length - (intOf i).toNat)
          case atStart => exact ⟨0, Nat.zero_le _, rfl, by simp, hb1, hX1⟩
          case round =>
            clear hb1 hX1
            obtain ⟨k, hk, rfl, hall, hb, hX⟩ := hrel
            obtain ⟨c2, c3, c4, c5⟩ : wr.cell? ⟨w.heap.size, 2, none⟩ = _ ∧ wr.cell? ⟨w.heap.size, 3, none⟩ = _ ∧ wr.cell? ⟨w.heap.size, 4, none⟩ = _ ∧ wr.cell? ⟨w.heap.size, 5, none⟩ = _ := ⟨hX.cell 2, hX.cell 3, hX.cell 4, hX.cell 5⟩
            by_cases hlt : k < ll.length
            · have hx := List.getElem?_eq_getElem hlt
              obtain ⟨a, rfl, h0, h1, _, hs⟩ := (lr.below LpAt.keeps hb) k _ hx
              generalize ll[k] = x at *
              have HS := hide (all_take_succ (lpB pl.length) ll k x hx)
              have HA := hide hall
              have HX := hide hx
              clear hall hx
              have hp : lpB pl.length x = decide (0 ≤ x.1 ∧ x.1 < pl.length ∧ x.2.L.length ≤ 8) := rfl
              obtain ⟨_, xn, xm⟩ := hs
              obtain ⟨p, ⟨xA, xc, xl⟩⟩ := x
              simp only [Sl.val] at *
              have kI : (k : Int) < (ll.length : Int) := by omega
              by_cases h1p : 0 ≤ p
              · have e1 : decide (p < 0) = false := by rw [decide_eq_false_iff_not]; omega
                by_cases h2p : p < pl.length
                · have e2 : decide ((pl.length : Int) ≤ p) = false := by rw [decide_eq_false_iff_not]; omega
                  by_cases h3p : xl.length ≤ 8
                  · have e3 : decide (8 < (xl.length : Int)) = false := by rw [decide_eq_false_iff_not]; omega
                    have HF := hide (show lpB pl.length (p, ⟨xA, xc, xl⟩) = true by rw [hp]; simp [h1p, h2p, h3p])
                    clear hp
                    go_wp2_with fail
                    go_quiet (fail)
                    go_wp2_with fail
                    go_roundw
                    case rel => exact ⟨k + 1, by omega, by go_num, by rw [HS.out, HA.out, HF.out]; rfl, below_drewN hb _, hX.drewN _⟩
                    case measure => simp [intOf]; omega
                  · have e3 : decide (8 < (xl.length : Int)) = true := by rw [decide_eq_true_eq]; omega
                    have HF := hide (show lpB pl.length (p, ⟨xA, xc, xl⟩) = false by rw [hp]; simp; omega)
                    clear hp
                    go_wp2_with fail
                    go_quiet (fail)
                    go_wp2_with fail
                    go_ret
                    exact ⟨ret_int (by rw [HE.out, HB.out, all_fail _ _ _ _ HX.out HF.out]; rfl), below_drewN hb _⟩
                · have e2 : decide ((pl.length : Int) ≤ p) = true := by rw [decide_eq_true_eq]; omega
                  have HF := hide (show lpB pl.length (p, ⟨xA, xc, xl⟩) = false by rw [hp]; simp; omega)
                  clear hp
                  go_wp2_with fail
                  go_quiet (fail)
                  go_wp2_with fail
                  go_ret
                  exact ⟨ret_int (by rw [HE.out, HB.out, all_fail _ _ _ _ HX.out HF.out]; rfl), below_drewN hb _⟩
              · have e1 : decide (p < 0) = true := by rw [decide_eq_true_eq]; omega
                have HF := hide (show lpB pl.length (p, ⟨xA, xc, xl⟩) = false by rw [hp]; simp; omega)
                clear hp
                go_wp2_with fail
                go_quiet (fail)
                go_wp2_with fail
                go_ret
                exact ⟨ret_int (by rw [HE.out, HB.out, all_fail _ _ _ _ HX.out HF.out]; rfl), below_drewN hb _⟩
            · obtain rfl : k = ll.length := by omega
              have hA := all_take_all _ _ hall
              have HB := hide (HB.out.trans (show (ll.all (lpB pl.length) && il.all (initB ll.length)) = il.all (initB ll.length) by rw [hA]; rfl))
              clear hA hall
              go_wp2_with fail
              have hb1 := hb
              have hX1 := hX
              clear hb hX c2 c3 c4 c5
              go_loopw [6] (fun i wr => RRel w #[.int .i64 seed, .float .f64 fin, .slice dA dl.length dc, .slice pA pl.length pc, .slice lA ll.length lc, .slice iA il.length ic] (initB ll.length) il i wr) (fun i _ => il.length - (intOf i).toNat)
              case atStart => exact ⟨0, Nat.zero_le _, rfl, by simp, hb1, hX1⟩
              case round =>
                clear hb1 hX1
                obtain ⟨k, hk, rfl, hall, hb, hX⟩ := hrel
                obtain ⟨c2, c3, c4, c5⟩ : wr.cell? ⟨w.heap.size, 2, none⟩ = _ ∧ wr.cell? ⟨w.heap.size, 3, none⟩ = _ ∧ wr.cell? ⟨w.heap.size, 4, none⟩ = _ ∧ wr.cell? ⟨w.heap.size, 5, none⟩ = _ := ⟨hX.cell 2, hX.cell 3, hX.cell 4, hX.cell 5⟩
                by_cases hlt : k < il.length
                · have hx := List.getElem?_eq_getElem hlt
                  obtain ⟨a, rfl, h0, h1, h2, _⟩ := (ir.below InitAt.keeps hb) k _ hx
                  generalize il[k] = x at *
                  have HS := hide (all_take_succ (initB ll.length) il k x hx)
                  have HA := hide hall
                  have HX := hide hx
                  clear hall hx
                  have hp : initB ll.length x = decide (¬ isNan x.1 ∧ 0 ≤ x.2.1 ∧ x.2.1 < ll.length) := rfl
                  obtain ⟨t, d, pay⟩ := x
                  simp only at *
                  have hX0 := hX.alloc (.cells #[.float .f64 t, .int .i64 d, .int .i64 pay] 125)
                  have hb0 := hb.alloc hb.size (.cells #[.float .f64 t, .int .i64 d, .int .i64 pay] 125)
                  have cc4 := hX0.cell 4
                  by_cases hn : isNan t
                  · have HF := hide (show initB ll.length (t, d, pay) = false by rw [hp]; simp [hn])
                    have ho := fo_nan t t (.inl hn)
                    have hne : ((none : Option Ordering) != some .eq) = true := rfl
                    clear hp hn
                    go_wp2_with fail
                    all_goals
                      go_ret
                      exact ⟨ret_int (by rw [HE.out, HB.out, all_fail _ _ _ _ HX.out HF.out]; rfl), hb0⟩
                  · have ho := fo_self t hn
                    by_cases hg : 0 ≤ d ∧ d < ll.length
                    · have HF := hide (show initB ll.length (t, d, pay) = true by rw [hp]; simp [hg, hn])
                      obtain ⟨g1, g2⟩ := hg
                      clear hp hn
                      go_wp2_with fail
                      go_roundw
                      case rel => exact ⟨k + 1, by omega, by go_num, by rw [HS.out, HA.out, HF.out]; rfl, hb0, hX0⟩
                      case measure => simp [intOf]; omega
                    · have HF := hide (show initB ll.length (t, d, pay) = false by rw [hp]; simp [hn]; omega)
                      clear hp hn
                      go_wp2_with fail
                      all_goals
                        go_ret
                        exact ⟨ret_int (by rw [HE.out, HB.out, all_fail _ _ _ _ HX.out HF.out]; rfl), hb0⟩
                · obtain rfl : k = il.length := by omega
                  have hA := all_take_all _ _ hall
                  have HB := hide (HB.out.trans hA)
                  clear hA hall
                  go_wp2_with fail
                  go_ret
                  exact ⟨ret_int (by rw [HE.out, HB.out]; rfl), hb⟩
end Go.Proofs.Ytpfcmfannkbipaa
end

section
set_option linter.unusedVariables false
set_option maxRecDepth 20000
namespace Go.Proofs.Ytpfcmfannkbipaa
open Go.RowKit Go.Deep

/-- An event: time, source, number, to whom, saying what. -/
abbrev Ev := Nat × Int × Int × Int × Int
def encEv (e : Ev) : List Value := [.float .f64 e.1, .int .i64 e.2.1, .int .i64 e.2.2.1, .int .i64 e.2.2.2.1, .int .i64 e.2.2.2.2]
def evA (e : Ev) : Array Value := #[.float .f64 e.1, .int .i64 e.2.1, .int .i64 e.2.2.1, .int .i64 e.2.2.2.1, .int .i64 e.2.2.2.2]
def EvOk (x : Ev) : Prop := x.1 < 18446744073709551616 ∧ I64 x.2.1 ∧ I64 x.2.2.1 ∧ I64 x.2.2.2.1 ∧ I64 x.2.2.2.2
def EvAt : Dec Ev := fun w p x => w.cell? p = some (.float .f64 x.1) ∧ w.cell? ⟨p.block, p.off + 1, none⟩ = some (.int .i64 x.2.1) ∧ w.cell? ⟨p.block, p.off + 2, none⟩ = some (.int .i64 x.2.2.1) ∧ w.cell? ⟨p.block, p.off + 3, none⟩ = some (.int .i64 x.2.2.2.1) ∧ w.cell? ⟨p.block, p.off + 4, none⟩ = some (.int .i64 x.2.2.2.2) ∧ EvOk x
theorem EvAt.keeps : EvAt.keeps := fun _ _ _ _ hb h => ⟨keepc hb h.1, keepc hb h.2.1, keepc hb h.2.2.1, keepc hb h.2.2.2.1, keepc hb h.2.2.2.2.1, h.2.2.2.2.2⟩
theorem one_ev (x : Ev) : ∀ u ∈ encEv x, u.oneCell' = true := by intro u hu; simp [encEv] at hu; rcases hu with rfl | rfl | rfl | rfl | rfl <;> rfl
theorem makes_ev : Makes EvAt encEv (fun _ x => EvOk x) := fun w g o x hok h => ⟨h 0 _ rfl, h 1 _ rfl, h 2 _ rfl, h 3 _ rfl, h 4 _ rfl, hok⟩
theorem inf_ev : (Try.prog.info? 37).map (fun i => (i.zero, i.size, i.bytes)) = some (some (.agg #[.float .f64 0, .int .i64 0, .int .i64 0, .int .i64 0, .int .i64 0]), 5, 40) := by kernel_rfl
/-- How two events stand. -/
def cmpE (a b : Ev) : Int := firstNz (evL a.1 a.2.1 a.2.2.1 a.2.2.2.1 a.2.2.2.2 b.1 b.2.1 b.2.2.1 b.2.2.2.1 b.2.2.2.2)

/-! The events at first. -/
def begF (fin : Nat) (i : Nat) (x : Init3) : List Ev := if timesI (normF x.1) fin ≤ 0 then [(normF x.1, -1, (i : Int), x.2.1, x.2.2)] else []
def begV (fin : Nat) : Nat → List Init3 → List Ev
  | _, [] => []
  | i, x :: r => begF fin i x ++ begV fin (i + 1) r
theorem begV_snoc (fin : Nat) (L : List Init3) (x : Init3) : ∀ i, begV fin i (L ++ [x]) = begV fin i L ++ begF fin (i + L.length) x := by
  induction L with
  | nil => intro i; simp [begV]
  | cons y r ih =>
    intro i
    simp only [List.cons_append, begV, List.length_cons]
    rw [ih (i + 1), List.append_assoc, show i + 1 + r.length = i + (r.length + 1) by omega]
theorem begV_take {fin : Nat} {L : List Init3} {k : Nat} {x : Init3} (h : L[k]? = some x) : begV fin 0 (L.take (k + 1)) = begV fin 0 (L.take k) ++ begF fin k x := by
  obtain ⟨hk, rfl⟩ := List.getElem?_eq_some_iff.1 h
  rw [List.take_succ_eq_append_getElem hk, begV_snoc]
  congr 2
  rw [List.length_take]
  omega
theorem begV_len (fin : Nat) : ∀ (L : List Init3) (i : Nat), (begV fin i L).length ≤ L.length := by
  intro L
  induction L with
  | nil => intro i; exact Nat.le_refl _
  | cons x r ih =>
    intro i
    have := ih (i + 1)
    have h1 : (begF fin i x).length ≤ 1 := by unfold begF; split <;> simp
    simp only [begV, List.length_append, List.length_cons]
    omega

/-! What a handler sends. -/
def dly (dl : List Nat) (n : Int) : Nat := dl.getD (n % (dl.length : Int)).toNat 0
def sndOk (dl : List Nat) (t : Nat) (x : Snt) : Bool := decide (laterE t (dly dl x.2.1) = 0)
def sndF (dl : List Nat) (t fin : Nat) (lp sent : Int) (k : Nat) (x : Snt) : List Ev :=
  if timesI (laterF t (dly dl x.2.1)) fin ≤ 0 then [(laterF t (dly dl x.2.1), lp, sent + (k : Int), x.1, x.2.2)] else []
def sndV (dl : List Nat) (t fin : Nat) (lp sent : Int) : Nat → List Snt → List Ev
  | _, [] => []
  | k, x :: r => sndF dl t fin lp sent k x ++ sndV dl t fin lp sent (k + 1) r
theorem sndV_snoc (dl : List Nat) (t fin : Nat) (lp sent : Int) (L : List Snt) (x : Snt) : ∀ k, sndV dl t fin lp sent k (L ++ [x]) = sndV dl t fin lp sent k L ++ sndF dl t fin lp sent (k + L.length) x := by
  induction L with
  | nil => intro i; simp [sndV]
  | cons y r ih =>
    intro i
    simp only [List.cons_append, sndV, List.length_cons]
    rw [ih (i + 1), List.append_assoc, show i + 1 + r.length = i + (r.length + 1) by omega]
theorem sndV_take {dl : List Nat} {t fin : Nat} {lp sent : Int} {L : List Snt} {k : Nat} {x : Snt} (h : L[k]? = some x) : sndV dl t fin lp sent 0 (L.take (k + 1)) = sndV dl t fin lp sent 0 (L.take k) ++ sndF dl t fin lp sent k x := by
  obtain ⟨hk, rfl⟩ := List.getElem?_eq_some_iff.1 h
  rw [List.take_succ_eq_append_getElem hk, sndV_snoc]
  congr 2
  rw [List.length_take]
  omega
theorem sndV_len (dl : List Nat) (t fin : Nat) (lp sent : Int) : ∀ (L : List Snt) (i : Nat), (sndV dl t fin lp sent i L).length ≤ L.length := by
  intro L
  induction L with
  | nil => intro i; exact Nat.le_refl _
  | cons x r ih =>
    intro i
    have := ih (i + 1)
    have h1 : (sndF dl t fin lp sent i x).length ≤ 1 := by unfold sndF; split <;> simp
    simp only [sndV, List.length_append, List.length_cons]
    omega

/-! What a handler does. -/
/-- A state, plainly: words, how many were sent, how often it rolled. -/
abbrev StP := List Int × Int × Int
def mpl (m : Mdl) (lp : Int) : List Ins4 := match m.ll.L[lp.toNat]? with
  | some x => (match m.pl.L[x.1.toNat]? with | some s => s.L | none => [])
  | none => []
def hO (m : Mdl) (lp : Int) (s : StP) (e : Ev) : OutV := outV (mpl m lp) s.1 e.2.2.2.2 lp m.ll.L.length m.seed s.2.2
/-- An event handled: the state, what is sent, how it went wrong. -/
def hV (m : Mdl) (lp : Int) (s : StP) (e : Ev) : StP × List Ev × Int :=
  if (hO m lp s e).2.2.2 ≠ 0 then (s, [], (hO m lp s e).2.2.2)
  else if (hO m lp s e).2.1.all (sndOk m.dl.L e.1) = true then
    (((hO m lp s e).1, s.2.1 + ((hO m lp s e).2.1.length : Int), (hO m lp s e).2.2.1), sndV m.dl.L e.1 m.fin lp s.2.1 0 (hO m lp s e).2.1, 0)
  else (s, [], 7)
def mayB (m : Mdl) (lp : Int) (s : StP) (e : Ev) : Bool := decide (0 ≤ lp ∧ lp < m.ll.L.length ∧ ¬ isNan e.1 ∧ s.1.length ≤ 8) && (cntB s.2.1 && cntB s.2.2)
def hE (m : Mdl) (lp : Int) (s : StP) (e : Ev) : Int := if chkB m = true then (if mayB m lp s e = true then 0 else 2) else 15
def hR (m : Mdl) (lp : Int) (s : StP) (e : Ev) : StP × List Ev × Int := if hE m lp s e = 0 then hV m lp s e else (([], 0, 0), [], 0)
/-- States. -/
structure St where
  wd : Sl Int
  sent : Int
  dice : Int
def St.val (s : St) : Value := .agg #[s.wd.val, .int .i64 s.sent, .int .i64 s.dice]
def St.At (w : World) (s : St) : Prop := s.wd.At IntAt 1 w ∧ I64 s.sent ∧ I64 s.dice
def St.pl (s : St) : StP := (s.wd.L, s.sent, s.dice)
theorem St.At.below {w w' : World} {s : St} (h : s.At w) (hb : Below w.heap.size w w') : s.At w' := ⟨h.1.below IntAt.keeps hb, h.2⟩
end Go.Proofs.Ytpfcmfannkbipaa
end

section
set_option linter.unusedVariables false
namespace Go.Proofs.Ytpfcmfannkbipaa
open Go.RowKit Go.Deep

def allocs (w : World) : List (Array Value × TypeId) → World
  | [] => w
  | x :: l => allocs (w.alloc (.cells x.1 x.2)) l
theorem allocs_size (l : List (Array Value × TypeId)) : ∀ w : World, (allocs w l).heap.size = w.heap.size + l.length := by
  induction l with
  | nil => intro w; rfl
  | cons x l ih =>
    intro w
    show (allocs (w.alloc (.cells x.1 x.2)) l).heap.size = _
    rw [ih]
    simp
    omega
theorem allocs_below (l : List (Array Value × TypeId)) : ∀ w : World, Below w.heap.size w (allocs w l) := by
  induction l with
  | nil => intro w; exact Below.refl _ _
  | cons x l ih =>
    intro w
    exact below_after ((Below.refl _ _).alloc (Nat.le_refl _) (.cells x.1 x.2)) (ih _)
theorem allocs_blk (l : List (Array Value × TypeId)) : ∀ (w : World) (i : Nat) (x : Array Value × TypeId), l[i]? = some x → Blk (allocs w l) (w.heap.size + i) x.2 x.1 := by
  induction l with
  | nil => intro w i x h; simp at h
  | cons y l ih =>
    intro w i x h
    rcases i with _ | i
    · have e : y = x := by simpa using h
      subst e
      exact (Blk.new w y.2 y.1).below (allocs_below l (w.alloc (.cells y.1 y.2))) (by simp)
    · have := ih (w.alloc (.cells y.1 y.2)) i x (by simpa using h)
      have e : (w.alloc (.cells y.1 y.2)).heap.size + i = w.heap.size + (i + 1) := by simp; omega
      rw [e] at this
      exact this
end Go.Proofs.Ytpfcmfannkbipaa
end

section
set_option linter.unusedVariables false
set_option maxRecDepth 20000
namespace Go.Proofs.Ytpfcmfannkbipaa
open Go.RowKit Go.Deep

attribute [local go_sem] run_store_float
/-- What a call is handed lies in boxes of its own. -/
theorem box3 (w : World) (a b c : Array Value) (ta tb tc : TypeId) : Below w.heap.size w (((w.alloc (.cells a ta)).alloc (.cells b tb)).alloc (.cells c tc)) ∧
    Blk (((w.alloc (.cells a ta)).alloc (.cells b tb)).alloc (.cells c tc)) w.heap.size ta a ∧ Blk (((w.alloc (.cells a ta)).alloc (.cells b tb)).alloc (.cells c tc)) (w.heap.size + 1) tb b ∧
    Blk (((w.alloc (.cells a ta)).alloc (.cells b tb)).alloc (.cells c tc)) (w.heap.size + 1 + 1) tc c :=
  ⟨allocs_below [(a, ta), (b, tb), (c, tc)] w, allocs_blk [(a, ta), (b, tb), (c, tc)] w 0 _ rfl, allocs_blk [(a, ta), (b, tb), (c, tc)] w 1 _ rfl, allocs_blk [(a, ta), (b, tb), (c, tc)] w 2 _ rfl⟩
theorem box2 (w : World) (a b : Array Value) (ta tb : TypeId) : Below w.heap.size w ((w.alloc (.cells a ta)).alloc (.cells b tb)) ∧
    Blk ((w.alloc (.cells a ta)).alloc (.cells b tb)) w.heap.size ta a ∧ Blk ((w.alloc (.cells a ta)).alloc (.cells b tb)) (w.heap.size + 1) tb b :=
  ⟨allocs_below [(a, ta), (b, tb)] w, allocs_blk [(a, ta), (b, tb)] w 0 _ rfl, allocs_blk [(a, ta), (b, tb)] w 1 _ rfl⟩
theorem mayB_ways (m : Mdl) (lp : Int) (s : StP) (e : Ev) :
    (lp < 0 ∧ mayB m lp s e = false) ∨ (0 ≤ lp ∧ (m.ll.L.length : Int) ≤ lp ∧ mayB m lp s e = false) ∨
    (0 ≤ lp ∧ lp < (m.ll.L.length : Int) ∧ isNan e.1 ∧ mayB m lp s e = false) ∨
    (0 ≤ lp ∧ lp < (m.ll.L.length : Int) ∧ ¬ isNan e.1 ∧ 8 < s.1.length ∧ mayB m lp s e = false) ∨
    (0 ≤ lp ∧ lp < (m.ll.L.length : Int) ∧ ¬ isNan e.1 ∧ s.1.length ≤ 8 ∧ cntB s.2.1 = false ∧ mayB m lp s e = false) ∨
    (0 ≤ lp ∧ lp < (m.ll.L.length : Int) ∧ ¬ isNan e.1 ∧ s.1.length ≤ 8 ∧ cntB s.2.1 = true ∧ mayB m lp s e = cntB s.2.2) := by
  unfold mayB
  by_cases h1 : lp < 0
  · exact .inl ⟨h1, by rw [decide_eq_false (by omega)]; rfl⟩
  by_cases h2 : (m.ll.L.length : Int) ≤ lp
  · exact .inr (.inl ⟨by omega, h2, by rw [decide_eq_false (by omega)]; rfl⟩)
  by_cases h3 : isNan e.1
  · exact .inr (.inr (.inl ⟨by omega, by omega, h3, by rw [decide_eq_false (fun h => h.2.2.1 h3)]; rfl⟩))
  by_cases h4 : 8 < s.1.length
  · exact .inr (.inr (.inr (.inl ⟨by omega, by omega, h3, h4, by rw [decide_eq_false (by omega)]; rfl⟩)))
  have h0 : decide (0 ≤ lp ∧ lp < (m.ll.L.length : Int) ∧ ¬ isNan e.1 ∧ s.1.length ≤ 8) = true := decide_eq_true ⟨by omega, by omega, h3, by omega⟩
  rw [h0]
  cases h5 : cntB s.2.1
  · exact .inr (.inr (.inr (.inr (.inl ⟨by omega, by omega, h3, by omega, rfl, rfl⟩))))
  · exact .inr (.inr (.inr (.inr (.inr ⟨by omega, by omega, h3, by omega, rfl, by simp⟩))))
set_option maxHeartbeats 2000000 in
theorem may8_any (m : Mdl) (lp : Int) (s : St) (e : Ev) (w : World) (hm : m.At w) (hs : s.At w) :
    Calls Try.prog 76 #[m.val, .int .i64 lp, s.val, .agg #[.float .f64 e.1, .int .i64 e.2.1, .int .i64 e.2.2.1, .int .i64 e.2.2.2.1, .int .i64 e.2.2.2.2]] w fun x w' => x = .returned (.int .i64 (hE m lp s.pl e)) ∧ Below w.heap.size w w' := by
  have hR := hide (show hE m lp s.pl e = if chkB m = true then (if mayB m lp s.pl e = true then 0 else 2) else 15 from rfl)
  have hC := hide (show chkE m = if chkB m = true then 0 else 15 from rfl)
  have hW := mayB_ways m lp s.pl e
  have hck := fun W (h : m.At W) => check_any m W h
  have hck0 := hck
  clear hck
  generalize hE m lp s.pl e = E at *
  generalize chkE m = C at *
  generalize chkB m = B at *
  generalize mayB m lp s.pl e = MB at *
  have hck := hck0
  clear hck0
  have hN := fun W => isnan_any e.1 W
  have hc1 := fun W => count_any s.sent W
  have hc2 := fun W => count_any s.dice W
  obtain ⟨hb0, hX, hS, hV⟩ := box3 w #[.int .i64 m.seed, .float .f64 m.fin, m.dl.val, m.pl.val, m.ll.val, m.il.val] #[s.wd.val, .int .i64 s.sent, .int .i64 s.dice] #[.float .f64 e.1, .int .i64 e.2.1, .int .i64 e.2.2.1, .int .i64 e.2.2.2.1, .int .i64 e.2.2.2.2] 58 61 37
  have hm0 := hm.below hb0
  have l1 : m.ll.L.length ≤ m.ll.c ∧ m.ll.c ≤ 9223372036854775807 := hm.2.2.2.2.1.2
  have l2 : s.wd.L.length ≤ s.wd.c ∧ s.wd.c ≤ 9223372036854775807 := hs.1.2
  obtain ⟨t, src, n, dst, pay⟩ := e
  obtain ⟨seed, fin, ⟨dA, dc, dl⟩, ⟨pA, pc, pl⟩, ⟨lA, lc, ll⟩, ⟨iA, ic, il⟩⟩ := m
  obtain ⟨⟨sA, sc, sl⟩, sent, dice⟩ := s
  simp only [Sl.val, Mdl.val, St.val, St.pl] at *
  have q1 : ll.length ≤ 9223372036854775807 := by omega
  have q2 : sl.length ≤ 9223372036854775807 := by omega
  clear l1 l2 hm hs
  have hck0 := hck _ hm0
  clear hck hm0
  cases B
  · obtain rfl : C = 15 := hC.out
    obtain rfl : E = 15 := hR.out
    clear hW hN hc1 hc2 hR hC
    go_enter Try.func76, Try.ntmps76
    go_upto_region 1 with fail
    generalize (World.alloc (World.alloc (World.alloc w _) _) _) = w0 at *
    have x0 := hX.cell 0
    have x1 := hX.cell 1
    have x2 := hX.cell 2
    have x3 := hX.cell 3
    have x4 := hX.cell 4
    have x5 := hX.cell 5
    simp only [List.getElem?_toArray, List.getElem?_cons_zero, List.getElem?_cons_succ] at x0 x1 x2 x3 x4 x5
    go_wp2_with fail
    refine hck0.mono ?_
    rintro e w1 ⟨rfl, hb1⟩
    clear hck0
    go_wp2
    go_ret
    exact ⟨rfl, below_after hb0 hb1⟩
  · obtain rfl : C = 0 := hC.out
    have hE2 := hide (hR.out.trans (if_pos rfl))
    clear hR hC
    have hE0 : ∀ b, MB = b → E = if b = true then 0 else 2 := fun b h => by rw [← h]; exact hE2.out
    have HE := hide hE0
    clear hE0 hE2
    go_enter Try.func76, Try.ntmps76
    go_upto_region 1 with fail
    generalize (World.alloc (World.alloc (World.alloc w _) _) _) = w0 at *
    have x0 := hX.cell 0
    have x1 := hX.cell 1
    have x2 := hX.cell 2
    have x3 := hX.cell 3
    have x4 := hX.cell 4
    have x5 := hX.cell 5
    simp only [List.getElem?_toArray, List.getElem?_cons_zero, List.getElem?_cons_succ] at x0 x1 x2 x3 x4 x5
    go_wp2_with fail
    refine hck0.mono ?_
    rintro e w1 ⟨rfl, hb1⟩
    clear hck0
    clear x0 x1 x2 x3 x4 x5
    replace hX := hX.below hb1 hX.lt
    replace hS := hS.below hb1 hS.lt
    replace hV := hV.below hb1 hV.lt
    replace hb0 := below_after hb0 hb1
    clear hb1
    generalize w0.heap.size = z0 at *
    have x0 := hX.cell 0
    have x1 := hX.cell 1
    have x2 := hX.cell 2
    have x3 := hX.cell 3
    have x4 := hX.cell 4
    have x5 := hX.cell 5
    simp only [List.getElem?_toArray, List.getElem?_cons_zero, List.getElem?_cons_succ] at x0 x1 x2 x3 x4 x5
    have s0 := hS.cell 0
    have s1 := hS.cell 1
    have s2 := hS.cell 2
    simp only [List.getElem?_toArray, List.getElem?_cons_zero, List.getElem?_cons_succ] at s0 s1 s2
    have v0 := hV.cell 0
    have v1 := hV.cell 1
    have v2 := hV.cell 2
    have v3 := hV.cell 3
    have v4 := hV.cell 4
    simp only [List.getElem?_toArray, List.getElem?_cons_zero, List.getElem?_cons_succ] at v0 v1 v2 v3 v4
    clear hX hS hV
    rcases hW with ⟨k1, k9⟩ | ⟨k1, k2, k9⟩ | ⟨k1, k2, k3, k9⟩ | ⟨k1, k2, k3, k4, k9⟩ | ⟨k1, k2, k3, k4, k5, k9⟩ | ⟨k1, k2, k3, k4, k5, k9⟩
    · obtain rfl : E = 2 := HE.out _ k9
      have d1 : decide (lp < 0) = true := decide_eq_true k1
      clear HE k9 hN hc1 hc2 k1
      go_wp2_with fail
      go_ret
      exact ⟨rfl, hb0⟩
    · obtain rfl : E = 2 := HE.out _ k9
      have d1 : decide (lp < 0) = false := decide_eq_false (by omega)
      have d2 : decide ((ll.length : Int) ≤ lp) = true := decide_eq_true k2
      clear HE k9 hN hc1 hc2 k1 k2
      go_wp2_with fail
      go_ret
      exact ⟨rfl, hb0⟩
    · obtain rfl : E = 2 := HE.out _ k9
      have d1 : decide (lp < 0) = false := decide_eq_false (by omega)
      have d2 : decide ((ll.length : Int) ≤ lp) = false := decide_eq_false (by omega)
      rw [decide_eq_true k3] at hN
      clear HE k9 hc1 hc2 k1 k2 k3
      go_wp2_with fail
      refine (hN _).mono ?_
      rintro e w2 ⟨rfl, rfl⟩
      go_wp2_with fail
      go_ret
      exact ⟨rfl, hb0⟩
    · obtain rfl : E = 2 := HE.out _ k9
      have d1 : decide (lp < 0) = false := decide_eq_false (by omega)
      have d2 : decide ((ll.length : Int) ≤ lp) = false := decide_eq_false (by omega)
      have d3 : decide (8 < (sl.length : Int)) = true := decide_eq_true (by omega)
      rw [decide_eq_false k3] at hN
      clear HE k9 hc1 hc2 k1 k2 k3 k4
      go_wp2_with fail
      refine (hN _).mono ?_
      rintro e w2 ⟨rfl, rfl⟩
      go_wp2_with fail
      go_ret
      exact ⟨rfl, hb0⟩
    · obtain rfl : E = 2 := HE.out _ k9
      have d1 : decide (lp < 0) = false := decide_eq_false (by omega)
      have d2 : decide ((ll.length : Int) ≤ lp) = false := decide_eq_false (by omega)
      have d3 : decide (8 < (sl.length : Int)) = false := decide_eq_false (by omega)
      rw [decide_eq_false k3] at hN
      rw [k5] at hc1
      clear HE k9 hc2 k1 k2 k3 k4 k5
      go_wp2_with fail
      refine (hN _).mono ?_
      rintro e w2 ⟨rfl, rfl⟩
      go_wp2_with fail
      refine (hc1 _).mono ?_
      rintro e w2 ⟨rfl, rfl⟩
      go_wp2_with fail
      go_ret
      exact ⟨rfl, hb0⟩
    · have hEE := HE.out _ k9
      have d1 : decide (lp < 0) = false := decide_eq_false (by omega)
      have d2 : decide ((ll.length : Int) ≤ lp) = false := decide_eq_false (by omega)
      have d3 : decide (8 < (sl.length : Int)) = false := decide_eq_false (by omega)
      rw [decide_eq_false k3] at hN
      rw [k5] at hc1
      clear HE k9 k1 k2 k3 k4 k5
      generalize cntB dice = bd at *
      cases bd
      · obtain rfl : E = 2 := hEE
        go_wp2_with fail
        refine (hN _).mono ?_
        rintro e w2 ⟨rfl, rfl⟩
        go_wp2_with fail
        refine (hc1 _).mono ?_
        rintro e w2 ⟨rfl, rfl⟩
        go_wp2_with fail
        refine (hc2 _).mono ?_
        rintro e w2 ⟨rfl, rfl⟩
        go_wp2_with fail
        go_ret
        exact ⟨rfl, hb0⟩
      · obtain rfl : E = 0 := hEE
        go_wp2_with fail
        refine (hN _).mono ?_
        rintro e w2 ⟨rfl, rfl⟩
        go_wp2_with fail
        refine (hc1 _).mono ?_
        rintro e w2 ⟨rfl, rfl⟩
        go_wp2_with fail
        refine (hc2 _).mono ?_
        rintro e w2 ⟨rfl, rfl⟩
        go_wp2_with fail
        go_ret
        exact ⟨rfl, hb0⟩
end Go.Proofs.Ytpfcmfannkbipaa
end

section
set_option linter.unusedVariables false
set_option maxRecDepth 20000
namespace Go.Proofs.Ytpfcmfannkbipaa
open Go.RowKit Go.Deep

attribute [local go_sem] run_store_float
theorem inf8_int : (Try.prog.info? 3).map (fun i => (i.zero, i.size, i.bytes)) = some (some (.int .i64 0), 1, 8) := by kernel_rfl
theorem one8_int (x : Int) : ∀ u ∈ encInt x, u.oneCell' = true := by intro u hu; simp [encInt] at hu; subst hu; rfl
/-- Words copied into memory of the call's own. -/
theorem words_run (w w0 : World) (x : Sl Int) (hx : x.At IntAt 1 w) (hb0 : Below w.heap.size w w0) (hn : x.L.length ≤ 1000) (ty : TypeId) :
    ∃ (q : Sl Int) (w1 : World), q.L = x.L ∧ (Builtin.append_ #[59, 59] ty #[.slice none 0 0, x.val]).run Try.prog w0 = .ok q.val w1 ∧ OwnR 3 1 encInt w1 w0.heap.size q.val q.L ∧
      (∀ g t cs, Blk w0 g t cs → Blk w1 g t cs) ∧ Below w0.heap.size w0 w1 := by
  obtain ⟨v1, w1, hrun, hown, hext⟩ := run_append_src (P := Try.prog) 3 59 ty 1 8 (.int .i64 0) encInt (by decide) (fun _ => rfl) one8_int Try.underlying59 inf8_int rfl w0 w0.heap.size _ (.slice none 0 0) [] x.L x.A x.L.length x.c OwnR.nil
    ((hx.1.below IntAt.keeps hb0).reads (size := 1) (by decide) (fun _ => rfl) lays_int) rfl (by simp; omega) (by simp; omega) (Nat.le_refl _)
  rw [List.nil_append] at hown
  obtain ⟨q, rfl, hL, _, _⟩ := hown.form
  refine ⟨q, w1, hL, hrun, by rw [hL]; exact hown, fun g t cs h => h.grown hext.1 (by simp [Value.ownBlock]), hext.below (Nat.le_refl _) (by simp [Value.ownBlock])⟩
/-- A state in memory of the call's own. -/
def CopiedS (w : World) (s : St) (e : Ending) (w' : World) : Prop := ∃ c : St, e = .returned c.val ∧ c.pl = s.pl ∧ OwnR 3 1 encInt w' w.heap.size c.wd.val c.wd.L ∧ Below w.heap.size w w'
theorem OwnR.lowerB {α : Type} {e : TypeId} {size B N : Nat} {enc : α → List Value} {w : World} {v : Value} {L : List α} (h : OwnR e size enc w B v L) (hN : N ≤ B) : OwnR e size enc w N v L := OwnR.lower h hN
set_option maxHeartbeats 1000000 in
theorem copy8_any (s : St) (w : World) (hs : s.At w) (hn : s.wd.L.length ≤ 1000) : Calls Try.prog 47 #[s.val] w (CopiedS w s) := by
  have HC := hide (show ∀ (q : Sl Int) w', q.L = s.wd.L → OwnR 3 1 encInt w' w.heap.size q.val q.L → Below w.heap.size w w' → CopiedS w s (.returned (.agg #[q.val, .int .i64 s.sent, .int .i64 s.dice])) w' from
    fun q w' h1 h2 h3 => ⟨⟨q, s.sent, s.dice⟩, rfl, by simp [St.pl, h1], h2, h3⟩)
  generalize CopiedS w s = Post at *
  obtain ⟨hb0, hX, hR⟩ := box2 w #[s.wd.val, .int .i64 s.sent, .int .i64 s.dice] #[.slice none 0 0, .int .i64 0, .int .i64 0] 61 61
  obtain ⟨q, w1, hq, hrun, hown, hblk, hb1⟩ := words_run w _ s.wd hs.1 hb0 hn 59
  have hX1 := hblk _ _ _ hX
  have hR1 := hblk _ _ _ hR
  have hb2 := below_after hb0 hb1
  have hz : ((w.alloc (.cells #[s.wd.val, .int .i64 s.sent, .int .i64 s.dice] 61)).alloc (.cells #[.slice none 0 0, .int .i64 0, .int .i64 0] 61)).heap.size = w.heap.size + 1 + 1 := by simp
  rw [hz] at hown
  clear hblk hb1 hb0 hz
  have a0 := hX.cell 0
  have a1 := hX.cell 1
  have a2 := hX.cell 2
  simp only [List.getElem?_toArray, List.getElem?_cons_zero, List.getElem?_cons_succ] at a0 a1 a2
  have c0 := hX1.cell 0
  have c1 := hX1.cell 1
  have c2 := hX1.cell 2
  simp only [List.getElem?_toArray, List.getElem?_cons_zero, List.getElem?_cons_succ] at c0 c1 c2
  have r0 := hR1.cell 0
  have r1 := hR1.cell 1
  have r2 := hR1.cell 2
  simp only [List.getElem?_toArray, List.getElem?_cons_zero, List.getElem?_cons_succ] at r0 r1 r2
  have f0 := hX1.frozen 0
  have q0 := hR1.frozen 0
  have q1 := hR1.frozen 1
  have q2 := hR1.frozen 2
  obtain ⟨⟨sA, sc, sl⟩, sent, dice⟩ := s
  obtain ⟨qA, qc, qL⟩ := q
  simp only [Sl.val, St.val] at *
  have HO := hide hown
  have HB := hide hb2
  have HQ := hide hq
  clear hown hb2 hs hX hR hX1 hR1 hn hq
  go_enter Try.func47, Try.ntmps47
  go_wp2_with (at_builtin; go_must (refine wpList_of_append rfl _ w1 _ _ 59 _ _ _ rfl rfl rfl hrun ?_))
  refine bodyPost_ret (v := .agg #[.slice qA qL.length qc, .int .i64 sent, .int .i64 dice]) (by simp [results, Try.results47, go_sem, r0, r1, r2]) rfl ?_
  refine HC.out ⟨qA, qc, qL⟩ _ HQ.out ?_ ?_
  · exact OwnR.lower ((((HO.out.setCell (by simp only; omega) _).setCell (by simp only; omega) _).setCell (by simp only; omega) _).setCell (by simp only; omega) _) (by omega)
  · exact (((HB.out.setCell (by simp only; omega) _).setCell (by simp only; omega) _).setCell (by simp only; omega) _).setCell (by simp only; omega) _
end Go.Proofs.Ytpfcmfannkbipaa
end
