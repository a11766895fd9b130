/- The walk of the law's light: is a model not far too great? No condition. -/
import Derived.Test.YtegegljpmelomaaRChk
set_option linter.unusedVariables false
set_option maxRecDepth 20000
namespace Go.Proofs.Ytegegljpmelomaa.L05
open Go.RowKit Go.Deep

/-! Is a model not far too great? -/
def lightB (m : Mdl) : Bool := decide (m.pl.L.length ≤ 20 ∧ m.ll.L.length ≤ 40 ∧ m.dl.L.length ≤ 60 ∧ m.il.L.length ≤ 60) && (m.pl.L.all (fun p => decide (p.L.length ≤ 200)) && m.ll.L.all (fun x => decide (x.2.L.length ≤ 100)))
theorem light_bad (m : Mdl) (w : World) (h : m.At w) (hq : ¬ (m.pl.L.length ≤ 20 ∧ m.ll.L.length ≤ 40 ∧ m.dl.L.length ≤ 60 ∧ m.il.L.length ≤ 60)) : Calls Try.prog 14 #[m.val] w fun e w' => e = .returned (.bool (lightB m)) ∧ Below w.heap.size w w' := by
  have HS := hide (show lightB m = false by unfold lightB; rw [decide_eq_false hq]; rfl)
  obtain ⟨seed, fin, ⟨dA, dc, dl⟩, ⟨pA, pc, pl⟩, ⟨lA, lc, ll⟩, ⟨iA, ic, il⟩⟩ := m
  obtain ⟨_, _, ⟨_, d1, d2⟩, ⟨_, p1, p2⟩, ⟨_, l1, l2⟩, ⟨_, i1, i2⟩⟩ := h
  simp only [Sl.val, Mdl.val] at *
  have hd : dl.length ≤ 9223372036854775807 := by omega
  have hp : pl.length ≤ 9223372036854775807 := by omega
  have hl : ll.length ≤ 9223372036854775807 := by omega
  have hi : il.length ≤ 9223372036854775807 := by omega
  clear d1 d2 p1 p2 l1 l2 i1 i2
  go_enter Try.func14, Try.ntmps14
  go_wp2
  all_goals
    go_ret
    exact ⟨ret_bool HS.out.symm, (Below.refl _ _).alloc (Nat.le_refl _) _⟩
set_option maxHeartbeats 800000 in
theorem light_good (m : Mdl) (w : World) (h : m.At w) (hq : m.pl.L.length ≤ 20 ∧ m.ll.L.length ≤ 40 ∧ m.dl.L.length ≤ 60 ∧ m.il.L.length ≤ 60) : Calls Try.prog 14 #[m.val] w fun e w' => e = .returned (.bool (lightB m)) ∧ Below w.heap.size w w' := by
  have HS := hide (show lightB m = (m.pl.L.all (fun p => decide (p.L.length ≤ 200)) && m.ll.L.all (fun x => decide (x.2.L.length ≤ 100))) by unfold lightB; rw [decide_eq_true hq]; rfl)
  obtain ⟨seed, fin, ⟨dA, dc, dl⟩, ⟨pA, pc, pl⟩, ⟨lA, lc, ll⟩, ⟨iA, ic, il⟩⟩ := m
  obtain ⟨_, _, ⟨_, d1, d2⟩, ⟨pr, p1, p2⟩, ⟨lr, l1, l2⟩, ⟨_, i1, i2⟩⟩ := h
  obtain ⟨q1, q2, q3, q4⟩ := hq
  simp only [Sl.val, Mdl.val] at *
  have z1 : decide (20 < (pl.length : Int)) = false := by rw [decide_eq_false_iff_not]; omega
  have z2 : decide (40 < (ll.length : Int)) = false := by rw [decide_eq_false_iff_not]; omega
  have z3 : decide (60 < (dl.length : Int)) = false := by rw [decide_eq_false_iff_not]; omega
  have z4 : decide (60 < (il.length : Int)) = false := by rw [decide_eq_false_iff_not]; omega
  have hX1 := Blk.new w 28 #[.int .i64 seed, .float .f64 fin, .slice dA dl.length dc, .slice pA pl.length pc, .slice lA ll.length lc, .slice iA il.length ic]
  have hb1 : Below w.heap.size w (w.alloc (.cells #[.int .i64 seed, .float .f64 fin, .slice dA dl.length dc, .slice pA pl.length pc, .slice lA ll.length lc, .slice iA il.length ic] 28)) := (Below.refl _ _).alloc (Nat.le_refl _) _
  go_enter Try.func14, Try.ntmps14
  go_wp2_with fail
  clear z1 z2 z3 z4
  go_loopw [3] (fun i wr => RRel w #[.int .i64 seed, .float .f64 fin, .slice dA dl.length dc, .slice pA pl.length pc, .slice lA ll.length lc, .slice iA il.length ic] (fun p => decide (p.L.length ≤ 200)) pl i wr) (fun i _ => pl.length - (intOf i).toNat)
  case atStart => exact ⟨0, Nat.zero_le _, rfl, by simp, hb1, hX1⟩
  case round =>
    clear hb1 hX1
    obtain ⟨k, hk, rfl, hall, hb, hX⟩ := hrel
    have c3 := hX.cell 3
    have c4 := hX.cell 4
    by_cases hlt : k < pl.length
    · have hx := List.getElem?_eq_getElem hlt
      obtain ⟨a, rfl, h0, hs⟩ := (pr.below (SlAt.keeps InsAt.keeps 4) hb) k _ hx
      rw [Nat.mul_one] at h0
      generalize pl[k] = x at *
      have HX := hide hx
      have HA := hide (all_take_succ (fun p : Sl Ins4 => decide (p.L.length ≤ 200)) pl k x hx)
      have HB := hide hall
      have hn : x.L.length ≤ 9223372036854775807 := Nat.le_trans hs.2.1 hs.2.2
      clear hx hall hs
      obtain ⟨xA, xc, xl⟩ := x
      simp only [Sl.val] at *
      by_cases hle : xl.length ≤ 200
      · have HF := hide (decide_eq_true hle)
        go_wp2_with fail
        go_roundw
        case rel => exact ⟨k + 1, by omega, by go_num, by rw [HA.out, HB.out]; exact HF.out, hb, hX⟩
        case measure => simp [intOf]; omega
      · have HF := hide (decide_eq_false hle)
        go_wp2_with fail
        go_ret
        exact ⟨ret_bool (HS.out.trans (by rw [all_fail (fun p : Sl Ins4 => decide (p.L.length ≤ 200)) _ _ _ HX.out HF.out]; rfl)).symm, hb⟩
    · obtain rfl : k = pl.length := by omega
      have HP := hide (all_take_all _ _ hall)
      clear hall
      have hb1 := hb
      have hX1 := hX
      clear hb hX
      go_wp2_with fail
      clear c3 c4
      go_loopw [4] (fun i wr => RRel w #[.int .i64 seed, .float .f64 fin, .slice dA dl.length dc, .slice pA pl.length pc, .slice lA ll.length lc, .slice iA il.length ic] (fun x => decide (x.2.L.length ≤ 100)) ll i wr) (fun i _ => ll.length - (intOf i).toNat)
      case atStart => exact ⟨0, Nat.zero_le _, rfl, by simp, hb1, hX1⟩
      case round =>
        clear hb1 hX1
        obtain ⟨k, hk, rfl, hall, hb, hX⟩ := hrel
        have c4 := hX.cell 4
        by_cases hlt : k < ll.length
        · have hx := List.getElem?_eq_getElem hlt
          obtain ⟨a, rfl, h0, h1, _, hs⟩ := (lr.below LpAt.keeps hb) k _ hx
          generalize ll[k] = x at *
          have HX := hide hx
          have HA := hide (all_take_succ (fun x : LP2 => decide (x.2.L.length ≤ 100)) ll k x hx)
          have HB := hide hall
          have hn : x.2.L.length ≤ 9223372036854775807 := Nat.le_trans hs.2.1 hs.2.2
          clear hx hall hs
          obtain ⟨p, ⟨xA, xc, xl⟩⟩ := x
          simp only [Sl.val] at *
          by_cases hle : xl.length ≤ 100
          · have HF := hide (decide_eq_true hle)
            go_wp2_with fail
            go_roundw
            case rel => exact ⟨k + 1, by omega, by go_num, by rw [HA.out, HB.out]; exact HF.out, hb, hX⟩
            case measure => simp [intOf]; omega
          · have HF := hide (decide_eq_false hle)
            go_wp2_with fail
            go_ret
            exact ⟨ret_bool (HS.out.trans (by rw [HP.out, all_fail (fun x : LP2 => decide (x.2.L.length ≤ 100)) _ _ _ HX.out HF.out]; rfl)).symm, hb⟩
        · obtain rfl : k = ll.length := by omega
          have HL := hide (all_take_all _ _ hall)
          clear hall
          go_wp2_with fail
          go_ret
          exact ⟨ret_bool (HS.out.trans (by rw [HP.out, HL.out]; rfl)).symm, hb⟩
theorem light_any (m : Mdl) (w : World) (h : m.At w) : Calls Try.prog 14 #[m.val] w fun e w' => e = .returned (.bool (lightB m)) ∧ Below w.heap.size w w' := by
  by_cases hq : m.pl.L.length ≤ 20 ∧ m.ll.L.length ≤ 40 ∧ m.dl.L.length ≤ 60 ∧ m.il.L.length ≤ 60
  · exact light_good m w h hq
  · exact light_bad m w h hq
end Go.Proofs.Ytegegljpmelomaa.L05
