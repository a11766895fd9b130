/- The walk of R05.Same: when two models are the same. No condition. -/
import Derived.Test.YtegegljpmelomaaSame2
set_option linter.unusedVariables false
set_option maxRecDepth 20000
namespace Go.Proofs.Ytegegljpmelomaa
open Go.RowKit Go.Deep

attribute [local go_sem] run_store_float
def RIRel (w : World) (a b : List Int) (i : Value) (wr : World) : Prop :=
  ∃ k n : Nat, k ≤ a.length ∧ i = .int .i64 k ∧ ((a.zip b).take k).all (fun p => decide (p.1 = p.2)) = true ∧ wr = w.drewN n
def SomeDraws (w : World) (b : Bool) (e : Ending) (w' : World) : Prop := e = .returned (.bool b) ∧ ∃ n, w' = w.drewN n
theorem rints_any (s t : Sl Int) (w : World) (hs : s.At IntAt 1 w) (ht : t.At IntAt 1 w) : Calls Try.prog 44 #[s.val, t.val] w (SomeDraws w (eqL (fun a b => decide (a = b)) s.L t.L)) := by
  obtain ⟨A, c, L⟩ := s
  obtain ⟨A', c', L'⟩ := t
  obtain ⟨hr, hn, hc⟩ := hs
  obtain ⟨hr', hn', hc'⟩ := ht
  simp only [Sl.val] at *
  by_cases hlen : L.length = L'.length
  · have HL := hide hlen
    rw [← hlen] at hn'
    rw [← hlen]
    clear hlen
    go_enter Try.func44, Try.ntmps44
    go_wp2_with fail
    go_loopw [5] (fun i wr => RIRel w L L' i wr) (fun i _ => L.length - (intOf i).toNat)
    case atStart => exact ⟨0, 0, Nat.zero_le _, rfl, by simp, rfl⟩
    case round =>
      obtain ⟨k, n, hk, rfl, hall, rfl⟩ := hrel
      by_cases hlt : k < L.length
      · obtain ⟨x, y, hx, hy⟩ := at_len HL.out hlt
        obtain ⟨a, rfl, h0, _⟩ := hr k _ hx
        obtain ⟨a', rfl, g0, _⟩ := hr' k _ hy
        rw [Nat.mul_one] at h0 g0
        have HY := hide (fun h => eqL_step (f := fun a b : Int => decide (a = b)) hx hy hall h)
        have HN := hide (fun h => eqL_no (f := fun a b : Int => decide (a = b)) hx hy h)
        have kI : (k : Int) < (L.length : Int) := by omega
        clear hall hx hy hr hr'
        by_cases hq : x = y
        · subst hq
          go_wp2_with fail
          go_quiet (fail)
          go_wp2_with fail
          go_roundw
          case rel => exact ⟨k + 1, _, by omega, by go_num, HY.out (by simp), by first | rfl | rw [World.drewN_drewN]⟩
          case measure => simp [intOf]; omega
        · have HQ := hide (show (fun a b : Int => decide (a = b)) x y = false by simp [hq])
          have hne : (x != y) = true := by rw [bne_iff_ne]; exact hq
          clear hq
          go_wp2_with fail
          go_quiet (fail)
          go_wp2_with fail
          go_ret
          exact ⟨ret_bool (HN.out HQ.out).symm, _, by first | rfl | rw [World.drewN_drewN]⟩
      · obtain rfl : k = L.length := by omega
        have HF := hide (eqL_yes (f := fun a b : Int => decide (a = b)) HL.out hall)
        clear hall
        go_wp2_with fail
        go_ret
        exact ⟨ret_bool HF.out.symm, _, rfl⟩
  · have hne : ((L.length : Int) == (L'.length : Int)) = false := by rw [beq_eq_false_iff_ne]; omega
    have hne2 : ((L.length : Int) != (L'.length : Int)) = true := by rw [bne_iff_ne]; omega
    have HF := hide (eqL_len (f := fun a b : Int => decide (a = b)) hlen)
    clear hr hr'
    go_enter Try.func44, Try.ntmps44
    go_wp2_with fail
    go_ret
    exact ⟨ret_bool HF.out.symm, 0, rfl⟩
def RSRel {α β : Type} (w : World) (X Y : Array Value) (f : α → β → Bool) (a : List α) (b : List β) (i : Value) (wr : World) : Prop :=
  ∃ k : Nat, k ≤ a.length ∧ i = .int .i64 k ∧ ((a.zip b).take k).all (fun p => f p.1 p.2) = true ∧ Below w.heap.size w wr ∧ Blk wr w.heap.size 28 X ∧ Blk wr (w.heap.size + 1) 28 Y
set_option maxHeartbeats 2000000 in
theorem rsame_good (m m' : Mdl) (w : World) (h : m.At w) (h' : m'.At w) (q0 : m.seed = m'.seed) (q1 : fsame m.fin m'.fin = true) (l1 : m.dl.L.length = m'.dl.L.length) (l2 : m.pl.L.length = m'.pl.L.length) (l3 : m.ll.L.length = m'.ll.L.length) (l4 : m.il.L.length = m'.il.L.length) :
    Calls Try.prog 20 #[m.val, m'.val] w fun e w' => e = .returned (.bool (sameB m m')) ∧ Below w.heap.size w w' := by
  have HS := hide (show sameB m m' = (decide (m.seed = m'.seed) && (fsame m.fin m'.fin && (eqL fsame m.dl.L m'.dl.L && (eqL initSame m.il.L m'.il.L && (eqL progSame m.pl.L m'.pl.L && eqL lpSame m.ll.L m'.ll.L))))) from rfl)
  rw [q1, decide_eq_true q0] at HS
  generalize sameB m m' = S at *
  obtain ⟨seed, fin, ⟨dA, dc, dl⟩, ⟨pA, pc, pl⟩, ⟨lA, lc, ll⟩, ⟨iA, ic, il⟩⟩ := m
  obtain ⟨seed', fin', ⟨dA', dc', dl'⟩, ⟨pA', pc', pl'⟩, ⟨lA', lc', ll'⟩, ⟨iA', ic', il'⟩⟩ := m'
  simp only at q0
  subst q0
  simp only [Sl.val, Mdl.val] at *
  rw [← l1, ← l2, ← l3, ← l4]
  have L1 := hide l1
  have L2 := hide l2
  have L3 := hide l3
  have L4 := hide l4
  clear l1 l2 l3 l4
  have hm := h
  have hm' := h'
  have hnd : dl.length ≤ 9223372036854775807 := Nat.le_trans h.2.2.1.2.1 h.2.2.1.2.2
  have hnp : pl.length ≤ 9223372036854775807 := Nat.le_trans h.2.2.2.1.2.1 h.2.2.2.1.2.2
  have hnl : ll.length ≤ 9223372036854775807 := Nat.le_trans h.2.2.2.2.1.2.1 h.2.2.2.2.1.2.2
  have hni : il.length ≤ 9223372036854775807 := Nat.le_trans h.2.2.2.2.2.2.1 h.2.2.2.2.2.2.2
  clear h h'
  obtain ⟨hX, hY, hb⟩ := two_boxes w 28 #[.int .i64 seed, .float .f64 fin, .slice dA dl.length dc, .slice pA pl.length pc, .slice lA ll.length lc, .slice iA il.length ic] #[.int .i64 seed, .float .f64 fin', .slice dA' dl.length dc', .slice pA' pl.length pc', .slice lA' ll.length lc', .slice iA' il.length ic']
  go_enter Try.func20, Try.ntmps20
  go_wp2_with fail
  refine (rfloat_any _ _ _).mono ?_
  rw [q1]
  rintro e w' ⟨rfl, rfl⟩
  clear q1
  generalize (w.alloc (.cells #[.int .i64 seed, .float .f64 fin, .slice dA dl.length dc, .slice pA pl.length pc, .slice lA ll.length lc, .slice iA il.length ic] 28)).alloc (.cells #[.int .i64 seed, .float .f64 fin', .slice dA' dl.length dc', .slice pA' pl.length pc', .slice lA' ll.length lc', .slice iA' il.length ic'] 28) = w1 at *
  have c2 := hX.cell 2
  have c3 := hX.cell 3
  have c4 := hX.cell 4
  have c5 := hX.cell 5
  have d2 := hY.cell 2
  have d3 := hY.cell 3
  have d4 := hY.cell 4
  have d5 := hY.cell 5
  go_wp2_with fail
  clear c2 c3 c4 c5 d2 d3 d4 d5
  have hb1 := hb
  have hX1 := hX
  have hY1 := hY
  clear hb hX hY
  go_loopw [5] (fun i wr => RSRel w #[.int .i64 seed, .float .f64 fin, .slice dA dl.length dc, .slice pA pl.length pc, .slice lA ll.length lc, .slice iA il.length ic] #[.int .i64 seed, .float .f64 fin', .slice dA' dl.length dc', .slice pA' pl.length pc', .slice lA' ll.length lc', .slice iA' il.length ic'] fsame dl dl' i wr) (fun i _ => dl.length - (intOf i).toNat)
  case atStart => exact ⟨0, Nat.zero_le _, rfl, by simp, hb1, hX1, hY1⟩
  case round =>
    clear hb1 hX1 hY1
    obtain ⟨k, hk, rfl, hall, hb, hX, hY⟩ := hrel
    have c2 := hX.cell 2
    have c3 := hX.cell 3
    have c4 := hX.cell 4
    have c5 := hX.cell 5
    have d2 := hY.cell 2
    have d3 := hY.cell 3
    have d4 := hY.cell 4
    have d5 := hY.cell 5
    by_cases hlt : k < dl.length
    · obtain ⟨x, y, hx, hy⟩ := at_len L1.out hlt
      obtain ⟨a, rfl, h0, _⟩ := (hm.2.2.1.1.below FlAt.keeps hb) k _ hx
      obtain ⟨a', rfl, g0, _⟩ := (hm'.2.2.1.1.below FlAt.keeps hb) k _ hy
      have HY := hide (fun h => eqL_step (f := fsame) hx hy hall h)
      have HN := hide (fun h => eqL_no (f := fsame) hx hy h)
      have kI : (k : Int) < (dl.length : Int) := by omega
      clear hall hx hy
      rw [Nat.mul_one] at h0 g0
      cases hq : fsame x y
      · have HQ := hide hq
        have hcl := fun w => rfloat_any x y w
        simp only [hq] at hcl
        clear hq
        go_wp2_with fail
        go_quiet ((go_at_call 43; exact quiet_left (hcl _)))
        go_wp2_with fail
        go_ret
        exact ⟨ret_bool (HS.out.trans (by rw [HN.out HQ.out]; simp)).symm, below_drewN hb _⟩
      · have HQ := hide hq
        have hcl := fun w => rfloat_any x y w
        simp only [hq] at hcl
        clear hq
        go_wp2_with fail
        go_quiet ((go_at_call 43; exact quiet_left (hcl _)))
        go_wp2_with fail
        go_roundw
        case rel => exact ⟨k + 1, by omega, by go_num, HY.out HQ.out, below_drewN hb _, hX.drewN _, hY.drewN _⟩
        case measure => simp [intOf]; omega
    · obtain rfl : k = dl.length := by omega
      have HF := hide (eqL_yes (f := fsame) L1.out hall)
      clear hall
      go_wp2_with fail
      have HFd := HF
      clear HF
      clear c2 c3 c4 c5 d2 d3 d4 d5
      have hb1 := hb
      have hX1 := hX
      have hY1 := hY
      clear hb hX hY
      go_loopw [6] (fun i wr => RSRel w #[.int .i64 seed, .float .f64 fin, .slice dA dl.length dc, .slice pA pl.length pc, .slice lA ll.length lc, .slice iA il.length ic] #[.int .i64 seed, .float .f64 fin', .slice dA' dl.length dc', .slice pA' pl.length pc', .slice lA' ll.length lc', .slice iA' il.length ic'] progSame pl pl' i wr) (fun i _ => pl.length - (intOf i).toNat)
      case atStart => exact ⟨0, Nat.zero_le _, rfl, by simp, hb1, hX1, hY1⟩
      case round =>
        clear hb1 hX1 hY1
        obtain ⟨k, hk, rfl, hall, hb, hX, hY⟩ := hrel
        have c2 := hX.cell 2
        have c3 := hX.cell 3
        have c4 := hX.cell 4
        have c5 := hX.cell 5
        have d2 := hY.cell 2
        have d3 := hY.cell 3
        have d4 := hY.cell 4
        have d5 := hY.cell 5
        by_cases hlt : k < pl.length
        · obtain ⟨x, y, hx, hy⟩ := at_len L2.out hlt
          obtain ⟨a, rfl, h0, h1⟩ := (hm.2.2.2.1.1.below (SlAt.keeps InsAt.keeps 4) hb) k _ hx
          obtain ⟨a', rfl, g0, g1⟩ := (hm'.2.2.2.1.1.below (SlAt.keeps InsAt.keeps 4) hb) k _ hy
          have HY := hide (fun h => eqL_step (f := progSame) hx hy hall h)
          have HN := hide (fun h => eqL_no (f := progSame) hx hy h)
          have kI : (k : Int) < (pl.length : Int) := by omega
          clear hall hx hy
          rw [Nat.mul_one] at h0 g0
          obtain ⟨xA, xc, xl⟩ := x
          obtain ⟨yA, yc, yl⟩ := y
          simp only [Sl.val] at *
          by_cases hl : xl.length = yl.length
          · have HL := hide hl
            rw [← hl] at g0
            clear hl
            go_wp2_with fail
            go_quiet (fail)
            go_wp2_with fail
            have hb0 := below_drewN hb nq
            have hX0 := hX.drewN nq
            have hY0 := hY.drewN nq
            have h00 : (wr.drewN nq).cell? (a.add k) = some (.slice xA xl.length xc) := h0
            have g00 : (wr.drewN nq).cell? (a'.add k) = some (.slice yA xl.length yc) := g0
            have h10 : Sl.At InsAt 4 (wr.drewN nq) ⟨xA, xc, xl⟩ := h1
            have g10 : Sl.At InsAt 4 (wr.drewN nq) ⟨yA, yc, yl⟩ := g1
            have hxl : xl.length ≤ 9223372036854775807 := Nat.le_trans h1.2.1 h1.2.2
            clear c2 c3 c4 c5 d2 d3 d4 d5 hb hX hY h0 g0 h1 g1
            generalize wr.drewN nq = wo at *
            go_loopw [7] (fun i w2 => EqRel wo (fun x y => decide (x = y)) xl yl i w2) (fun i _ => xl.length - (intOf i).toNat)
            case atStart => exact ⟨0, Nat.zero_le _, rfl, by simp, Below.refl _ _⟩
            case round =>
              obtain ⟨j, hj, rfl, hall, hb2⟩ := hrel
              have hb := below_after hb0 hb2
              have hX := hX0.below hb2 hX0.lt
              have hY := hY0.below hb2 hY0.lt
              have c3 := hX.cell 3
              have d3 := hY.cell 3
              have h0 := keepc hb2 h00
              have g0 := keepc hb2 g00
              by_cases hlj : j < xl.length
              · obtain ⟨x, y, hx, hy⟩ := at_len HL.out hlj
                obtain ⟨ax, rfl, p0, p1, p2, p3, _⟩ := (h10.below InsAt.keeps hb2).1 j _ hx
                obtain ⟨ay, rfl, r0, r1, r2, r3, _⟩ := (g10.below InsAt.keeps hb2).1 j _ hy
                have HY2 := hide (fun h => eqL_step (f := fun x y : Ins4 => decide (x = y)) hx hy hall h)
                have HN2 := hide (fun h => eqL_no (f := fun x y : Ins4 => decide (x = y)) hx hy h)
                have kI2 : (j : Int) < (xl.length : Int) := by omega
                clear hall hx hy h00 g00 h10 g10
                by_cases hq : x = y
                · subst hq
                  have HQ := hide (show (fun x y : Ins4 => decide (x = y)) x x = true by simp)
                  have hne := fun w => (ins_neq_run x x w).trans (by simp : _ = Result.ok (Value.bool false) w)
                  go_wp2_with fail
                  go_quiet (fail)
                  go_wp2_with fail
                  go_roundw
                  case rel => exact ⟨j + 1, by omega, by go_num, HY2.out HQ.out, below_drewN hb2 _⟩
                  case measure => simp [intOf]; omega
                · have HQ := hide (show progSame ⟨some ax, xc, xl⟩ ⟨some ay, yc, yl⟩ = false from HN2.out (by simp [hq]))
                  have hne := fun w => (ins_neq_run x y w).trans (by rw [decide_eq_false hq]; rfl : _ = Result.ok (Value.bool true) w)
                  clear hq
                  go_wp2_with fail
                  go_quiet (fail)
                  go_wp2_with fail
                  go_ret
                  exact ⟨ret_bool (HS.out.trans (by rw [HN.out HQ.out]; simp)).symm, below_drewN hb _⟩
              · obtain rfl : j = xl.length := by omega
                have HQ := hide (show progSame ⟨xA, xc, xl⟩ ⟨yA, yc, yl⟩ = true from eqL_yes (f := fun x y : Ins4 => decide (x = y)) HL.out hall)
                clear hall
                go_wp2_with fail
                go_roundw
                case rel => exact ⟨k + 1, by omega, by go_num, HY.out HQ.out, hb, hX, hY⟩
                case measure => simp [intOf]; omega
          · have HQ := hide (show progSame ⟨xA, xc, xl⟩ ⟨yA, yc, yl⟩ = false from eqL_len hl)
            have hne : ((xl.length : Int) != (yl.length : Int)) = true := by rw [bne_iff_ne]; omega
            go_wp2_with fail
            go_quiet (fail)
            go_wp2_with fail
            go_ret
            exact ⟨ret_bool (HS.out.trans (by rw [HN.out HQ.out]; simp)).symm, below_drewN hb _⟩
        · obtain rfl : k = pl.length := by omega
          have HF := hide (eqL_yes (f := progSame) L2.out hall)
          clear hall
          go_wp2_with fail
          have HFp := HF
          clear HF
          clear c2 c3 c4 c5 d2 d3 d4 d5
          have hb1 := hb
          have hX1 := hX
          have hY1 := hY
          clear hb hX hY
          go_loopw [8] (fun i wr => RSRel w #[.int .i64 seed, .float .f64 fin, .slice dA dl.length dc, .slice pA pl.length pc, .slice lA ll.length lc, .slice iA il.length ic] #[.int .i64 seed, .float .f64 fin', .slice dA' dl.length dc', .slice pA' pl.length pc', .slice lA' ll.length lc', .slice iA' il.length ic'] lpSame ll ll' i wr) (fun i _ => ll.length - (intOf i).toNat)
          case atStart => exact ⟨0, Nat.zero_le _, rfl, by simp, hb1, hX1, hY1⟩
          case round =>
            clear hb1 hX1 hY1
            obtain ⟨k, hk, rfl, hall, hb, hX, hY⟩ := hrel
            have c2 := hX.cell 2
            have c3 := hX.cell 3
            have c4 := hX.cell 4
            have c5 := hX.cell 5
            have d2 := hY.cell 2
            have d3 := hY.cell 3
            have d4 := hY.cell 4
            have d5 := hY.cell 5
            by_cases hlt : k < ll.length
            · obtain ⟨x, y, hx, hy⟩ := at_len L3.out hlt
              obtain ⟨a, rfl, h0, h1, _, h2⟩ := (hm.2.2.2.2.1.1.below LpAt.keeps hb) k _ hx
              obtain ⟨a', rfl, g0, g1, _, g2⟩ := (hm'.2.2.2.2.1.1.below LpAt.keeps hb) k _ hy
              have HY := hide (fun h => eqL_step (f := lpSame) hx hy hall h)
              have HN := hide (fun h => eqL_no (f := lpSame) hx hy h)
              have kI : (k : Int) < (ll.length : Int) := by omega
              clear hall hx hy
              by_cases h5 : x.1 = y.1
              · have hI : lpSame x y = eqL (fun a b => decide (a = b)) x.2.L y.2.L := by unfold lpSame; rw [decide_eq_true h5]; rfl
                have h5n : (x.1 != y.1) = false := by rw [bne_eq_false_iff_eq]; exact h5
                have hcl := fun n => rints_any x.2 y.2 (wr.drewN n) h2 g2
                clear h2 g2 h5
                obtain ⟨x1, ⟨xA, xc, xl⟩⟩ := x
                obtain ⟨y1, ⟨yA, yc, yl⟩⟩ := y
                simp only [Sl.val] at *
                cases hq : eqL (fun a b : Int => decide (a = b)) xl yl
                · have HQ := hide (hI.trans hq)
                  simp only [hq] at hcl
                  clear hq hI
                  go_wp2_with fail
                  go_quiet ((go_at_call 44; exact Calls.quiet_of (hcl _)))
                  go_wp2_with fail
                  go_ret
                  exact ⟨ret_bool (HS.out.trans (by rw [HN.out HQ.out]; simp)).symm, below_drewN hb _⟩
                · have HQ := hide (hI.trans hq)
                  simp only [hq] at hcl
                  clear hq hI
                  go_wp2_with fail
                  go_quiet ((go_at_call 44; exact Calls.quiet_of (hcl _)))
                  go_wp2_with fail
                  go_roundw
                  case rel => exact ⟨k + 1, by omega, by go_num, HY.out HQ.out, below_drewN hb _, hX.drewN _, hY.drewN _⟩
                  case measure => simp [intOf]; omega
              · have HQ := hide (show lpSame x y = false by unfold lpSame; rw [decide_eq_false h5]; rfl)
                have h5n : (x.1 != y.1) = true := by rw [bne_iff_ne]; exact h5
                clear h2 g2 h5
                go_wp2_with fail
                go_quiet (fail)
                go_wp2_with fail
                go_ret
                exact ⟨ret_bool (HS.out.trans (by rw [HN.out HQ.out]; simp)).symm, below_drewN hb _⟩
            · obtain rfl : k = ll.length := by omega
              have HF := hide (eqL_yes (f := lpSame) L3.out hall)
              clear hall
              go_wp2_with fail
              have HFl := HF
              clear HF
              clear c2 c3 c4 c5 d2 d3 d4 d5
              have hb1 := hb
              have hX1 := hX
              have hY1 := hY
              clear hb hX hY
              go_loopw [9] (fun i wr => RSRel w #[.int .i64 seed, .float .f64 fin, .slice dA dl.length dc, .slice pA pl.length pc, .slice lA ll.length lc, .slice iA il.length ic] #[.int .i64 seed, .float .f64 fin', .slice dA' dl.length dc', .slice pA' pl.length pc', .slice lA' ll.length lc', .slice iA' il.length ic'] initSame il il' i wr) (fun i _ => il.length - (intOf i).toNat)
              case atStart => exact ⟨0, Nat.zero_le _, rfl, by simp, hb1, hX1, hY1⟩
              case round =>
                clear hb1 hX1 hY1
                obtain ⟨k, hk, rfl, hall, hb, hX, hY⟩ := hrel
                have c2 := hX.cell 2
                have c3 := hX.cell 3
                have c4 := hX.cell 4
                have c5 := hX.cell 5
                have d2 := hY.cell 2
                have d3 := hY.cell 3
                have d4 := hY.cell 4
                have d5 := hY.cell 5
                by_cases hlt : k < il.length
                · obtain ⟨x, y, hx, hy⟩ := at_len L4.out hlt
                  obtain ⟨a, rfl, h0, h1, h2, _⟩ := (hm.2.2.2.2.2.1.below InitAt.keeps hb) k _ hx
                  obtain ⟨a', rfl, g0, g1, g2, _⟩ := (hm'.2.2.2.2.2.1.below InitAt.keeps hb) k _ hy
                  have HY := hide (fun h => eqL_step (f := initSame) hx hy hall h)
                  have HN := hide (fun h => eqL_no (f := initSame) hx hy h)
                  have kI : (k : Int) < (il.length : Int) := by omega
                  clear hall hx hy
                  cases hq : fsame x.1 y.1
                  · have HQ := hide (show initSame x y = false by unfold initSame; rw [hq]; rfl)
                    have hcl := fun w => rfloat_any x.1 y.1 w
                    simp only [hq] at hcl
                    clear hq
                    go_wp2_with fail
                    go_quiet ((go_at_call 43; exact quiet_left (hcl _)))
                    go_wp2_with fail
                    go_ret
                    exact ⟨ret_bool (HS.out.trans (by rw [HN.out HQ.out]; simp)).symm, below_drewN hb _⟩
                  · have hcl := fun w => rfloat_any x.1 y.1 w
                    simp only [hq] at hcl
                    have hI : initSame x y = (x.2.1 == y.2.1 && x.2.2 == y.2.2) := by unfold initSame; rw [hq, Bool.eq_iff_iff]; simp
                    clear hq
                    cases h5 : x.2.1 == y.2.1
                    · have HQ := hide (show initSame x y = false by rw [hI, h5]; rfl)
                      have h5n : (x.2.1 != y.2.1) = true := by rw [bne, h5]; rfl
                      clear hI
                      go_wp2_with fail
                      go_quiet ((go_at_call 43; exact quiet_left (hcl _)))
                      go_wp2_with fail
                      go_ret
                      exact ⟨ret_bool (HS.out.trans (by rw [HN.out HQ.out]; simp)).symm, below_drewN hb _⟩
                    · have h5n : (x.2.1 != y.2.1) = false := by rw [bne, h5]; rfl
                      cases h6 : x.2.2 == y.2.2
                      · have HQ := hide (show initSame x y = false by rw [hI, h5, h6]; rfl)
                        have h6n : (x.2.2 != y.2.2) = true := by rw [bne, h6]; rfl
                        clear hI
                        go_wp2_with fail
                        go_quiet ((go_at_call 43; exact quiet_left (hcl _)))
                        go_wp2_with fail
                        go_ret
                        exact ⟨ret_bool (HS.out.trans (by rw [HN.out HQ.out]; simp)).symm, below_drewN hb _⟩
                      · have HQ := hide (show initSame x y = true by rw [hI, h5, h6]; rfl)
                        have h6n : (x.2.2 != y.2.2) = false := by rw [bne, h6]; rfl
                        clear hI
                        go_wp2_with fail
                        go_quiet ((go_at_call 43; exact quiet_left (hcl _)))
                        go_wp2_with fail
                        go_roundw
                        case rel => exact ⟨k + 1, by omega, by go_num, HY.out HQ.out, below_drewN hb _, hX.drewN _, hY.drewN _⟩
                        case measure => simp [intOf]; omega
                · obtain rfl : k = il.length := by omega
                  have HF := hide (eqL_yes (f := initSame) L4.out hall)
                  clear hall
                  go_wp2_with fail
                  go_ret
                  exact ⟨ret_bool (HS.out.trans (by rw [HFd.out, HFp.out, HFl.out, HF.out]; rfl)).symm, hb⟩
end Go.Proofs.Ytegegljpmelomaa
