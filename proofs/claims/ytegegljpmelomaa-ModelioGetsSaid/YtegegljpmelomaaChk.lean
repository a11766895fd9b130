/- The walks of model.Check and of its reference: which models may be. No condition. -/
import Derived.Test.YtegegljpmelomaaFloat
import Derived.Test.YtegegljpmelomaaModPl
import Derived.Test.YtegegljpmelomaaIns
set_option linter.unusedVariables false
set_option maxRecDepth 20000
namespace Go.Proofs.Ytegegljpmelomaa
open Go.RowKit Go.Deep

def insOk (len : Int) (x : Ins4) : Bool := insB x.1 x.2.1 x.2.2.1 x.2.2.2 len
def progB (L : List Ins4) : Bool := L.all (insOk L.length) && decide (1 ≤ L.length ∧ L.length ≤ 48)
theorem all_take_succ {α : Type} (f : α → Bool) (L : List α) (k : Nat) (x : α) (h : L[k]? = some x) : (L.take (k + 1)).all f = ((L.take k).all f && f x) := by
  have hk : k < L.length := (List.getElem?_eq_some_iff.1 h).1
  rw [List.take_succ_eq_append_getElem hk, List.all_append]
  rw [List.getElem?_eq_getElem hk] at h
  injection h with h
  rw [h]
  simp
theorem all_fail {α : Type} (f : α → Bool) (L : List α) (k : Nat) (x : α) (h : L[k]? = some x) (hf : f x = false) : L.all f = false := by
  rw [List.all_eq_false]
  exact ⟨x, List.mem_of_getElem? h, by simp [hf]⟩
theorem all_take_all {α : Type} (f : α → Bool) (L : List α) (h : (L.take L.length).all f = true) : L.all f = true := by rwa [List.take_length] at h

def PRel (w : World) (L : List Ins4) (i : Value) (wr : World) : Prop := ∃ k : Nat, k ≤ L.length ∧ i = .int .i64 k ∧ (L.take k).all (insOk L.length) = true ∧ Below w.heap.size w wr
theorem progB_no {L : List Ins4} (h : L.all (insOk L.length) = false) : progB L = false := by
  unfold progB
  rw [h]
  rfl
theorem progB_yes {L : List Ins4} (h : L.all (insOk L.length) = true) : progB L = decide (1 ≤ L.length ∧ L.length ≤ 48) := by
  unfold progB
  rw [h]
  rfl
set_option maxHeartbeats 400000 in
theorem rprogram_any (s : Sl Ins4) (w : World) (h : s.At InsAt 4 w) : Calls Try.prog 32 #[s.val] w fun e w' => e = .returned (.bool (progB s.L)) ∧ Below w.heap.size w w' := by
  obtain ⟨A, c, L⟩ := s
  obtain ⟨hr, hn, hc⟩ := h
  simp only [Sl.val] at *
  go_enter Try.func32, Try.ntmps32
  go_wp2_with fail
  go_loopw [3] (fun i wr => PRel w L i wr) (fun i _ => L.length - (intOf i).toNat)
  case atStart => exact ⟨0, Nat.zero_le _, rfl, by simp, Below.refl _ _⟩
  case round =>
    obtain ⟨k, hk, rfl, hall, hb⟩ := hrel
    by_cases hlt : k < L.length
    · have hx := List.getElem?_eq_getElem hlt
      obtain ⟨a, rfl, h0, h1, h2, h3, _⟩ := (hr.below InsAt.keeps hb) k _ hx
      generalize L[k] = x at *
      have HS := hide (all_take_succ (insOk L.length) L k x hx)
      have HA := hide hall
      have HX := hide hx
      clear hall hx
      go_wp2_with fail
      refine (rins_any _ _ _ _ _ _).mono ?_
      cases hq : insB x.1 x.2.1 x.2.2.1 x.2.2.2 L.length
      · have HF := hide (progB_no (all_fail (insOk L.length) L k x HX.out hq))
        rintro e w1 ⟨rfl, hb1⟩
        clear hq
        go_wp2
        go_ret
        exact ⟨ret_bool HF.out.symm, below_after hb hb1⟩
      · have HQ := hide hq
        rintro e w1 ⟨rfl, hb1⟩
        clear hq
        go_wp2
        go_roundw
        case rel => exact ⟨k + 1, by omega, by go_num, by rw [HS.out, HA.out]; exact HQ.out, below_after hb hb1⟩
        case measure => simp [intOf]; omega
    · obtain rfl : k = L.length := by omega
      have HA := hide (progB_yes (all_take_all _ _ hall))
      clear hall
      go_wp2
      all_goals
        go_ret
        exact ⟨ret_bool (by rw [HA.out, Bool.eq_iff_iff]; simp; try omega), hb⟩
theorem right_any (A : Option Addr) (n c : Nat) (x : Ins4) (g : Nat) (w : World) (hg : w.cell? ⟨g, 0, none⟩ = some (.slice A n c)) (hn : n ≤ c) (hc : c ≤ 9223372036854775807) :
    Calls Try.prog 78 #[.agg #[.int .i64 x.1, .int .i64 x.2.1, .int .i64 x.2.2.1, .int .i64 x.2.2.2], .pointer (some ⟨g, 0, none⟩)] w fun e w' => e = .returned (.bool (insOk n x)) ∧ Below w.heap.size w w' := by
  have hg1 := keepc ((Below.refl w.heap.size w).alloc (Nat.le_refl _) (.cells #[.int .i64 x.1, .int .i64 x.2.1, .int .i64 x.2.2.1, .int .i64 x.2.2.2] 34)) hg
  go_enter Try.func78, Try.ntmps78
  go_wp2_with fail
  refine (ins_any _ _ _ _ _ _).mono ?_
  rintro e w1 ⟨rfl, hb1⟩
  go_wp2
  go_ret
  exact ⟨rfl, below_after ((Below.refl _ _).alloc (Nat.le_refl _) _) hb1⟩
theorem program_any (s : Sl Ins4) (w : World) (h : s.At InsAt 4 w) : Calls Try.prog 30 #[s.val] w fun e w' => e = .returned (.bool (progB s.L)) ∧ Below w.heap.size w w' := by
  obtain ⟨A, c, L⟩ := s
  obtain ⟨hr, hn, hc⟩ := h
  simp only [Sl.val] at *
  go_enter Try.func30, Try.ntmps30
  go_wp2_with fail
  go_loopw [9] (fun i wr => PRel w L i wr ∧ Blk wr w.heap.size 38 #[.slice A L.length c]) (fun i _ => L.length - (intOf i).toNat)
  case atStart => exact ⟨⟨0, Nat.zero_le _, rfl, by simp, (Below.refl _ _).alloc (Nat.le_refl _) _⟩, Blk.new w _ _⟩
  case round =>
    obtain ⟨⟨k, hk, rfl, hall, hb⟩, hB⟩ := hrel
    by_cases hlt : k < L.length
    · have hx := List.getElem?_eq_getElem hlt
      obtain ⟨a, rfl, h0, h1, h2, h3, _⟩ := (hr.below InsAt.keeps hb) k _ hx
      generalize L[k] = x at *
      have HS := hide (all_take_succ (insOk L.length) L k x hx)
      have HA := hide hall
      have HX := hide hx
      clear hall hx
      have hp := hB.cell 0
      have hpf := hB.frozen 0
      have hb0 := hb.alloc hb.size (.cells #[.int .i64 x.1, .int .i64 x.2.1, .int .i64 x.2.2.1, .int .i64 x.2.2.2] 34)
      have hB0 := hB.alloc (.cells #[.int .i64 x.1, .int .i64 x.2.1, .int .i64 x.2.2.1, .int .i64 x.2.2.2] 34)
      go_wp2_with fail
      refine (right_any _ L.length c x _ _ (hB0.cell 0) hn hc).mono ?_
      cases hq : insOk L.length x
      · have HF := hide (progB_no (all_fail (insOk L.length) L k x HX.out hq))
        rintro e w1 ⟨rfl, hb1⟩
        clear hq
        go_wp2
        go_ret
        exact ⟨ret_bool HF.out.symm, below_after hb0 hb1⟩
      · have HQ := hide hq
        rintro e w1 ⟨rfl, hb1⟩
        have hB1 := hB0.below hb1 hB0.lt
        have hb2 := below_after hb0 hb1
        clear hq
        go_wp2
        go_roundw
        case rel => exact ⟨⟨k + 1, by omega, by go_num, by rw [HS.out, HA.out]; exact HQ.out, hb2⟩, hB1⟩
        case measure => simp [intOf]; omega
    · obtain rfl : k = L.length := by omega
      have HA := hide (progB_yes (all_take_all _ _ hall))
      have hp := hB.cell 0
      clear hall
      go_wp2
      all_goals
        go_ret
        exact ⟨ret_bool (by rw [HA.out, Bool.eq_iff_iff]; simp; try omega), hb⟩

def posB (d : Nat) : Bool := decide (¬ isNan d ∧ 0 < skey d)
def lpB (np : Nat) (x : LP2) : Bool := decide (0 ≤ x.1 ∧ x.1 < np ∧ x.2.L.length ≤ 8)
def initB (nl : Nat) (x : Init3) : Bool := decide (¬ isNan x.1 ∧ 0 ≤ x.2.1 ∧ x.2.1 < nl)
def countsB (m : Mdl) : Bool := decide (1 ≤ m.ll.L.length ∧ m.ll.L.length ≤ 6 ∧ 1 ≤ m.pl.L.length ∧ m.pl.L.length ≤ 4 ∧ 1 ≤ m.dl.L.length ∧ m.dl.L.length ≤ 8 ∧ m.il.L.length ≤ 16)
def chkB (m : Mdl) : Bool := countsB m && !decide (isNan m.fin) && m.dl.L.all posB && m.pl.L.all (fun p => progB p.L) && m.ll.L.all (lpB m.pl.L.length) && m.il.L.all (initB m.ll.L.length)
def chkE (m : Mdl) : Int := if chkB m then 0 else 15
theorem within_any (n a b : Int) (w : World) : Calls Try.prog 31 #[.int .i64 n, .int .i64 a, .int .i64 b] w fun e w' => e = .returned (.bool (decide (a ≤ n ∧ n ≤ b))) ∧ w = w' := by
  go_enter Try.func31, Try.ntmps31
  go_wp2
  all_goals
    go_ret
    exact ⟨ret_bool (by rw [Bool.eq_iff_iff]; simp; try omega), rfl⟩
theorem counts_any (m : Mdl) (w : World) (h : m.At w) : Calls Try.prog 28 #[m.val] w fun e w' => e = .returned (.bool (countsB m)) ∧ Below w.heap.size w w' := by
  obtain ⟨seed, fin, ⟨dA, dc, dl⟩, ⟨pA, pc, pl⟩, ⟨lA, lc, ll⟩, ⟨iA, ic, il⟩⟩ := m
  obtain ⟨_, _, ⟨_, d1, d2⟩, ⟨_, p1, p2⟩, ⟨_, l1, l2⟩, ⟨_, i1, i2⟩⟩ := h
  simp only [Sl.val, Mdl.val] at *
  have hd : dl.length ≤ 9223372036854775807 := by omega
  have hp : pl.length ≤ 9223372036854775807 := by omega
  have hl : ll.length ≤ 9223372036854775807 := by omega
  have hi : il.length ≤ 9223372036854775807 := by omega
  go_enter Try.func28, Try.ntmps28
  go_wp2
  all_goals
    go_ret
    exact ⟨ret_bool (by unfold countsB; rw [Bool.eq_iff_iff]; simp; try omega), (Below.refl _ _).alloc (Nat.le_refl _) _⟩
def ChkRel {α : Type} (w : World) (M : Array Value) (b0 : Bool) (f : α → Bool) (L : List α) (r i : Value) (wr : World) : Prop :=
  ∃ k : Nat, k ≤ L.length ∧ i = .int .i64 k ∧ r = .bool (b0 && (L.take k).all f) ∧ Below w.heap.size w wr ∧ Blk wr w.heap.size 28 M
theorem chk_step {α : Type} {R : Bool} {f : α → Bool} {L : List α} {k : Nat} {x : α} {q : Bool} (hx : L[k]? = some x) (hq : (R && (L.take k).all f) = q) : (R && (L.take (k + 1)).all f) = (q && f x) := by
  rw [all_take_succ f L k x hx, ← hq, Bool.and_assoc]
theorem chk_end {α : Type} {R : Bool} {f : α → Bool} {L : List α} : (R && (L.take L.length).all f) = (R && L.all f) := by rw [List.take_length]
attribute [local go_sem] run_store_float
set_option maxHeartbeats 1600000 in
theorem check_any (m : Mdl) (w : World) (h : m.At w) : Calls Try.prog 15 #[m.val] w fun e w' => e = .returned (.int .i64 (chkE m)) ∧ Below w.heap.size w w' := by
  have hcc := counts_any m _ (h.below ((Below.refl _ _).alloc (Nat.le_refl _) (.cells #[.int .i64 m.seed, .float .f64 m.fin, m.dl.val, m.pl.val, m.ll.val, m.il.val] 28)))
  have HE := hide (show chkE m = if chkB m then 0 else 15 from rfl)
  have HB := hide (show chkB m = (countsB m && !decide (isNan m.fin) && m.dl.L.all posB && m.pl.L.all (fun p => progB p.L) && m.ll.L.all (lpB m.pl.L.length) && m.il.L.all (initB m.ll.L.length)) from rfl)
  generalize chkE m = E at *
  generalize chkB m = B at *
  generalize countsB m = b0 at *
  obtain ⟨seed, fin, ⟨dA, dc, dl⟩, ⟨pA, pc, pl⟩, ⟨lA, lc, ll⟩, ⟨iA, ic, il⟩⟩ := m
  obtain ⟨_, _, ⟨dr, d1, d2⟩, ⟨pr, p1, p2⟩, ⟨lr, l1, l2⟩, ⟨ir, i1, i2⟩⟩ := h
  simp only [Sl.val, Mdl.val] at *
  obtain ⟨R1, hR1⟩ : ∃ R, R = (b0 && !decide (isNan fin)) := ⟨_, rfl⟩
  have HR1 := hide hR1
  rw [← hR1] at HB
  clear hR1
  go_enter Try.func15, Try.ntmps15
  go_wp2_with fail
  refine hcc.mono ?_
  clear hcc
  rintro e w1 ⟨rfl, hb⟩
  have hX := (Blk.new w 28 #[.int .i64 seed, .float .f64 fin, .slice dA dl.length dc, .slice pA pl.length pc, .slice lA ll.length lc, .slice iA il.length ic]).below hb (by simp)
  have hb1 := below_after ((Below.refl _ _).alloc (Nat.le_refl _) _) hb
  clear hb
  obtain ⟨c0, c1, c2, c3, c4, c5⟩ : w1.cell? ⟨w.heap.size, 0, none⟩ = _ ∧ w1.cell? ⟨w.heap.size, 1, none⟩ = _ ∧ w1.cell? ⟨w.heap.size, 2, none⟩ = _ ∧ w1.cell? ⟨w.heap.size, 3, none⟩ = _ ∧ w1.cell? ⟨w.heap.size, 4, none⟩ = _ ∧ w1.cell? ⟨w.heap.size, 5, none⟩ = _ := ⟨hX.cell 0, hX.cell 1, hX.cell 2, hX.cell 3, hX.cell 4, hX.cell 5⟩
  cases b0
  · go_wp2_with fail
    clear c0 c1 c2 c3 c4 c5
    go_loopw [3, 23] (fun r i wr => ChkRel w #[.int .i64 seed, .float .f64 fin, .slice dA dl.length dc, .slice pA pl.length pc, .slice lA ll.length lc, .slice iA il.length ic] R1 posB dl r i wr) (fun _ i _ => dl.length - (intOf i).toNat)
    case atStart => exact ⟨0, Nat.zero_le _, rfl, by rw [HR1.out]; simp, hb1, hX⟩
    case round =>
      clear hb1 hX
      obtain ⟨k, hk, rfl, rfl, hb, hX⟩ := hrel
      by_cases hlt : k < dl.length
      · have hx := List.getElem?_eq_getElem hlt
        obtain ⟨a, rfl, h0, _⟩ := (dr.below FlAt.keeps hb) k _ hx
        rw [Nat.mul_one] at h0
        generalize dl[k] = x at *
        generalize hq : (R1 && (dl.take k).all posB) = q
        have HS := hide (chk_step hx hq)
        clear hx hq
        cases q
        · go_wp2_with fail
          go_roundw
          case rel => exact ⟨k + 1, by omega, by go_num, by rw [HS.out]; rfl, hb, hX⟩
          case measure => simp [intOf]; omega
        · have hp : posB x = decide (¬ isNan x ∧ 0 < skey x) := rfl
          by_cases hn : isNan x
          · have HF := hide (show posB x = false by rw [hp]; simp [hn])
            clear hp
            go_wp2_with fail
            refine (isnan_any _ _).mono ?_
            rw [decide_eq_true hn]
            rintro e w' ⟨rfl, rfl⟩
            clear hn
            go_wp2_with fail
            go_roundw
            case rel => exact ⟨k + 1, by omega, by go_num, by rw [HS.out, HF.out]; rfl, hb, hX⟩
            case measure => simp [intOf]; omega
          · have fw := fo_ways x 0 hn zero_num
            rw [skey_zero] at fw
            have HP : Hid (posB x = decide (0 < skey x)) := hide (by rw [hp]; simp [hn])
            clear hp
            rcases fw with ⟨hs, ho⟩ | ⟨hs, ho⟩ | ⟨hs, ho⟩
            all_goals
              have HF := hide (HP.out.trans (Eq.refl (decide (0 < skey x))))
              go_wp2_with fail
              refine (isnan_any _ _).mono ?_
              rw [decide_eq_false hn]
              rintro e w' ⟨rfl, rfl⟩
              go_wp2_with fail
              go_roundw
              case rel => exact ⟨k + 1, by omega, by go_num, by rw [HS.out, HF.out]; simp; omega, hb, hX⟩
              case measure => simp [intOf]; omega
      · obtain rfl : k = dl.length := by omega
        obtain ⟨c0, c1, c2, c3, c4, c5⟩ : wr.cell? ⟨w.heap.size, 0, none⟩ = _ ∧ wr.cell? ⟨w.heap.size, 1, none⟩ = _ ∧ wr.cell? ⟨w.heap.size, 2, none⟩ = _ ∧ wr.cell? ⟨w.heap.size, 3, none⟩ = _ ∧ wr.cell? ⟨w.heap.size, 4, none⟩ = _ ∧ wr.cell? ⟨w.heap.size, 5, none⟩ = _ := ⟨hX.cell 0, hX.cell 1, hX.cell 2, hX.cell 3, hX.cell 4, hX.cell 5⟩
        rw [chk_end]
        obtain ⟨R2, hR2⟩ : ∃ R, R = (R1 && dl.all posB) := ⟨_, rfl⟩
        rw [← hR2]
        rw [← hR2] at HB
        clear hR2
        go_wp2_with fail
        clear c0 c1 c2 c3 c4 c5
        have hb1 := hb
        have hX1 := hX
        clear hb hX
        go_loopw [3, 41] (fun r i wr => ChkRel w #[.int .i64 seed, .float .f64 fin, .slice dA dl.length dc, .slice pA pl.length pc, .slice lA ll.length lc, .slice iA il.length ic] R2 (fun p => progB p.L) pl r i wr) (fun _ i _ => pl.length - (intOf i).toNat)
        case atStart => exact ⟨0, Nat.zero_le _, rfl, by simp, hb1, hX1⟩
        case round =>
          clear hb1 hX1
          obtain ⟨k, hk, rfl, rfl, hb, hX⟩ := hrel
          by_cases hlt : k < pl.length
          · have hx := List.getElem?_eq_getElem hlt
            obtain ⟨a, rfl, h0, hs⟩ := (pr.below (SlAt.keeps InsAt.keeps 4) hb) k _ hx
            rw [Nat.mul_one] at h0
            generalize pl[k] = x at *
            generalize hq : (R2 && (pl.take k).all (fun p => progB p.L)) = q
            have HS := hide (chk_step hx hq)
            have hpa := program_any x wr hs
            clear hx hq hs
            obtain ⟨xA, xc, xl⟩ := x
            simp only [Sl.val] at h0 hpa
            cases q
            · go_wp2_with fail
              go_roundw
              case rel => exact ⟨k + 1, by omega, by go_num, by rw [HS.out]; rfl, hb, hX⟩
              case measure => simp [intOf]; omega
            · go_wp2_with fail
              refine hpa.mono ?_
              clear hpa
              rintro e w2 ⟨rfl, hb2⟩
              have hX2 := hX.below hb2 hX.lt
              have hb3 := below_after hb hb2
              go_wp2_with fail
              go_roundw
              case rel => exact ⟨k + 1, by omega, by go_num, by rw [HS.out]; rfl, hb3, hX2⟩
              case measure => simp [intOf]; omega
          · obtain rfl : k = pl.length := by omega
            obtain ⟨c0, c1, c2, c3, c4, c5⟩ : wr.cell? ⟨w.heap.size, 0, none⟩ = _ ∧ wr.cell? ⟨w.heap.size, 1, none⟩ = _ ∧ wr.cell? ⟨w.heap.size, 2, none⟩ = _ ∧ wr.cell? ⟨w.heap.size, 3, none⟩ = _ ∧ wr.cell? ⟨w.heap.size, 4, none⟩ = _ ∧ wr.cell? ⟨w.heap.size, 5, none⟩ = _ := ⟨hX.cell 0, hX.cell 1, hX.cell 2, hX.cell 3, hX.cell 4, hX.cell 5⟩
            rw [chk_end]
            obtain ⟨R3, hR3⟩ : ∃ R, R = (R2 && pl.all (fun p => progB p.L)) := ⟨_, rfl⟩
            rw [← hR3]
            rw [← hR3] at HB
            clear hR3
            go_wp2_with fail
            clear c0 c1 c2 c3 c4 c5
            have hb1 := hb
            have hX1 := hX
            clear hb hX
            go_loopw [3, 54] (fun r i wr => ChkRel w #[.int .i64 seed, .float .f64 fin, .slice dA dl.length dc, .slice pA pl.length pc, .slice lA ll.length lc, .slice iA il.length ic] R3 (lpB pl.length) ll r i wr) (fun _ i _ => ll.length - (intOf i).toNat)
            case atStart => exact ⟨0, Nat.zero_le _, rfl, by simp, hb1, hX1⟩
            case round =>
              clear hb1 hX1
              obtain ⟨k, hk, rfl, rfl, hb, hX⟩ := hrel
              by_cases hlt : k < ll.length
              · have hx := List.getElem?_eq_getElem hlt
                obtain ⟨a, rfl, h0, h1, _, hs⟩ := (lr.below LpAt.keeps hb) k _ hx
                generalize ll[k] = x at *
                generalize hq : (R3 && (ll.take k).all (lpB pl.length)) = q
                have HS := hide (chk_step hx hq)
                have hp : lpB pl.length x = decide (0 ≤ x.1 ∧ x.1 < pl.length ∧ x.2.L.length ≤ 8) := rfl
                obtain ⟨_, xn, xm⟩ := hs
                clear hx hq
                obtain ⟨p, ⟨xA, xc, xl⟩⟩ := x
                simp only [Sl.val] at *
                have hX0 := hX.alloc (.cells #[.int .i64 p, .slice xA xl.length xc] 41)
                have hb0 := hb.alloc hb.size (.cells #[.int .i64 p, .slice xA xl.length xc] 41)
                have c3 := hX0.cell 3
                cases q
                · go_wp2_with fail
                  go_roundw
                  case rel => exact ⟨k + 1, by omega, by go_num, by rw [HS.out]; rfl, hb0, hX0⟩
                  case measure => simp [intOf]; omega
                · by_cases hw1 : 0 ≤ p ∧ p < pl.length
                  · have HP : Hid (lpB pl.length (p, ⟨xA, xc, xl⟩) = decide (xl.length ≤ 8)) := hide (by rw [hp]; simp [hw1])
                    clear hp
                    go_wp2_with fail
                    refine (within_any _ _ _ _).mono ?_
                    rw [decide_eq_true (show 0 ≤ p ∧ p ≤ (pl.length : Int) - 1 by omega)]
                    rintro e w' ⟨rfl, rfl⟩
                    go_wp2_with fail
                    go_roundw
                    case rel => exact ⟨k + 1, by omega, by go_num, by rw [HS.out, HP.out]; simp; try omega, hb0, hX0⟩
                    case measure => simp [intOf]; omega
                  · have HP : Hid (lpB pl.length (p, ⟨xA, xc, xl⟩) = false) := hide (by rw [hp]; simp; omega)
                    clear hp
                    go_wp2_with fail
                    refine (within_any _ _ _ _).mono ?_
                    rw [decide_eq_false (show ¬ (0 ≤ p ∧ p ≤ (pl.length : Int) - 1) by omega)]
                    rintro e w' ⟨rfl, rfl⟩
                    go_wp2_with fail
                    go_roundw
                    case rel => exact ⟨k + 1, by omega, by go_num, by rw [HS.out, HP.out]; rfl, hb0, hX0⟩
                    case measure => simp [intOf]; omega
              · obtain rfl : k = ll.length := by omega
                obtain ⟨c0, c1, c2, c3, c4, c5⟩ : wr.cell? ⟨w.heap.size, 0, none⟩ = _ ∧ wr.cell? ⟨w.heap.size, 1, none⟩ = _ ∧ wr.cell? ⟨w.heap.size, 2, none⟩ = _ ∧ wr.cell? ⟨w.heap.size, 3, none⟩ = _ ∧ wr.cell? ⟨w.heap.size, 4, none⟩ = _ ∧ wr.cell? ⟨w.heap.size, 5, none⟩ = _ := ⟨hX.cell 0, hX.cell 1, hX.cell 2, hX.cell 3, hX.cell 4, hX.cell 5⟩
                rw [chk_end]
                obtain ⟨R4, hR4⟩ : ∃ R, R = (R3 && ll.all (lpB pl.length)) := ⟨_, rfl⟩
                rw [← hR4]
                rw [← hR4] at HB
                clear hR4
                go_wp2_with fail
                clear c0 c1 c2 c3 c4 c5
                have hb1 := hb
                have hX1 := hX
                clear hb hX
                go_loopw [3, 78] (fun r i wr => ChkRel w #[.int .i64 seed, .float .f64 fin, .slice dA dl.length dc, .slice pA pl.length pc, .slice lA ll.length lc, .slice iA il.length ic] R4 (initB ll.length) il r i wr) (fun _ i _ => il.length - (intOf i).toNat)
                case atStart => exact ⟨0, Nat.zero_le _, rfl, by simp, hb1, hX1⟩
                case round =>
                  clear hb1 hX1
                  obtain ⟨k, hk, rfl, rfl, hb, hX⟩ := hrel
                  by_cases hlt : k < il.length
                  · have hx := List.getElem?_eq_getElem hlt
                    obtain ⟨a, rfl, h0, h1, h2, _⟩ := (ir.below InitAt.keeps hb) k _ hx
                    generalize il[k] = x at *
                    generalize hq : (R4 && (il.take k).all (initB ll.length)) = q
                    have HS := hide (chk_step hx hq)
                    have hp : initB ll.length x = decide (¬ isNan x.1 ∧ 0 ≤ x.2.1 ∧ x.2.1 < ll.length) := rfl
                    clear hx hq
                    obtain ⟨t, d, pay⟩ := x
                    simp only at *
                    have hX0 := hX.alloc (.cells #[.float .f64 t, .int .i64 d, .int .i64 pay] 43)
                    have hb0 := hb.alloc hb.size (.cells #[.float .f64 t, .int .i64 d, .int .i64 pay] 43)
                    have c4 := hX0.cell 4
                    cases q
                    · go_wp2_with fail
                      go_roundw
                      case rel => exact ⟨k + 1, by omega, by go_num, by rw [HS.out]; rfl, hb0, hX0⟩
                      case measure => simp [intOf]; omega
                    · by_cases hn : isNan t
                      · have HP : Hid (initB ll.length (t, d, pay) = false) := hide (by rw [hp]; simp [hn])
                        clear hp
                        go_wp2_with fail
                        refine (isnan_any _ _).mono ?_
                        rw [decide_eq_true hn]
                        rintro e w' ⟨rfl, rfl⟩
                        go_wp2_with fail
                        go_roundw
                        case rel => exact ⟨k + 1, by omega, by go_num, by rw [HS.out, HP.out]; rfl, hb0, hX0⟩
                        case measure => simp [intOf]; omega
                      · have HP : Hid (initB ll.length (t, d, pay) = decide (0 ≤ d ∧ d ≤ (ll.length : Int) - 1)) := hide (by rw [hp, Bool.eq_iff_iff]; simp [hn]; omega)
                        clear hp
                        go_wp2_with fail
                        refine (isnan_any _ _).mono ?_
                        rw [decide_eq_false hn]
                        rintro e w' ⟨rfl, rfl⟩
                        go_wp2_with fail
                        refine (within_any _ _ _ _).mono ?_
                        rintro e w' ⟨rfl, rfl⟩
                        go_wp2_with fail
                        go_roundw
                        case rel => exact ⟨k + 1, by omega, by go_num, by rw [HS.out, HP.out]; simp, hb0, hX0⟩
                        case measure => simp [intOf]; omega
                  · obtain rfl : k = il.length := by omega
                    rw [chk_end]
                    obtain ⟨R5, hR5⟩ : ∃ R, R = (R4 && il.all (initB ll.length)) := ⟨_, rfl⟩
                    rw [← hR5]
                    rw [← hR5] at HB
                    clear hR5
                    cases R5
                    · go_wp2_with fail
                      go_ret
                      exact ⟨ret_int (by rw [HE.out, HB.out]; rfl), hb⟩
                    · go_wp2_with fail
                      go_ret
                      exact ⟨ret_int (by rw [HE.out, HB.out]; rfl), hb⟩
  · go_wp2_with fail
    refine (isnan_any _ _).mono ?_
    rintro e w' ⟨rfl, rfl⟩
    go_wp2_with fail
    clear c0 c1 c2 c3 c4 c5
    go_loopw [3, 23] (fun r i wr => ChkRel w #[.int .i64 seed, .float .f64 fin, .slice dA dl.length dc, .slice pA pl.length pc, .slice lA ll.length lc, .slice iA il.length ic] R1 posB dl r i wr) (fun _ i _ => dl.length - (intOf i).toNat)
    case atStart => exact ⟨0, Nat.zero_le _, rfl, by rw [HR1.out]; simp, hb1, hX⟩
    case round =>
      clear hb1 hX
      obtain ⟨k, hk, rfl, rfl, hb, hX⟩ := hrel
      by_cases hlt : k < dl.length
      · have hx := List.getElem?_eq_getElem hlt
        obtain ⟨a, rfl, h0, _⟩ := (dr.below FlAt.keeps hb) k _ hx
        rw [Nat.mul_one] at h0
        generalize dl[k] = x at *
        generalize hq : (R1 && (dl.take k).all posB) = q
        have HS := hide (chk_step hx hq)
        clear hx hq
        cases q
        · go_wp2_with fail
          go_roundw
          case rel => exact ⟨k + 1, by omega, by go_num, by rw [HS.out]; rfl, hb, hX⟩
          case measure => simp [intOf]; omega
        · have hp : posB x = decide (¬ isNan x ∧ 0 < skey x) := rfl
          by_cases hn : isNan x
          · have HF := hide (show posB x = false by rw [hp]; simp [hn])
            clear hp
            go_wp2_with fail
            refine (isnan_any _ _).mono ?_
            rw [decide_eq_true hn]
            rintro e w' ⟨rfl, rfl⟩
            clear hn
            go_wp2_with fail
            go_roundw
            case rel => exact ⟨k + 1, by omega, by go_num, by rw [HS.out, HF.out]; rfl, hb, hX⟩
            case measure => simp [intOf]; omega
          · have fw := fo_ways x 0 hn zero_num
            rw [skey_zero] at fw
            have HP : Hid (posB x = decide (0 < skey x)) := hide (by rw [hp]; simp [hn])
            clear hp
            rcases fw with ⟨hs, ho⟩ | ⟨hs, ho⟩ | ⟨hs, ho⟩
            all_goals
              have HF := hide (HP.out.trans (Eq.refl (decide (0 < skey x))))
              go_wp2_with fail
              refine (isnan_any _ _).mono ?_
              rw [decide_eq_false hn]
              rintro e w' ⟨rfl, rfl⟩
              go_wp2_with fail
              go_roundw
              case rel => exact ⟨k + 1, by omega, by go_num, by rw [HS.out, HF.out]; simp; omega, hb, hX⟩
              case measure => simp [intOf]; omega
      · obtain rfl : k = dl.length := by omega
        obtain ⟨c0, c1, c2, c3, c4, c5⟩ : wr.cell? ⟨w.heap.size, 0, none⟩ = _ ∧ wr.cell? ⟨w.heap.size, 1, none⟩ = _ ∧ wr.cell? ⟨w.heap.size, 2, none⟩ = _ ∧ wr.cell? ⟨w.heap.size, 3, none⟩ = _ ∧ wr.cell? ⟨w.heap.size, 4, none⟩ = _ ∧ wr.cell? ⟨w.heap.size, 5, none⟩ = _ := ⟨hX.cell 0, hX.cell 1, hX.cell 2, hX.cell 3, hX.cell 4, hX.cell 5⟩
        rw [chk_end]
        obtain ⟨R2, hR2⟩ : ∃ R, R = (R1 && dl.all posB) := ⟨_, rfl⟩
        rw [← hR2]
        rw [← hR2] at HB
        clear hR2
        go_wp2_with fail
        clear c0 c1 c2 c3 c4 c5
        have hb1 := hb
        have hX1 := hX
        clear hb hX
        go_loopw [3, 41] (fun r i wr => ChkRel w #[.int .i64 seed, .float .f64 fin, .slice dA dl.length dc, .slice pA pl.length pc, .slice lA ll.length lc, .slice iA il.length ic] R2 (fun p => progB p.L) pl r i wr) (fun _ i _ => pl.length - (intOf i).toNat)
        case atStart => exact ⟨0, Nat.zero_le _, rfl, by simp, hb1, hX1⟩
        case round =>
          clear hb1 hX1
          obtain ⟨k, hk, rfl, rfl, hb, hX⟩ := hrel
          by_cases hlt : k < pl.length
          · have hx := List.getElem?_eq_getElem hlt
            obtain ⟨a, rfl, h0, hs⟩ := (pr.below (SlAt.keeps InsAt.keeps 4) hb) k _ hx
            rw [Nat.mul_one] at h0
            generalize pl[k] = x at *
            generalize hq : (R2 && (pl.take k).all (fun p => progB p.L)) = q
            have HS := hide (chk_step hx hq)
            have hpa := program_any x wr hs
            clear hx hq hs
            obtain ⟨xA, xc, xl⟩ := x
            simp only [Sl.val] at h0 hpa
            cases q
            · go_wp2_with fail
              go_roundw
              case rel => exact ⟨k + 1, by omega, by go_num, by rw [HS.out]; rfl, hb, hX⟩
              case measure => simp [intOf]; omega
            · go_wp2_with fail
              refine hpa.mono ?_
              clear hpa
              rintro e w2 ⟨rfl, hb2⟩
              have hX2 := hX.below hb2 hX.lt
              have hb3 := below_after hb hb2
              go_wp2_with fail
              go_roundw
              case rel => exact ⟨k + 1, by omega, by go_num, by rw [HS.out]; rfl, hb3, hX2⟩
              case measure => simp [intOf]; omega
          · obtain rfl : k = pl.length := by omega
            obtain ⟨c0, c1, c2, c3, c4, c5⟩ : wr.cell? ⟨w.heap.size, 0, none⟩ = _ ∧ wr.cell? ⟨w.heap.size, 1, none⟩ = _ ∧ wr.cell? ⟨w.heap.size, 2, none⟩ = _ ∧ wr.cell? ⟨w.heap.size, 3, none⟩ = _ ∧ wr.cell? ⟨w.heap.size, 4, none⟩ = _ ∧ wr.cell? ⟨w.heap.size, 5, none⟩ = _ := ⟨hX.cell 0, hX.cell 1, hX.cell 2, hX.cell 3, hX.cell 4, hX.cell 5⟩
            rw [chk_end]
            obtain ⟨R3, hR3⟩ : ∃ R, R = (R2 && pl.all (fun p => progB p.L)) := ⟨_, rfl⟩
            rw [← hR3]
            rw [← hR3] at HB
            clear hR3
            go_wp2_with fail
            clear c0 c1 c2 c3 c4 c5
            have hb1 := hb
            have hX1 := hX
            clear hb hX
            go_loopw [3, 54] (fun r i wr => ChkRel w #[.int .i64 seed, .float .f64 fin, .slice dA dl.length dc, .slice pA pl.length pc, .slice lA ll.length lc, .slice iA il.length ic] R3 (lpB pl.length) ll r i wr) (fun _ i _ => ll.length - (intOf i).toNat)
            case atStart => exact ⟨0, Nat.zero_le _, rfl, by simp, hb1, hX1⟩
            case round =>
              clear hb1 hX1
              obtain ⟨k, hk, rfl, rfl, hb, hX⟩ := hrel
              by_cases hlt : k < ll.length
              · have hx := List.getElem?_eq_getElem hlt
                obtain ⟨a, rfl, h0, h1, _, hs⟩ := (lr.below LpAt.keeps hb) k _ hx
                generalize ll[k] = x at *
                generalize hq : (R3 && (ll.take k).all (lpB pl.length)) = q
                have HS := hide (chk_step hx hq)
                have hp : lpB pl.length x = decide (0 ≤ x.1 ∧ x.1 < pl.length ∧ x.2.L.length ≤ 8) := rfl
                obtain ⟨_, xn, xm⟩ := hs
                clear hx hq
                obtain ⟨p, ⟨xA, xc, xl⟩⟩ := x
                simp only [Sl.val] at *
                have hX0 := hX.alloc (.cells #[.int .i64 p, .slice xA xl.length xc] 41)
                have hb0 := hb.alloc hb.size (.cells #[.int .i64 p, .slice xA xl.length xc] 41)
                have c3 := hX0.cell 3
                cases q
                · go_wp2_with fail
                  go_roundw
                  case rel => exact ⟨k + 1, by omega, by go_num, by rw [HS.out]; rfl, hb0, hX0⟩
                  case measure => simp [intOf]; omega
                · by_cases hw1 : 0 ≤ p ∧ p < pl.length
                  · have HP : Hid (lpB pl.length (p, ⟨xA, xc, xl⟩) = decide (xl.length ≤ 8)) := hide (by rw [hp]; simp [hw1])
                    clear hp
                    go_wp2_with fail
                    refine (within_any _ _ _ _).mono ?_
                    rw [decide_eq_true (show 0 ≤ p ∧ p ≤ (pl.length : Int) - 1 by omega)]
                    rintro e w' ⟨rfl, rfl⟩
                    go_wp2_with fail
                    go_roundw
                    case rel => exact ⟨k + 1, by omega, by go_num, by rw [HS.out, HP.out]; simp; try omega, hb0, hX0⟩
                    case measure => simp [intOf]; omega
                  · have HP : Hid (lpB pl.length (p, ⟨xA, xc, xl⟩) = false) := hide (by rw [hp]; simp; omega)
                    clear hp
                    go_wp2_with fail
                    refine (within_any _ _ _ _).mono ?_
                    rw [decide_eq_false (show ¬ (0 ≤ p ∧ p ≤ (pl.length : Int) - 1) by omega)]
                    rintro e w' ⟨rfl, rfl⟩
                    go_wp2_with fail
                    go_roundw
                    case rel => exact ⟨k + 1, by omega, by go_num, by rw [HS.out, HP.out]; rfl, hb0, hX0⟩
                    case measure => simp [intOf]; omega
              · obtain rfl : k = ll.length := by omega
                obtain ⟨c0, c1, c2, c3, c4, c5⟩ : wr.cell? ⟨w.heap.size, 0, none⟩ = _ ∧ wr.cell? ⟨w.heap.size, 1, none⟩ = _ ∧ wr.cell? ⟨w.heap.size, 2, none⟩ = _ ∧ wr.cell? ⟨w.heap.size, 3, none⟩ = _ ∧ wr.cell? ⟨w.heap.size, 4, none⟩ = _ ∧ wr.cell? ⟨w.heap.size, 5, none⟩ = _ := ⟨hX.cell 0, hX.cell 1, hX.cell 2, hX.cell 3, hX.cell 4, hX.cell 5⟩
                rw [chk_end]
                obtain ⟨R4, hR4⟩ : ∃ R, R = (R3 && ll.all (lpB pl.length)) := ⟨_, rfl⟩
                rw [← hR4]
                rw [← hR4] at HB
                clear hR4
                go_wp2_with fail
                clear c0 c1 c2 c3 c4 c5
                have hb1 := hb
                have hX1 := hX
                clear hb hX
                go_loopw [3, 78] (fun r i wr => ChkRel w #[.int .i64 seed, .float .f64 fin, .slice dA dl.length dc, .slice pA pl.length pc, .slice lA ll.length lc, .slice iA il.length ic] R4 (initB ll.length) il r i wr) (fun _ i _ => il.length - (intOf i).toNat)
                case atStart => exact ⟨0, Nat.zero_le _, rfl, by simp, hb1, hX1⟩
                case round =>
                  clear hb1 hX1
                  obtain ⟨k, hk, rfl, rfl, hb, hX⟩ := hrel
                  by_cases hlt : k < il.length
                  · have hx := List.getElem?_eq_getElem hlt
                    obtain ⟨a, rfl, h0, h1, h2, _⟩ := (ir.below InitAt.keeps hb) k _ hx
                    generalize il[k] = x at *
                    generalize hq : (R4 && (il.take k).all (initB ll.length)) = q
                    have HS := hide (chk_step hx hq)
                    have hp : initB ll.length x = decide (¬ isNan x.1 ∧ 0 ≤ x.2.1 ∧ x.2.1 < ll.length) := rfl
                    clear hx hq
                    obtain ⟨t, d, pay⟩ := x
                    simp only at *
                    have hX0 := hX.alloc (.cells #[.float .f64 t, .int .i64 d, .int .i64 pay] 43)
                    have hb0 := hb.alloc hb.size (.cells #[.float .f64 t, .int .i64 d, .int .i64 pay] 43)
                    have c4 := hX0.cell 4
                    cases q
                    · go_wp2_with fail
                      go_roundw
                      case rel => exact ⟨k + 1, by omega, by go_num, by rw [HS.out]; rfl, hb0, hX0⟩
                      case measure => simp [intOf]; omega
                    · by_cases hn : isNan t
                      · have HP : Hid (initB ll.length (t, d, pay) = false) := hide (by rw [hp]; simp [hn])
                        clear hp
                        go_wp2_with fail
                        refine (isnan_any _ _).mono ?_
                        rw [decide_eq_true hn]
                        rintro e w' ⟨rfl, rfl⟩
                        go_wp2_with fail
                        go_roundw
                        case rel => exact ⟨k + 1, by omega, by go_num, by rw [HS.out, HP.out]; rfl, hb0, hX0⟩
                        case measure => simp [intOf]; omega
                      · have HP : Hid (initB ll.length (t, d, pay) = decide (0 ≤ d ∧ d ≤ (ll.length : Int) - 1)) := hide (by rw [hp, Bool.eq_iff_iff]; simp [hn]; omega)
                        clear hp
                        go_wp2_with fail
                        refine (isnan_any _ _).mono ?_
                        rw [decide_eq_false hn]
                        rintro e w' ⟨rfl, rfl⟩
                        go_wp2_with fail
                        refine (within_any _ _ _ _).mono ?_
                        rintro e w' ⟨rfl, rfl⟩
                        go_wp2_with fail
                        go_roundw
                        case rel => exact ⟨k + 1, by omega, by go_num, by rw [HS.out, HP.out]; simp, hb0, hX0⟩
                        case measure => simp [intOf]; omega
                  · obtain rfl : k = il.length := by omega
                    rw [chk_end]
                    obtain ⟨R5, hR5⟩ : ∃ R, R = (R4 && il.all (initB ll.length)) := ⟨_, rfl⟩
                    rw [← hR5]
                    rw [← hR5] at HB
                    clear hR5
                    cases R5
                    · go_wp2_with fail
                      go_ret
                      exact ⟨ret_int (by rw [HE.out, HB.out]; rfl), hb⟩
                    · go_wp2_with fail
                      go_ret
                      exact ⟨ret_int (by rw [HE.out, HB.out]; rfl), hb⟩
end Go.Proofs.Ytegegljpmelomaa
