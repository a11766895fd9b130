/- The walk of the law ActBegins. No condition. -/
import Derived.Test.YtpfcmfannkbipaaHan8
import Derived.Test.YtpfcmfannkbipaaAw8c
import Derived.Deep.RegionHeld3
set_option linter.unusedVariables false
set_option linter.unusedSimpArgs false
set_option maxRecDepth 20000
namespace Go.Proofs.Ytpfcmfannkbipaa
open Go.RowKit Go.Deep

attribute [local go_sem] run_store_float
def BegW (w : World) (m : Mdl) (e : Ending) (w' : World) : Prop := ∃ q : Sl Ev, e = .returned (.tuple #[q.val, .int .i64 (chkE m)]) ∧ q.L = begR m ∧ q.At EvB 5 w' ∧ Below w.heap.size w w'
theorem begw_any (m : Mdl) (w : World) (hm : m.At w) : Calls Try.prog 50 #[m.val] w (BegW w m) := by
  refine (begin8_any m w hm).mono ?_
  rintro e w' ⟨q, rfl, hL, ho, hb⟩
  exact ⟨q, rfl, hL, own_evb ho, hb⟩
def RBegW (w : World) (m : Mdl) (e : Ending) (w' : World) : Prop := ∃ q : Sl Ev, e = .returned q.val ∧ q.L = begV m.fin 0 m.il.L ∧ q.At EvB 5 w' ∧ Below w.heap.size w w'
theorem rbegw_any (m : Mdl) (w : World) (hm : m.At w) (hc : chkB m = true) : Calls Try.prog 52 #[m.val] w (RBegW w m) := by
  refine (rbegin_any m w hm hc).mono ?_
  rintro e w' ⟨q, rfl, hL, ho, hb⟩
  exact ⟨q, rfl, hL, own_evb ho, hb⟩
theorem mwd_i64 {m : Mdl} {w : World} (hm : m.At w) (lp : Int) : ∀ z ∈ mwd m lp, I64 z := by
  unfold mwd
  cases hx : m.ll.L[lp.toNat]? with
  | none => intro z hz; simp at hz
  | some x =>
    obtain ⟨a, ha, a0, a1, _, hxA⟩ := hm.2.2.2.2.1.1 _ x hx
    exact sl_ints hxA
theorem firR_i64 {m : Mdl} {w : World} (hm : m.At w) (lp : Int) : ∀ z ∈ (firR m lp).1, I64 z := by
  unfold firR
  split
  · exact mwd_i64 hm lp
  · intro z hz; simp at hz
def FirW (w : World) (L : List Int) (E : Int) (e : Ending) (w' : World) : Prop := ∃ (A : Option Addr) (k : Nat), e = .returned (.tuple #[.agg #[.slice A L.length k, .int .i64 0, .int .i64 0], .int .i64 E]) ∧ Sl.At IntAt 1 w' ⟨A, k, L⟩ ∧ Below w.heap.size w w'
theorem firw_any (m : Mdl) (lp : Int) (w : World) (hm : m.At w) : Calls Try.prog 51 #[m.val, .int .i64 lp] w (FirW w (firR m lp).1 (firE m lp)) := by
  refine (first_any m lp w hm).mono ?_
  rintro e w' ⟨A, k, rfl, ho, hb⟩
  exact ⟨A, k, rfl, OwnR.sl (size := 1) (s := ⟨A, k, (firR m lp).1⟩) (by decide) (fun _ => rfl) makes_int ho (firR_i64 hm lp), hb⟩
def RFirW (w : World) (L : List Int) (e : Ending) (w' : World) : Prop := ∃ (A : Option Addr) (k : Nat), e = .returned (.agg #[.slice A L.length k, .int .i64 0, .int .i64 0]) ∧ Sl.At IntAt 1 w' ⟨A, k, L⟩ ∧ Below w.heap.size w w'
theorem rfirw_any (m : Mdl) (k : Nat) (w : World) (hm : m.At w) (hc : chkB m = true) (hlp : k < m.ll.L.length) : Calls Try.prog 53 #[m.val, .int .i64 k] w (RFirW w (mwd m k)) := by
  refine (rfirst_any m k w hm hc hlp).mono ?_
  rintro e w' ⟨A, c, rfl, ho, hb⟩
  exact ⟨A, c, rfl, OwnR.sl (size := 1) (s := ⟨A, c, mwd m k⟩) (by decide) (fun _ => rfl) makes_int ho (mwd_i64 hm k), hb⟩
/-- Worlds in which two boxes stand, a row of events and a row of words. -/
structure BgW (w : World) (g1 g2 : Nat) (c1 c2 : Array Value) (q : Sl Ev) (s : Sl Int) (W : World) : Prop where
  b : Below w.heap.size w W
  x : Blk W g1 58 c1
  y : Blk W g2 61 c2
  q : q.At EvB 5 W
  s : s.At IntAt 1 W
theorem BgW.hidden (w : World) (g1 g2 : Nat) (c1 c2 : Array Value) (q : Sl Ev) (s : Sl Int) (W0 : World) (h : BgW w g1 g2 c1 c2 q s W0) :
    ∃ p : World → Prop, Outlives p ∧ p W0 ∧ Nonempty (Wo p) ∧ ∀ i : Wo p, BgW w g1 g2 c1 c2 q s i.W :=
  ⟨BgW w g1 g2 c1 c2 q s, fun _ _ h hb => ⟨below_after h.b hb, h.x.below hb h.x.lt, h.y.below hb h.y.lt, h.q.below EvB.keeps hb, h.s.below IntAt.keeps hb⟩, h, ⟨⟨W0, h⟩⟩, fun i => i.ok⟩
theorem BgW.next {w W W' : World} {g1 g2 : Nat} {c1 c2 : Array Value} {q : Sl Ev} {s : Sl Int} (h : BgW w g1 g2 c1 c2 q s W) (hb : Below W.heap.size W W') : BgW w g1 g2 c1 c2 q s W' :=
  ⟨below_after h.b hb, h.x.below hb h.x.lt, h.y.below hb h.y.lt, h.q.below EvB.keeps hb, h.s.below IntAt.keeps hb⟩
set_option maxHeartbeats 4000000 in
theorem begins_walk (m : Mdl) (lp : Int) (w : World) (h : m.At w) : Calls Try.prog 13 #[m.val, .int .i64 lp] w fun e w' => e = .returned (.bool true) ∧ Below w.heap.size w w' := by
  have hX := Blk.new w 58 #[.int .i64 m.seed, .float .f64 m.fin, m.dl.val, m.pl.val, m.ll.val, m.il.val]
  have hb0 : Below w.heap.size w (w.alloc (.cells #[.int .i64 m.seed, .float .f64 m.fin, m.dl.val, m.pl.val, m.ll.val, m.il.val] 58)) := (Below.refl _ _).alloc (Nat.le_refl _) _
  have HLI := hide (L08.light_any m _ (h.below hb0))
  have HCK := hide (fun W (hb : Below w.heap.size w W) => rcheck_any m W (h.below hb))
  have HBE := hide (fun W (hb : Below w.heap.size w W) => begw_any m W (h.below hb))
  have HFI := hide (fun W (hb : Below w.heap.size w W) => firw_any m lp W (h.below hb))
  have HRB := hide (fun (hc : chkB m = true) W (hb : Below w.heap.size w W) => rbegw_any m W (h.below hb) hc)
  have HRF := hide (fun (hc : chkB m = true) k (hk : lp = ((k : Nat) : Int)) (hl : k < m.ll.L.length) W (hb : Below w.heap.size w W) => (show Calls Try.prog 53 #[m.val, .int .i64 lp] W (RFirW W (mwd m lp)) from by rw [hk]; exact rfirw_any m k W (h.below hb) hc hl))
  have HZ := hide (fun (hc : chkB m = false) => (show begR m = [] ∧ firE m lp = 15 ∧ (firR m lp).1 = [] from by
    have h1 : firE m lp = 15 := by unfold firE; rw [hc]; rfl
    refine ⟨by unfold begR; rw [hc]; rfl, h1, ?_⟩
    unfold firR
    rw [if_neg (by rw [h1]; decide)]))
  have HY := hide (fun (hc : chkB m = true) => (show begR m = begV m.fin 0 m.il.L ∧ (¬ (0 ≤ lp ∧ lp < (m.ll.L.length : Int)) → firE m lp = 2) ∧ ((0 ≤ lp ∧ lp < (m.ll.L.length : Int)) → firE m lp = 0 ∧ (firR m lp).1 = mwd m lp) from by
    refine ⟨by unfold begR; rw [hc]; rfl, fun hn => by unfold firE; rw [if_pos hc, if_neg hn], fun hy => ?_⟩
    have h1 : firE m lp = 0 := by unfold firE; rw [if_pos hc, if_pos hy]
    refine ⟨h1, ?_⟩
    unfold firR
    rw [if_pos h1]))
  have hC := hide (show chkE m = if chkB m = true then 0 else 15 from rfl)
  have n1 : m.ll.L.length ≤ m.ll.c ∧ m.ll.c ≤ 9223372036854775807 := h.2.2.2.2.1.2
  unfold BegW at HBE
  unfold RBegW at HRB
  generalize begR m = BL at *
  generalize begV m.fin 0 m.il.L = BV at *
  generalize firE m lp = FE at *
  generalize (firR m lp).1 = r1 at *
  generalize mwd m lp = r2 at *
  generalize L08.lightB m = LB at *
  generalize hckb : chkB m = CB at *
  generalize chkE m = CE at *
  clear h hckb
  obtain ⟨seed, fin, dl, pl, ⟨lA, lc, ll⟩, il⟩ := m
  simp only [Mdl.val] at *
  generalize hdv : dl.val = v2 at *
  generalize hpv : pl.val = v3 at *
  generalize hiv : il.val = v5 at *
  simp only [Sl.val] at *
  have q1 : ll.length ≤ 9223372036854775807 := by omega
  have HB := hide hb0
  clear hdv hpv hiv hb0 n1
  have x0 := hX.cell 0
  have x1 := hX.cell 1
  have x2 := hX.cell 2
  have x3 := hX.cell 3
  have x4 := hX.cell 4
  have x5 := hX.cell 5
  simp only [List.getElem?_toArray, List.getElem?_cons_zero, List.getElem?_cons_succ] at x0 x1 x2 x3 x4 x5
  go_enter Try.func13, Try.ntmps13
  go_upto_region 1 with fail
  generalize World.alloc w _ = w0 at *
  go_wp2_with fail
  refine HLI.out.mono ?_
  rintro e w1 ⟨rfl, hb1⟩
  clear x0 x1 x2 x3 x4 x5
  replace hX := hX.below hb1 hX.lt
  have hb2 := below_after HB.out hb1
  clear HB HLI hb1
  cases LB
  · clear HCK HBE HFI HRB HRF HZ HY hC hX
    have HB := hide hb2
    clear hb2
    go_wp2_with fail
    refine (awake08 _).mono ?_
    rintro e w2 ⟨rfl, hb1⟩
    have HE := hide (below_after HB.out hb1)
    clear hb1 HB
    go_wp2_with fail
    go_ret
    exact ⟨rfl, HE.out⟩
  · have HB := hide hb2
    have x0 := hX.cell 0
    have x1 := hX.cell 1
    have x2 := hX.cell 2
    have x3 := hX.cell 3
    have x4 := hX.cell 4
    have x5 := hX.cell 5
    simp only [List.getElem?_toArray, List.getElem?_cons_zero, List.getElem?_cons_succ] at x0 x1 x2 x3 x4 x5
    go_upto_region 3 with fail
    go_wp2_with fail
    refine (HBE.out _ HB.out).mono ?_
    rintro e w2 ⟨⟨qA, qc, qL⟩, rfl, hqL, hqA, hb3⟩
    replace hqL := hide hqL
    clear x0 x1 x2 x3 x4 x5
    replace hX := hX.below hb3 hX.lt
    replace hb2 := below_after HB.out hb3
    clear HB HBE hb3
    simp only [Sl.val]
    have HB := hide hb2
    have x0 := hX.cell 0
    have x1 := hX.cell 1
    have x2 := hX.cell 2
    have x3 := hX.cell 3
    have x4 := hX.cell 4
    have x5 := hX.cell 5
    simp only [List.getElem?_toArray, List.getElem?_cons_zero, List.getElem?_cons_succ] at x0 x1 x2 x3 x4 x5
    go_wp2_with fail
    refine (HFI.out _ HB.out).mono ?_
    rintro e w3 ⟨A, k, rfl, hwA, hb3⟩
    clear x0 x1 x2 x3 x4 x5
    replace hX := hX.below hb3 hX.lt
    replace hqA := hqA.below EvB.keeps hb3
    replace hb2 := below_after HB.out hb3
    clear HB HFI hb3
    have hS := Blk.new w3 61 #[.slice A r1.length k, .int .i64 0, .int .i64 0]
    replace hX := hX.alloc (.cells #[.slice A r1.length k, .int .i64 0, .int .i64 0] 61)
    have ha := (Below.refl w3.heap.size w3).alloc (Nat.le_refl _) (.cells #[.slice A r1.length k, .int .i64 0, .int .i64 0] 61)
    replace hqA := hqA.below EvB.keeps ha
    replace hwA := hwA.below IntAt.keeps ha
    have HB := hide (below_after hb2 ha)
    clear hb2 ha
    go_upto_region 5 with fail
    generalize World.alloc w3 _ = w4 at *
    generalize w3.heap.size = gS at *
    have x0 := hX.cell 0
    have x1 := hX.cell 1
    have x2 := hX.cell 2
    have x3 := hX.cell 3
    have x4 := hX.cell 4
    have x5 := hX.cell 5
    simp only [List.getElem?_toArray, List.getElem?_cons_zero, List.getElem?_cons_succ] at x0 x1 x2 x3 x4 x5
    go_wp2_with fail
    refine (HCK.out _ HB.out).mono ?_
    rintro e w5 ⟨rfl, hb3⟩
    clear x0 x1 x2 x3 x4 x5
    replace hX := hX.below hb3 hX.lt
    replace hS := hS.below hb3 hS.lt
    replace hqA := hqA.below EvB.keeps hb3
    replace hwA := hwA.below IntAt.keeps hb3
    have hb2 := below_after HB.out hb3
    clear HB HCK hb3
    have hzI := hide (show I64 0 from ⟨by decide, by decide⟩)
    cases CB
    · obtain rfl : CE = 15 := hC.out
      obtain ⟨z1, rfl, z3⟩ := HZ.out rfl
      subst z3
      have hq0 : qL = [] := hqL.out.trans z1
      subst hq0
      clear hqL
      have HB := hide hb2
      clear HZ HY hX hqA hb2 HRB HRF z1
      go_wp2_with fail
      refine (awake08 _).mono ?_
      rintro e w6 ⟨rfl, hb1⟩
      have HSA := hide (same8_any ⟨⟨A, k, []⟩, 0, 0⟩ ⟨⟨none, 0, []⟩, 0, 0⟩ w6 ⟨hwA.below IntAt.keeps hb1, hzI.out, hzI.out⟩ ⟨⟨fun i x hx => by simp at hx, Nat.le_refl 0, Nat.zero_le _⟩, hzI.out, hzI.out⟩)
      have HBS := hide (show sameP (St.pl ⟨⟨A, k, []⟩, 0, 0⟩) (St.pl ⟨⟨none, 0, []⟩, 0, 0⟩) = true from sameP_iff.2 rfl)
      rw [HBS.out] at HSA
      simp only [St.val, Sl.val] at HSA
      replace hS := hS.below hb1 hS.lt
      have HE := hide (below_after HB.out hb1)
      have s0 := hS.cell 0
      have s1 := hS.cell 1
      have s2 := hS.cell 2
      simp only [List.getElem?_toArray, List.getElem?_cons_zero, List.getElem?_cons_succ] at s0 s1 s2
      clear hb1 HB hwA hS HBS
      go_wp2_with fail
      refine HSA.out.mono ?_
      rintro e w7 ⟨rfl, hb1⟩
      have HE2 := hide (below_after HE.out hb1)
      clear hb1 HE
      go_wp2_with fail
      go_ret
      exact ⟨rfl, HE2.out⟩
    · obtain rfl : CE = 0 := hC.out
      obtain ⟨y1, y2, y3⟩ := HY.out rfl
      have hqL2 : qL = BV := hqL.out.trans y1
      subst hqL2
      clear hqL y1 HZ HY
      by_cases hlp : 0 ≤ lp ∧ lp < (ll.length : Int)
      · obtain ⟨rfl, y4⟩ := y3 hlp
        obtain ⟨kk, rfl⟩ : ∃ kk : Nat, lp = kk := ⟨lp.toNat, by omega⟩
        have d1 : decide ((kk : Int) < 0) = false := decide_eq_false (by omega)
        have d2 : decide ((ll.length : Int) ≤ (kk : Int)) = false := decide_eq_false (by omega)
        have d3 : decide (ll.length ≤ kk) = false := decide_eq_false (by omega)
        have d4 : kk < ll.length := by omega
        have HR1 := hide (HRB.out rfl)
        have HR2 := hide (HRF.out rfl kk rfl (by omega))
        subst y4
        clear HRB HRF y2 y3 hlp
        have x0 := hX.cell 0
        have x1 := hX.cell 1
        have x2 := hX.cell 2
        have x3 := hX.cell 3
        have x4 := hX.cell 4
        have x5 := hX.cell 5
        simp only [List.getElem?_toArray, List.getElem?_cons_zero, List.getElem?_cons_succ] at x0 x1 x2 x3 x4 x5
        go_upto_region 9 with fail
        clear x0 x1 x2 x3 x4 x5
        have hBW : BgW w w.heap.size gS #[.int .i64 seed, .float .f64 fin, v2, v3, .slice lA ll.length lc, v5] #[.slice A r1.length k, .int .i64 0, .int .i64 0] ⟨qA, qc, qL⟩ ⟨A, k, r1⟩ w5 := ⟨hb2, hX, hS, hqA, hwA⟩
        have HSS : Hid (∀ W', BgW w w.heap.size gS #[.int .i64 seed, .float .f64 fin, v2, v3, .slice lA ll.length lc, v5] #[.slice A r1.length k, .int .i64 0, .int .i64 0] ⟨qA, qc, qL⟩ ⟨A, k, r1⟩ W' → (W'.cell? ⟨w.heap.size, 0, none⟩ = some (.int .i64 seed) ∧ W'.cell? ⟨w.heap.size, 1, none⟩ = some (.float .f64 fin) ∧ W'.cell? ⟨w.heap.size, 2, none⟩ = some v2 ∧ W'.cell? ⟨w.heap.size, 3, none⟩ = some v3 ∧ W'.cell? ⟨w.heap.size, 4, none⟩ = some (.slice lA ll.length lc) ∧ W'.cell? ⟨w.heap.size, 5, none⟩ = some v5 ∧ W'.cell? ⟨gS, 0, none⟩ = some (.slice A r1.length k) ∧ W'.cell? ⟨gS, 1, none⟩ = some (.int .i64 0) ∧ W'.cell? ⟨gS, 2, none⟩ = some (.int .i64 0) ∧ BgW w w.heap.size gS #[.int .i64 seed, .float .f64 fin, v2, v3, .slice lA ll.length lc, v5] #[.slice A r1.length k, .int .i64 0, .int .i64 0] ⟨qA, qc, qL⟩ ⟨A, k, r1⟩ W')) :=
          hide fun W' h => ⟨h.x.cell 0, h.x.cell 1, h.x.cell 2, h.x.cell 3, h.x.cell 4, h.x.cell 5, h.y.cell 0, h.y.cell 1, h.y.cell 2, h⟩
        have hBD := hBW.next (Below.refl _ _).drew
        clear hb2 hX hS hqA hwA
        obtain ⟨c0, c1, c2, c3, c4, c5, c6, c7, c8, _⟩ := HSS.out w5 hBW
        go_region_held3 (fun W' => W'.cell? ⟨w.heap.size, 0, none⟩ = some (.int .i64 seed) ∧ W'.cell? ⟨w.heap.size, 1, none⟩ = some (.float .f64 fin) ∧ W'.cell? ⟨w.heap.size, 2, none⟩ = some v2 ∧ W'.cell? ⟨w.heap.size, 3, none⟩ = some v3 ∧ W'.cell? ⟨w.heap.size, 4, none⟩ = some (.slice lA ll.length lc) ∧ W'.cell? ⟨w.heap.size, 5, none⟩ = some v5 ∧ W'.cell? ⟨gS, 0, none⟩ = some (.slice A r1.length k) ∧ W'.cell? ⟨gS, 1, none⟩ = some (.int .i64 0) ∧ W'.cell? ⟨gS, 2, none⟩ = some (.int .i64 0) ∧ BgW w w.heap.size gS #[.int .i64 seed, .float .f64 fin, v2, v3, .slice lA ll.length lc, v5] #[.slice A r1.length k, .int .i64 0, .int .i64 0] ⟨qA, qc, qL⟩ ⟨A, k, r1⟩ W')
          (first
            | exact HSS.out _ hBD
            | (go_split_ands; exact HSS.out _ (BgW.next (by assumption) hbA))
            | (go_split_ands; exact HSS.out _ (BgW.next (by assumption) hbB))
            | (go_split_ands; exact HSS.out _ (BgW.next (by assumption) hbC))
            | (go_split_ands; exact HSS.out _ (BgW.next (by assumption) hbD))
            | (go_split_ands; exact HSS.out _ (BgW.next (by assumption) hbF)))
          (first
            | (go_at_call 40; refine (awake08 _).mono ?_; rintro e wA ⟨rfl, hbA⟩)
            | (go_at_call 52; go_split_ands; refine (HR1.out _ (BgW.b (by assumption))).mono ?_; rintro e wB ⟨⟨pA, pc, pL⟩, rfl, hpL, hpA, hbB⟩; simp only [Sl.val] at hpL ⊢; rw [hpL] at hpA; simp only [hpL]; clear hpL)
            | (go_at_call 45; go_split_ands; refine (sameev_self ⟨qA, qc, qL⟩ ⟨pA, pc, qL⟩ _ (BgW.q (by assumption)) hpA rfl).mono ?_; rintro e wC ⟨rfl, hbC⟩)
            | (go_at_call 53; go_split_ands; refine (HR2.out _ (BgW.b (by assumption))).mono ?_; rintro e wD ⟨A2, k2, rfl, hwD, hbD⟩)
            | (go_at_call 42; go_split_ands; have hsm := rsame8_any ⟨⟨A, k, r1⟩, 0, 0⟩ ⟨⟨A2, k2, r1⟩, 0, 0⟩ _ ⟨BgW.s (by assumption), hzI.out, hzI.out⟩ ⟨hwD, hzI.out, hzI.out⟩; rw [show sameP (St.pl ⟨⟨A, k, r1⟩, 0, 0⟩) (St.pl ⟨⟨A2, k2, r1⟩, 0, 0⟩) = true from sameP_iff.2 rfl] at hsm; refine hsm.mono ?_; clear hsm; rintro e wF ⟨rfl, hbF⟩))
        go_split_ands
        have HE := hide (BgW.b (by assumption : BgW _ _ _ _ _ _ _ wF))
        go_wp2_with fail
        go_ret
        exact ⟨rfl, HE.out⟩
      · obtain rfl := y2 hlp
        have HR1 := hide (HRB.out rfl)
        have HQA := hide hqA
        have HB := hide hb2
        have hlp2 : (lp < 0 ∧ decide (lp < 0) = true) ∨ (decide (lp < 0) = false ∧ decide ((ll.length : Int) ≤ lp) = true) := by
          by_cases h0 : lp < 0
          · exact .inl ⟨h0, decide_eq_true h0⟩
          · exact .inr ⟨decide_eq_false h0, decide_eq_true (by omega)⟩
        clear HRB HRF y3 hb2 hqA hwA hS hlp
        rcases hlp2 with ⟨_, d1⟩ | ⟨d1, d2⟩
        all_goals
          have x0 := hX.cell 0
          have x1 := hX.cell 1
          have x2 := hX.cell 2
          have x3 := hX.cell 3
          have x4 := hX.cell 4
          have x5 := hX.cell 5
          simp only [List.getElem?_toArray, List.getElem?_cons_zero, List.getElem?_cons_succ] at x0 x1 x2 x3 x4 x5
          go_wp2_with fail
          refine (awake08 _).mono ?_
          rintro e w6 ⟨rfl, hb1⟩
          replace hX := hX.below hb1 hX.lt
          have HQ2 := hide (HQA.out.below EvB.keeps hb1)
          have HB2 := hide (below_after HB.out hb1)
          clear x0 x1 x2 x3 x4 x5
          clear HQA HB hb1
          have x0 := hX.cell 0
          have x1 := hX.cell 1
          have x2 := hX.cell 2
          have x3 := hX.cell 3
          have x4 := hX.cell 4
          have x5 := hX.cell 5
          simp only [List.getElem?_toArray, List.getElem?_cons_zero, List.getElem?_cons_succ] at x0 x1 x2 x3 x4 x5
          go_wp2_with fail
          refine (HR1.out _ HB2.out).mono ?_
          rintro e w7 ⟨⟨pA, pc, pL⟩, rfl, hpL, hpA, hbB⟩
          simp only [Sl.val] at hpL ⊢
          subst hpL
          have HSE := hide (sameev_self ⟨qA, qc, pL⟩ ⟨pA, pc, pL⟩ w7 (HQ2.out.below EvB.keeps hbB) hpA rfl)
          simp only [Sl.val] at HSE
          have HB3 := hide (below_after HB2.out hbB)
          clear x0 x1 x2 x3 x4 x5
          clear hbB hpA HQ2 HB2 hX
          go_wp2_with fail
          refine HSE.out.mono ?_
          rintro e w8 ⟨rfl, hb1⟩
          have HE2 := hide (below_after HB3.out hb1)
          clear hb1 HB3
          go_wp2_with fail
          go_ret
          exact ⟨rfl, HE2.out⟩
end Go.Proofs.Ytpfcmfannkbipaa
