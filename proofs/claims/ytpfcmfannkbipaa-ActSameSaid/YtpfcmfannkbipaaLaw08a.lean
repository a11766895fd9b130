/- The walk of the law ActAgain. No condition. -/
import Derived.Test.YtpfcmfannkbipaaHan8
import Derived.Test.YtpfcmfannkbipaaAw8c
import Derived.Test.YtpfcmfannkbipaaRAct4
set_option linter.unusedVariables false
set_option linter.unusedSimpArgs false
set_option maxRecDepth 20000
namespace Go.Proofs.Ytpfcmfannkbipaa
open Go.RowKit Go.Deep

attribute [local go_sem] run_store_float
theorem OwnR.farT {α : Type} {e : TypeId} {size B : Nat} {enc : α → List Value} {w : World} {v : Value} {L : List α} (h : OwnR e size enc w B v L) {g : Nat} {t : TypeId} {cs : Array Value} (hb : Blk w g t cs) (hne : e ≠ t) (j : Nat) (x : Value) : OwnR e size enc (w.setCell ⟨g, j, none⟩ x) B v L :=
  ownsRow_setCell_other h (own_blk_ne h hb hne) x
theorem own_block {w : World} {B : Nat} {A : Option Addr} {c : Nat} {L : List Int} (h : OwnR 3 1 encInt w B (.slice A L.length c) L) (h0 : 0 < L.length) : ∃ g cur, A = some ⟨g, 0, none⟩ ∧ B ≤ g ∧ Blk w g 3 cur ∧ L.length ≤ cur.size := by
  rcases h.2 with ⟨he, -⟩ | ⟨g2, cap, cur, hv, hB, hh, hn, -, hs, -⟩
  · injection he with h1 h2 h3
    omega
  · injection hv with hv1
    exact ⟨g2, cur, hv1, hB, hh, by omega⟩
/-- What stands while a copy's words are written over. -/
structure Ag8 (w3 : World) (gS : Nat) (S : Array Value) (q : Sl Ev) (aA : Option Addr) (n : Nat) (wr : World) : Prop where
  b : Below w3.heap.size w3 wr
  s : Blk wr gS 61 S
  q : OwnR 37 5 encEv wr w3.heap.size q.val q.L
  a : 0 < n → ∃ g cur, aA = some ⟨g, 0, none⟩ ∧ w3.heap.size ≤ g ∧ Blk wr g 3 cur ∧ n ≤ cur.size
theorem blk_neT {w : World} {g h : Nat} {t u : TypeId} {cs ds : Array Value} (h1 : Blk w g t cs) (h2 : Blk w h u ds) (hne : t ≠ u) : g ≠ h := Blk.ne_ h1 h2 hne
theorem Ag8.set {w3 wr : World} {gS n : Nat} {S : Array Value} {q : Sl Ev} {aA : Option Addr} (h : Ag8 w3 gS S q aA n wr) {j : Nat} (hj : j < n) :
    ∃ g u, aA = some ⟨g, 0, none⟩ ∧ wr.cell? ⟨g, j, none⟩ = some u ∧ wr.frozen? ⟨g, j, none⟩ = false ∧ ∀ x, Ag8 w3 gS S q aA n (wr.setCell ⟨g, j, none⟩ x) := by
  obtain ⟨g, cur, hg, hlo, hblk, hsz⟩ := h.a (by omega)
  have hjs : j < cur.size := by omega
  refine ⟨g, cur[j], hg, (hblk.cell j).trans (Array.getElem?_eq_getElem hjs), hblk.frozen j, fun x => ⟨h.b.setCell (p := ⟨g, j, none⟩) hlo _, h.s.far (p := ⟨g, j, none⟩) (blk_neT h.s hblk (by decide)) _, h.q.farT hblk (by decide) j x, fun _ => ⟨g, _, hg, hlo, hblk.set_ j x, by simpa using hsz⟩⟩⟩
set_option maxHeartbeats 8000000 in
theorem again8_walk (c o : Cas) (w : World) (h : c.At w) (h' : o.At w) : Calls Try.prog 11 #[c.val, o.val] w fun e w' => e = .returned (.bool true) ∧ Below w.heap.size w w' := by
  obtain ⟨hb0, hX, hY⟩ := box2 w c.cells o.cells 63 63
  have HLI := hide (fun W (hb : Below w.heap.size w W) => light8_any c W (h.below hb))
  have HLO := hide (fun W (hb : Below w.heap.size w W) => light8_any o W (h'.below hb))
  have HHA := hide (fun W (hb : Below w.heap.size w W) => handlew_any c.m c.lp c.s c.e W (h.m.below hb) (h.s.below hb) h.e)
  have HHO := hide (fun W (hb : Below w.heap.size w W) => handlew_any o.m o.lp o.s o.e W (h'.m.below hb) (h'.s.below hb) h'.e)
  have HOK := hide (hR_ok (lp := c.lp) h.m h.s h.e)
  have HWI := hide (fun (hq : c.s.wd.L.length < 60) W (hb : Below w.heap.size w W) ty => app_new (P := Try.prog) 3 59 ty 1 8 (.int .i64 0) encInt (by decide) (fun _ => rfl) one8_int Try.underlying59 inf8_int rfl lays_int W c.s.wd (h.s.1.below IntAt.keeps hb) (by omega) (by omega))
  have HSA := hide h.s.1
  have HIW := hide (sl_ints h.s.1)
  have hLC : lightC c = true → c.s.wd.L.length < 60 := fun hl => by
    unfold lightC at hl
    simp only [Bool.and_eq_true, decide_eq_true_eq] at hl
    exact hl.2
  generalize lightC c = LB at *
  generalize lightC o = LO at *
  generalize hE c.m c.lp c.s.pl c.e = E at *
  generalize hR c.m c.lp c.s.pl c.e = R at *
  generalize hE o.m o.lp o.s.pl o.e = E' at *
  generalize hR o.m o.lp o.s.pl o.e = R' at *
  have HLC := hide hLC
  clear h h' hLC
  obtain ⟨⟨seed, fin, dl, pl, ll, il⟩, lp, ⟨⟨sA, sc, sl⟩, sent, dice⟩, ⟨et, es, en, ed, ep⟩⟩ := c
  obtain ⟨⟨seed', fin', dl', pl', ll', il'⟩, lp', ⟨wd', sent', dice'⟩, ⟨et', es', en', ed', ep'⟩⟩ := o
  obtain ⟨⟨r1, r2, r3⟩, r4, r5⟩ := R
  simp only [Cas.val, Cas.cells, Mdl.val, St.val, St.pl] at *
  generalize hdv : dl.val = v2 at *
  generalize hpv : pl.val = v3 at *
  generalize hlv : ll.val = v4 at *
  generalize hiv : il.val = v5 at *
  generalize hdv' : dl'.val = v2' at *
  generalize hpv' : pl'.val = v3' at *
  generalize hlv' : ll'.val = v4' at *
  generalize hiv' : il'.val = v5' at *
  generalize hwv' : wd'.val = v7' at *
  simp only [Sl.val] at *
  have HB := hide hb0
  clear hdv hpv hlv hiv hdv' hpv' hlv' hiv' hwv' hb0
  have x0 := hX.cell 0
  have x1 := hX.cell 1
  have x2 := hX.cell 2
  have x3 := hX.cell 3
  have x4 := hX.cell 4
  have x5 := hX.cell 5
  have x6 := hX.cell 6
  have x7 := hX.cell 7
  have x8 := hX.cell 8
  have x9 := hX.cell 9
  have x10 := hX.cell 10
  have x11 := hX.cell 11
  have x12 := hX.cell 12
  have x13 := hX.cell 13
  have x14 := hX.cell 14
  simp only [List.getElem?_toArray, List.getElem?_cons_zero, List.getElem?_cons_succ] at x0 x1 x2 x3 x4 x5 x6 x7 x8 x9 x10 x11 x12 x13 x14
  go_enter Try.func11, Try.ntmps11
  go_upto_region 1 with fail
  generalize World.alloc (World.alloc w _) _ = w0 at *
  go_wp2_with fail
  refine (HLI.out _ HB.out).mono ?_
  rintro e w1 ⟨rfl, hb1⟩
  clear x0 x1 x2 x3 x4 x5 x6 x7 x8 x9 x10 x11 x12 x13 x14
  replace hX := hX.below hb1 hX.lt
  replace hY := hY.below hb1 hY.lt
  have hb2 := below_after HB.out hb1
  clear HB HLI hb1
  cases LB
  · clear HLO HHA HHO HOK HWI HSA HIW HLC hX hY
    have HB := hide hb2
    clear hb2
    go_wp2_with fail
    refine (awake08 _).mono ?_
    rintro e w2 ⟨rfl, hb1⟩
    have HE := hide (below_after HB.out hb1)
    clear hb1 HB
    go_wp2_with fail
    go_ret
    exact ⟨rfl, HE.out⟩
  · have hsl := HLC.out rfl
    have HB := hide hb2
    have y0 := hY.cell 0
    have y1 := hY.cell 1
    have y2 := hY.cell 2
    have y3 := hY.cell 3
    have y4 := hY.cell 4
    have y5 := hY.cell 5
    have y6 := hY.cell 6
    have y7 := hY.cell 7
    have y8 := hY.cell 8
    have y9 := hY.cell 9
    have y10 := hY.cell 10
    have y11 := hY.cell 11
    have y12 := hY.cell 12
    have y13 := hY.cell 13
    have y14 := hY.cell 14
    simp only [List.getElem?_toArray, List.getElem?_cons_zero, List.getElem?_cons_succ] at y0 y1 y2 y3 y4 y5 y6 y7 y8 y9 y10 y11 y12 y13 y14
    go_wp2_with fail
    refine (HLO.out _ HB.out).mono ?_
    rintro e w2 ⟨rfl, hb1⟩
    clear y0 y1 y2 y3 y4 y5 y6 y7 y8 y9 y10 y11 y12 y13 y14
    replace hX := hX.below hb1 hX.lt
    replace hY := hY.below hb1 hY.lt
    replace hb2 := below_after HB.out hb1
    clear HB HLO HLC hb1
    cases LO
    · clear HHA HHO HOK HWI HSA HIW hX hY
      have HB := hide hb2
      clear hb2
      go_wp2_with fail
      refine (awake08 _).mono ?_
      rintro e w3 ⟨rfl, hb1⟩
      have HE := hide (below_after HB.out hb1)
      clear hb1 HB
      go_wp2_with fail
      go_ret
      exact ⟨rfl, HE.out⟩
    · obtain ⟨vW, wW, hrun, hoW, hbW⟩ := HWI.out hsl w2 hb2 59
      obtain ⟨⟨wA, wc, wL⟩, rfl, hwL, _, _⟩ := hoW.form
      simp only [Sl.val] at hrun hwL hoW
      have hx7 := keepc ((Below.refl w2.heap.size w2).alloc (Nat.le_refl _) (.cells #[] 3)) (hX.cell 7)
      rw [hwL] at hoW hrun
      have hXW := hX.below hbW hX.lt
      have hYW := hY.below hbW hY.lt
      have HB := hide (below_after hb2 hbW)
      have HOW := hide hoW
      clear hb2 hbW hoW hwL hX hY
      have HXW := hide hXW
      have x0 := hXW.cell 0
      have x1 := hXW.cell 1
      have x2 := hXW.cell 2
      have x3 := hXW.cell 3
      have x4 := hXW.cell 4
      have x5 := hXW.cell 5
      have x6 := hXW.cell 6
      have x7 := hXW.cell 7
      have x8 := hXW.cell 8
      have x9 := hXW.cell 9
      have x10 := hXW.cell 10
      have x11 := hXW.cell 11
      have x12 := hXW.cell 12
      have x13 := hXW.cell 13
      have x14 := hXW.cell 14
      simp only [List.getElem?_toArray, List.getElem?_cons_zero, List.getElem?_cons_succ] at x0 x1 x2 x3 x4 x5 x6 x7 x8 x9 x10 x11 x12 x13 x14
      go_upto_region 3 with fail
      go_wp2_with (at_builtin; go_must (refine wpList_of_append rfl _ wW _ _ 59 _ _ _ rfl rfl rfl hrun ?_))
      refine (HHA.out _ HB.out).mono ?_
      rintro e w3 ⟨⟨aA, ac, aL⟩, ⟨qA, qc, qL⟩, rfl, haL, hqL, _, _, hoA, hoQ, hb3⟩
      clear hrun hx7 hXW
      have haL2 : aL = r1 := haL
      have hqL2 : qL = r4 := hqL
      clear haL hqL
      subst haL2 hqL2
      clear x0 x1 x2 x3 x4 x5 x6 x7 x8 x9 x10 x11 x12 x13 x14
      simp only [Sl.val] at hoA hoQ ⊢
      have hS := Blk.new w3 61 #[.slice aA aL.length ac, .int .i64 r2, .int .i64 r3]
      have ha := (Below.refl w3.heap.size w3).alloc (Nat.le_refl _) (.cells #[.slice aA aL.length ac, .int .i64 r2, .int .i64 r3] 61)
      replace hYW := (hYW.below hb3 hYW.lt).alloc (.cells #[.slice aA aL.length ac, .int .i64 r2, .int .i64 r3] 61)
      replace hoA := hoA.below ha
      replace hoQ := hoQ.below ha
      have hb4 := below_after hb3 ha
      clear ha hb3
      go_upto_region 5 with fail
      generalize World.alloc w3 _ = w4 at *
      generalize w3.heap.size = gS at *
      have HO4 := hide (below_after HB.out hb4)
      have y0 := hYW.cell 0
      have y1 := hYW.cell 1
      have y2 := hYW.cell 2
      have y3 := hYW.cell 3
      have y4 := hYW.cell 4
      have y5 := hYW.cell 5
      have y6 := hYW.cell 6
      have y7 := hYW.cell 7
      have y8 := hYW.cell 8
      have y9 := hYW.cell 9
      have y10 := hYW.cell 10
      have y11 := hYW.cell 11
      have y12 := hYW.cell 12
      have y13 := hYW.cell 13
      have y14 := hYW.cell 14
      simp only [List.getElem?_toArray, List.getElem?_cons_zero, List.getElem?_cons_succ] at y0 y1 y2 y3 y4 y5 y6 y7 y8 y9 y10 y11 y12 y13 y14
      go_wp2_with fail
      refine (HHO.out _ HO4.out).mono ?_
      rintro e w5 ⟨_, _, rfl, _, _, _, _, _, _, hb5⟩
      clear y0 y1 y2 y3 y4 y5 y6 y7 y8 y9 y10 y11 y12 y13 y14
      have hAG : Ag8 wW gS #[.slice aA aL.length ac, .int .i64 r2, .int .i64 r3] ⟨qA, qc, qL⟩ aA aL.length w5 := by
        refine ⟨below_after hb4 hb5, hS.below hb5 hS.lt, hoQ.below hb5, fun h0 => ?_⟩
        obtain ⟨g, cur, h1, h2, h3, h4⟩ := own_block hoA h0
        exact ⟨g, cur, h1, h2, h3.below hb5 h3.lt, h4⟩
      have HAG := hide hAG
      have hal : aL.length ≤ 9223372036854775807 := by
        obtain ⟨s, hs, -, hl, -⟩ := hoA.form
        omega
      clear hAG hYW hS hoA hoQ hb4 hb5 HHO HO4
      go_upto_region 7 with fail
      go_loopw [10] (fun k wr => ∃ j : Nat, j ≤ aL.length ∧ k = .int .i64 j ∧ Ag8 wW gS #[.slice aA aL.length ac, .int .i64 r2, .int .i64 r3] ⟨qA, qc, qL⟩ aA aL.length wr) (fun k _ => aL.length - (intOf k).toNat)
      case atStart => exact ⟨0, Nat.zero_le _, rfl, HAG.out⟩
      case round =>
        clear HAG
        obtain ⟨j, hj, rfl, hS⟩ := hrel
        have y0 := hS.s.cell 0
        simp only [List.getElem?_toArray, List.getElem?_cons_zero] at y0
        by_cases hlt : j < aL.length
        · obtain ⟨g, u, hg, c, f, hset⟩ := hS.set hlt
          have HSET := hide (hset (.int .i64 99))
          clear hset hS
          subst hg
          have kI : (j : Int) < (aL.length : Int) := by omega
          have kI0 : (0 : Int) ≤ (j : Int) := by omega
          go_wp2_with fail
          go_roundw
          case rel => exact ⟨j + 1, by omega, by go_num, HSET.out⟩
          case measure => simp [intOf]; omega
        · obtain rfl : j = aL.length := by omega
          have hX := HXW.out.below hS.b HXW.out.lt
          have HBR := hide (below_after HB.out hS.b)
          have hq := own_evb (q := ⟨qA, qc, qL⟩) hS.q
          have hw := (OwnR.sl (size := 1) (s := ⟨wA, wc, sl⟩) (by decide) (fun _ => rfl) makes_int HOW.out HIW.out).below IntAt.keeps hS.b
          clear hS hlt hj
          go_upto_region 10 with fail
          clear y0
          have x0 := hX.cell 0
          have x1 := hX.cell 1
          have x2 := hX.cell 2
          have x3 := hX.cell 3
          have x4 := hX.cell 4
          have x5 := hX.cell 5
          have x6 := hX.cell 6
          have x7 := hX.cell 7
          have x8 := hX.cell 8
          have x9 := hX.cell 9
          have x10 := hX.cell 10
          have x11 := hX.cell 11
          have x12 := hX.cell 12
          have x13 := hX.cell 13
          have x14 := hX.cell 14
          simp only [List.getElem?_toArray, List.getElem?_cons_zero, List.getElem?_cons_succ] at x0 x1 x2 x3 x4 x5 x6 x7 x8 x9 x10 x11 x12 x13 x14
          go_wp2_with fail
          refine (HHA.out _ HBR.out).mono ?_
          rintro e w6 ⟨⟨bA, bc, bL⟩, ⟨uA, uc, uL⟩, rfl, hbL, huL, hwB, huA, _, _, hb3⟩
          have hbL2 : aL = bL := hbL.symm
          have huL2 : qL = uL := huL.symm
          clear hbL huL
          subst hbL2 huL2
          clear x0 x1 x2 x3 x4 x5 x6 x7 x8 x9 x10 x11 x12 x13 x14
          simp only [Sl.val]
          have hT := Blk.new w6 61 #[.slice bA aL.length bc, .int .i64 r2, .int .i64 r3]
          have ha := (Below.refl w6.heap.size w6).alloc (Nat.le_refl _) (.cells #[.slice bA aL.length bc, .int .i64 r2, .int .i64 r3] 61)
          replace hX := (hX.below hb3 hX.lt).alloc (.cells #[.slice bA aL.length bc, .int .i64 r2, .int .i64 r3] 61)
          replace hq := (hq.below EvB.keeps hb3).below EvB.keeps ha
          replace hw := (hw.below IntAt.keeps hb3).below IntAt.keeps ha
          replace hwB := hwB.below IntAt.keeps ha
          replace huA := huA.below EvB.keeps ha
          have HB6 := hide (below_after (below_after HBR.out hb3) ha)
          clear hb3 ha HBR
          go_upto_region 11 with fail
          generalize World.alloc w6 _ = w7 at *
          generalize w6.heap.size = gT at *
          have x0 := hX.cell 0
          have x1 := hX.cell 1
          have x2 := hX.cell 2
          have x3 := hX.cell 3
          have x4 := hX.cell 4
          have x5 := hX.cell 5
          have x6 := hX.cell 6
          have x7 := hX.cell 7
          have x8 := hX.cell 8
          have x9 := hX.cell 9
          have x10 := hX.cell 10
          have x11 := hX.cell 11
          have x12 := hX.cell 12
          have x13 := hX.cell 13
          have x14 := hX.cell 14
          simp only [List.getElem?_toArray, List.getElem?_cons_zero, List.getElem?_cons_succ] at x0 x1 x2 x3 x4 x5 x6 x7 x8 x9 x10 x11 x12 x13 x14
          go_wp2_with fail
          refine (HHA.out _ HB6.out).mono ?_
          rintro e w8 ⟨⟨dA, dc, dL⟩, ⟨tA, tc, tL⟩, rfl, hdL, htL, hwD, _, _, _, hb3⟩
          have hdL2 : aL = dL := hdL.symm
          clear hdL
          subst hdL2
          clear x0 x1 x2 x3 x4 x5 x6 x7 x8 x9 x10 x11 x12 x13 x14
          simp only [Sl.val]
          have hU := Blk.new w8 61 #[.slice dA aL.length dc, .int .i64 r2, .int .i64 r3]
          have ha := (Below.refl w8.heap.size w8).alloc (Nat.le_refl _) (.cells #[.slice dA aL.length dc, .int .i64 r2, .int .i64 r3] 61)
          replace hX := (hX.below hb3 hX.lt).alloc (.cells #[.slice dA aL.length dc, .int .i64 r2, .int .i64 r3] 61)
          replace hT := (hT.below hb3 hT.lt).alloc (.cells #[.slice dA aL.length dc, .int .i64 r2, .int .i64 r3] 61)
          replace hq := (hq.below EvB.keeps hb3).below EvB.keeps ha
          replace huA := (huA.below EvB.keeps hb3).below EvB.keeps ha
          replace hw := (hw.below IntAt.keeps hb3).below IntAt.keeps ha
          replace hwB := (hwB.below IntAt.keeps hb3).below IntAt.keeps ha
          replace hwD := hwD.below IntAt.keeps ha
          have HB8 := hide (below_after (below_after HB6.out hb3) ha)
          clear hb3 ha HB6 HHA htL
          go_upto_region 12 with fail
          generalize World.alloc w8 _ = w9 at *
          generalize w8.heap.size = gU at *
          go_wp2_with fail
          refine (awake08 _).mono ?_
          rintro e w10 ⟨rfl, hb3⟩
          have HSE := hide (sameev_self ⟨qA, qc, qL⟩ ⟨uA, uc, qL⟩ w10 (hq.below EvB.keeps hb3) (huA.below EvB.keeps hb3) rfl)
          simp only [Sl.val] at HSE
          replace hX := hX.below hb3 hX.lt
          replace hT := hT.below hb3 hT.lt
          replace hU := hU.below hb3 hU.lt
          replace hw := hw.below IntAt.keeps hb3
          replace hwB := hwB.below IntAt.keeps hb3
          replace hwD := hwD.below IntAt.keeps hb3
          have HB10 := hide (below_after HB8.out hb3)
          have e1 : (E == E) = true := beq_self_eq_true E
          have e2 : (r5 == r5) = true := beq_self_eq_true r5
          clear hb3 HB8 hq huA
          go_wp2_with fail
          refine HSE.out.mono ?_
          rintro e w11 ⟨rfl, hb3⟩
          replace hX := hX.below hb3 hX.lt
          replace hT := hT.below hb3 hT.lt
          replace hU := hU.below hb3 hU.lt
          replace hw := hw.below IntAt.keeps hb3
          have HS2 := hide (rsame8_any ⟨⟨bA, bc, aL⟩, r2, r3⟩ ⟨⟨dA, dc, aL⟩, r2, r3⟩ w11 ⟨hwB.below IntAt.keeps hb3, HOK.out.si, HOK.out.di⟩ ⟨hwD.below IntAt.keeps hb3, HOK.out.si, HOK.out.di⟩)
          have HBS := hide (show sameP (St.pl ⟨⟨bA, bc, aL⟩, r2, r3⟩) (St.pl ⟨⟨dA, dc, aL⟩, r2, r3⟩) = true from sameP_iff.2 rfl)
          rw [HBS.out] at HS2
          simp only [St.val, Sl.val] at HS2
          have HB11 := hide (below_after HB10.out hb3)
          have t0 := hT.cell 0
          have t1 := hT.cell 1
          have t2 := hT.cell 2
          simp only [List.getElem?_toArray, List.getElem?_cons_zero, List.getElem?_cons_succ] at t0 t1 t2
          have u0 := hU.cell 0
          have u1 := hU.cell 1
          have u2 := hU.cell 2
          simp only [List.getElem?_toArray, List.getElem?_cons_zero, List.getElem?_cons_succ] at u0 u1 u2
          clear hb3 HB10 HSE HBS hwB hwD hT hU e1 e2
          go_wp2_with fail
          refine HS2.out.mono ?_
          rintro e w12 ⟨rfl, hb3⟩
          clear t0 t1 t2 u0 u1 u2
          have HB12 := hide (below_after HB11.out hb3)
          have x7 := keepc hb3 (hX.cell 7)
          have HIA := hide (rints_self ⟨sA, sc, sl⟩ ⟨wA, wc, sl⟩ w12 (HSA.out.below IntAt.keeps HB12.out) (hw.below IntAt.keeps hb3) rfl)
          simp only [Sl.val] at HIA
          clear hb3 HB11 HS2 hX hw
          go_wp2_with fail
          refine HIA.out.mono ?_
          rintro e w13 ⟨rfl, nq, rfl⟩
          have HE := hide (below_drewN HB12.out nq)
          clear HIA HB12 x7
          go_wp2_with fail
          go_ret
          exact ⟨rfl, HE.out⟩
end Go.Proofs.Ytpfcmfannkbipaa
