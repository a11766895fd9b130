/- Texts of this claim in one. No condition. -/
import Derived.Test.YtpfcmfannkbipaaJ14
import Derived.Deep.RegionHeld3
import Derived.Deep.DeepCutAuto
section
set_option linter.unusedVariables false
set_option linter.unusedSimpArgs false
set_option maxRecDepth 20000
namespace Go.Proofs.Ytpfcmfannkbipaa
open Go.RowKit Go.Deep

attribute [local go_sem] run_store_float
theorem box4 (w : World) (a b c d : Array Value) (ta tb tc td : TypeId) : Below w.heap.size w ((((w.alloc (.cells a ta)).alloc (.cells b tb)).alloc (.cells c tc)).alloc (.cells d td)) ∧
    Blk ((((w.alloc (.cells a ta)).alloc (.cells b tb)).alloc (.cells c tc)).alloc (.cells d td)) w.heap.size ta a ∧ Blk ((((w.alloc (.cells a ta)).alloc (.cells b tb)).alloc (.cells c tc)).alloc (.cells d td)) (w.heap.size + 1) tb b ∧
    Blk ((((w.alloc (.cells a ta)).alloc (.cells b tb)).alloc (.cells c tc)).alloc (.cells d td)) (w.heap.size + 1 + 1) tc c ∧ Blk ((((w.alloc (.cells a ta)).alloc (.cells b tb)).alloc (.cells c tc)).alloc (.cells d td)) (w.heap.size + 1 + 1 + 1) td d :=
  ⟨allocs_below [(a, ta), (b, tb), (c, tc), (d, td)] w, allocs_blk [(a, ta), (b, tb), (c, tc), (d, td)] w 0 _ rfl, allocs_blk [(a, ta), (b, tb), (c, tc), (d, td)] w 1 _ rfl, allocs_blk [(a, ta), (b, tb), (c, tc), (d, td)] w 2 _ rfl, allocs_blk [(a, ta), (b, tb), (c, tc), (d, td)] w 3 _ rfl⟩
theorem far3 {w : World} {g : Nat} {u0 u1 u2 : Value} {p : Addr} (h : g ≠ p.block) : (((w.setCell ⟨g, 0, none⟩ u0).setCell ⟨g, 1, none⟩ u1).setCell ⟨g, 2, none⟩ u2).cell? p = w.cell? p := by
  have e : ∀ (w : World) (i : Nat) (u : Value), (w.setCell ⟨g, i, none⟩ u).cell? p = w.cell? p := fun w i u => World.cell?_setCell_other _ _ _ _ (fun h2 => h (by rw [← h2]))
  rw [e, e, e]
/-- A state copied, its value written out. -/
def CopiedV (w : World) (s : St) (e : Ending) (w' : World) : Prop := ∃ (A : Option Addr) (k : Nat), e = .returned (.agg #[.slice A s.wd.L.length k, .int .i64 s.sent, .int .i64 s.dice]) ∧ OwnR 3 1 encInt w' w.heap.size (.slice A s.wd.L.length k) s.wd.L ∧ Below w.heap.size w w'
theorem copy8v_any (s : St) (w : World) (hs : s.At w) (hn : s.wd.L.length ≤ 1000) : Calls Try.prog 47 #[s.val] w (CopiedV w s) := by
  refine (copy8_any s w hs hn).mono ?_
  rintro e w' ⟨⟨⟨A, k, l⟩, a, b⟩, rfl, hpl, hown, hb⟩
  simp only [St.pl, Prod.mk.injEq] at hpl
  obtain ⟨rfl, rfl, rfl⟩ := hpl
  exact ⟨A, k, rfl, hown, hb⟩
/-- What comes of an event handled. -/
def HanTo (w : World) (E : Int) (R : StP × List Ev × Int) (e : Ending) (w' : World) : Prop :=
  ∃ (c : St) (q : Sl Ev), e = .returned (.tuple #[c.val, q.val, .int .i64 R.2.2, .int .i64 E]) ∧ c.pl = R.1 ∧ q.L = R.2.1 ∧ OwnR 3 1 encInt w' w.heap.size c.wd.val c.wd.L ∧ OwnR 37 5 encEv w' w.heap.size q.val q.L ∧ Below w.heap.size w w'
set_option maxHeartbeats 1000000 in
theorem handle_bad (m : Mdl) (lp : Int) (s : St) (e : Ev) (w : World) (hm : m.At w) (hs : s.At w) (hbad : hE m lp s.pl e ≠ 0) :
    Calls Try.prog 41 #[m.val, .int .i64 lp, s.val, .agg #[.float .f64 e.1, .int .i64 e.2.1, .int .i64 e.2.2.1, .int .i64 e.2.2.2.1, .int .i64 e.2.2.2.2]] w (HanTo w (hE m lp s.pl e) (hR m lp s.pl e)) := by
  have hRR : hR m lp s.pl e = (([], 0, 0), [], 0) := if_neg hbad
  rw [hRR]
  have hP := fun W (hb : Below w.heap.size w W) => (show HanTo w (hE m lp s.pl e) (([], 0, 0), [], 0) (.returned (.tuple #[.agg #[.slice none 0 0, .int .i64 0, .int .i64 0], .slice none 0 0, .int .i64 0, .int .i64 (hE m lp s.pl e)])) W from
    ⟨⟨⟨none, 0, []⟩, 0, 0⟩, ⟨none, 0, []⟩, rfl, rfl, rfl, OwnR.nil, OwnR.nil, hb⟩)
  have hmay := fun W (h : Below w.heap.size w W) => may8_any m lp s e W (hm.below h) (hs.below h)
  obtain ⟨hb0, hX, hS, hV, hR⟩ := box4 w #[.int .i64 m.seed, .float .f64 m.fin, m.dl.val, m.pl.val, m.ll.val, m.il.val] #[s.wd.val, .int .i64 s.sent, .int .i64 s.dice] #[.float .f64 e.1, .int .i64 e.2.1, .int .i64 e.2.2.1, .int .i64 e.2.2.2.1, .int .i64 e.2.2.2.2] #[.slice none 0 0, .int .i64 0, .int .i64 0] 58 61 37 61
  generalize hE m lp s.pl e = E at *
  generalize HanTo w E _ = Post at *
  have hne : (E != 0) = true := by rw [bne_iff_ne]; exact hbad
  have HP := hide hP
  have HM := hide (hmay _ hb0)
  clear hP hbad hmay hRR hm hs
  obtain ⟨t, src, n, dst, pay⟩ := e
  obtain ⟨seed, fin, dl, pl, ll, il⟩ := m
  obtain ⟨wd, sent, dice⟩ := s
  simp only [Mdl.val, St.val, St.pl] at *
  generalize dl.val = dv at *
  generalize pl.val = pv at *
  generalize ll.val = lv at *
  generalize il.val = iv at *
  generalize wd.val = wv at *
  have HB := hide hb0
  clear hb0
  go_enter Try.func41, Try.ntmps41
  go_upto_region 1 with fail
  generalize (World.alloc (World.alloc (World.alloc (World.alloc w _) _) _) _) = w0 at *
  have x0 := hX.cell 0
  have x1 := hX.cell 1
  have x2 := hX.cell 2
  have x3 := hX.cell 3
  have x4 := hX.cell 4
  have x5 := hX.cell 5
  simp only [List.getElem?_toArray, List.getElem?_cons_zero, List.getElem?_cons_succ] at x0 x1 x2 x3 x4 x5
  have s0 := hS.cell 0
  have s1 := hS.cell 1
  have s2 := hS.cell 2
  simp only [List.getElem?_toArray, List.getElem?_cons_zero, List.getElem?_cons_succ] at s0 s1 s2
  have v0 := hV.cell 0
  have v1 := hV.cell 1
  have v2 := hV.cell 2
  have v3 := hV.cell 3
  have v4 := hV.cell 4
  simp only [List.getElem?_toArray, List.getElem?_cons_zero, List.getElem?_cons_succ] at v0 v1 v2 v3 v4
  go_wp2_with fail
  refine HM.out.mono ?_
  rintro e w1 ⟨rfl, hb1⟩
  clear x0 x1 x2 x3 x4 x5 s0 s1 s2 v0 v1 v2 v3 v4
  replace hR := hR.below hb1 hR.lt
  have HB2 := hide (below_after HB.out hb1)
  have r0 := hR.cell 0
  have r1 := hR.cell 1
  have r2 := hR.cell 2
  simp only [List.getElem?_toArray, List.getElem?_cons_zero, List.getElem?_cons_succ] at r0 r1 r2
  have f0 := hR.frozen 0
  have f1 := hR.frozen 1
  have f2 := hR.frozen 2
  clear hX hS hV hR hb1 HB HM
  go_wp2_with fail
  refine bodyPost_ret (v := .tuple #[.agg #[.slice none 0 0, .int .i64 0, .int .i64 0], .slice none 0 0, .int .i64 0, .int .i64 E]) (by simp [results, Try.results41, go_sem, r0, r1, r2]) rfl ?_
  exact HP.out _ (((HB2.out.setCell (by simp only; omega) _).setCell (by simp only; omega) _).setCell (by simp only; omega) _)
set_option maxHeartbeats 4000000 in
theorem handle_good (m : Mdl) (lk : Nat) (s : St) (e : Ev) (w : World) (hm : m.At w) (hs : s.At w) (he : EvOk e) (hgood : hE m lk s.pl e = 0) :
    Calls Try.prog 41 #[m.val, .int .i64 lk, s.val, .agg #[.float .f64 e.1, .int .i64 e.2.1, .int .i64 e.2.2.1, .int .i64 e.2.2.2.1, .int .i64 e.2.2.2.2]] w (HanTo w (hE m lk s.pl e) (hR m lk s.pl e)) := by
  have hRR : hR m lk s.pl e = hV m lk s.pl e := if_pos hgood
  have hmay := fun W (h : Below w.heap.size w W) => may8_any m lk s e W (hm.below h) (hs.below h)
  obtain ⟨hchk, h8, hs0, hs1, hd0, hd1, hlk⟩ : chkB m = true ∧ s.wd.L.length ≤ 8 ∧ 0 ≤ s.sent ∧ s.sent ≤ 1099511627776 ∧ 0 ≤ s.dice ∧ s.dice ≤ 1099511627776 ∧ lk < m.ll.L.length := by
    unfold hE at hgood
    cases hc : chkB m
    · rw [hc] at hgood; simp at hgood
    · rw [hc, if_pos rfl] at hgood
      cases hb : mayB m lk s.pl e
      · rw [hb] at hgood; simp at hgood
      · unfold mayB cntB St.pl at hb
        simp only [Bool.and_eq_true, decide_eq_true_eq] at hb
        obtain ⟨⟨b1, b2, b3, b4⟩, ⟨b5, b6⟩, b7, b8⟩ := hb
        exact ⟨rfl, b4, b5, b6, b7, b8, by omega⟩
  rw [hRR, hgood]
  simp only [hgood] at hmay
  obtain ⟨x, sp, hx, hsp, p0, p1, hx8, hmpl⟩ := chk_lp hchk (lp := (lk : Int)) (by omega) (by omega)
  rw [Int.toNat_natCast] at hx
  obtain ⟨j, hj⟩ : ∃ j : Nat, x.1 = j := ⟨x.1.toNat, by omega⟩
  rw [hj, Int.toNat_natCast] at hsp
  rw [hj] at p1
  obtain ⟨hc1, hc2, hc3, hc4, hc5, hc6, hc7⟩ := chk_counts hchk
  obtain ⟨a, ha, a0, a1, _, _⟩ := hm.2.2.2.2.1.1 lk x hx
  obtain ⟨b, hb, b0, hspA⟩ := hm.2.2.2.1.1 j sp hsp
  rw [hj] at a0
  rw [Nat.mul_one] at b0
  have hinp : Inp.At w ⟨s.wd, e.2.2.2.2, lk, m.ll.L.length, m.seed, s.dice⟩ := ⟨hs.1, he.2.2.2.2, ⟨by simp only; omega, by simp only; omega⟩, ⟨by simp only; omega, by simp only; omega⟩, hm.1, hs.2.2⟩
  have hrun := fun W (h : Below w.heap.size w W) => run_any W sp ⟨s.wd, e.2.2.2.2, lk, m.ll.L.length, m.seed, s.dice⟩ (hspA.below InsAt.keeps h) (hinp.below h)
  have hok := out_ok hspA hinp
  have hOO : outV sp.L s.wd.L e.2.2.2.2 lk m.ll.L.length m.seed s.dice = hO m lk s.pl e := by unfold Go.Proofs.Ytpfcmfannkbipaa.hO; rw [hmpl]; rfl
  simp only [hOO] at hrun hok
  have P1 := fun (hf : (hO m lk s.pl e).2.2.2 ≠ 0) (A : Option Addr) (k : Nat) W (h2 : OwnR 3 1 encInt W w.heap.size (.slice A s.wd.L.length k) s.wd.L) (h3 : Below w.heap.size w W) =>
    (show HanTo w 0 (hV m lk s.pl e) (.returned (.tuple #[.agg #[.slice A s.wd.L.length k, .int .i64 s.sent, .int .i64 s.dice], .slice none 0 0, .int .i64 (hO m lk s.pl e).2.2.2, .int .i64 0])) W from by
      rw [show hV m lk s.pl e = (s.pl, [], (hO m lk s.pl e).2.2.2) from if_pos hf]; exact ⟨⟨⟨A, k, s.wd.L⟩, s.sent, s.dice⟩, ⟨none, 0, []⟩, rfl, rfl, rfl, h2, OwnR.nil, h3⟩)
  have P2 := fun (hf : (hO m lk s.pl e).2.2.2 = 0) (ha : (hO m lk s.pl e).2.1.all (sndOk m.dl.L e.1) = false) (A : Option Addr) (k : Nat) W (h2 : OwnR 3 1 encInt W w.heap.size (.slice A s.wd.L.length k) s.wd.L) (h3 : Below w.heap.size w W) =>
    (show HanTo w 0 (hV m lk s.pl e) (.returned (.tuple #[.agg #[.slice A s.wd.L.length k, .int .i64 s.sent, .int .i64 s.dice], .slice none 0 0, .int .i64 7, .int .i64 0])) W from by
      rw [show hV m lk s.pl e = (s.pl, [], 7) from (if_neg (not_not_intro hf)).trans (if_neg (by rw [ha]; decide))]; exact ⟨⟨⟨A, k, s.wd.L⟩, s.sent, s.dice⟩, ⟨none, 0, []⟩, rfl, rfl, rfl, h2, OwnR.nil, h3⟩)
  have P3 := fun (hf : (hO m lk s.pl e).2.2.2 = 0) (ha : (hO m lk s.pl e).2.1.all (sndOk m.dl.L e.1) = true) (A : Option Addr) (k : Nat) (q : Sl Ev) W (h1 : q.L = sndV m.dl.L e.1 m.fin lk s.sent 0 (hO m lk s.pl e).2.1) (h2 : OwnR 3 1 encInt W w.heap.size (.slice A (hO m lk s.pl e).1.length k) (hO m lk s.pl e).1) (h4 : OwnR 37 5 encEv W w.heap.size q.val q.L) (h3 : Below w.heap.size w W) =>
    (show HanTo w 0 (hV m lk s.pl e) (.returned (.tuple #[.agg #[.slice A (hO m lk s.pl e).1.length k, .int .i64 (s.sent + ((hO m lk s.pl e).2.1.length : Int)), .int .i64 (hO m lk s.pl e).2.2.1], q.val, .int .i64 0, .int .i64 0])) W from by
      rw [show hV m lk s.pl e = (((hO m lk s.pl e).1, s.sent + ((hO m lk s.pl e).2.1.length : Int), (hO m lk s.pl e).2.2.1), sndV m.dl.L e.1 m.fin lk s.sent 0 (hO m lk s.pl e).2.1, 0) from (if_neg (not_not_intro hf)).trans (if_pos ha)]; exact ⟨⟨⟨A, k, (hO m lk s.pl e).1⟩, _, _⟩, q, rfl, rfl, h1, h2, h4, h3⟩)
  have hev := fun W (l : Sl Snt) (h : Below w.heap.size w W) (hl : l.At SntAt 3 W) (h4 : l.L.length ≤ 4) => events_any m lk s e l W (hm.below h) (by omega) (by omega) hl (by omega) hs0 hs1
  have hcp := fun W (h : Below w.heap.size w W) => copy8v_any s W (hs.below h) (by omega)
  generalize HanTo w 0 _ = Post at *
  have n1 : m.ll.L.length ≤ m.ll.c ∧ m.ll.c ≤ 9223372036854775807 := hm.2.2.2.2.1.2
  have n2 : m.pl.L.length ≤ m.pl.c ∧ m.pl.c ≤ 9223372036854775807 := hm.2.2.2.1.2
  obtain ⟨hb0, hX, hS, hY, hZ⟩ := box4 w #[.int .i64 m.seed, .float .f64 m.fin, m.dl.val, m.pl.val, m.ll.val, m.il.val] #[s.wd.val, .int .i64 s.sent, .int .i64 s.dice] #[.float .f64 e.1, .int .i64 e.2.1, .int .i64 e.2.2.1, .int .i64 e.2.2.2.1, .int .i64 e.2.2.2.2] #[.slice none 0 0, .int .i64 0, .int .i64 0] 58 61 37 61
  generalize hO m lk s.pl e = O at *
  have HM := hide (hmay _ hb0)
  have HI := hide (And.intro a0 b0)
  have HRU := hide hrun
  have HEV := hide hev
  have HCP := hide hcp
  have HP1 := hide P1
  have HP2 := hide P2
  have HP3 := hide P3
  have HOK := hide hok
  clear hgood hRR hmay hm hs he hchk hx hsp hmpl hc1 hc2 hc3 hc4 hc5 hc6 hc7 a0 b0 hinp hrun hok hOO P1 P2 P3 hev hcp hspA a1 h8 hx8
  obtain ⟨t, src, n, dst, pay⟩ := e
  obtain ⟨seed, fin, dl, ⟨pA, pc, pl⟩, ⟨lA, lc, ll⟩, il⟩ := m
  obtain ⟨wd, sent, dice⟩ := s
  obtain ⟨spA, spc, spl⟩ := sp
  obtain ⟨o1, o2, o3, o4⟩ := O
  simp only [Mdl.val, St.val, St.pl, Inp.val, Inp.cells, Sl.val] at *
  subst ha hb
  have q1 : ll.length ≤ 9223372036854775807 := by omega
  have q2 : pl.length ≤ 9223372036854775807 := by omega
  have q3 : (lk : Int) < (ll.length : Int) := by omega
  have HB := hide hb0
  clear hb0 n1 n2 hlk p0
  go_enter Try.func41, Try.ntmps41
  go_upto_region 1 with fail
  generalize (World.alloc (World.alloc (World.alloc (World.alloc w _) _) _) _) = w0 at *
  have x0 := hX.cell 0
  have x1 := hX.cell 1
  have x2 := hX.cell 2
  have x3 := hX.cell 3
  have x4 := hX.cell 4
  have x5 := hX.cell 5
  simp only [List.getElem?_toArray, List.getElem?_cons_zero, List.getElem?_cons_succ] at x0 x1 x2 x3 x4 x5
  have s0 := hS.cell 0
  have s1 := hS.cell 1
  have s2 := hS.cell 2
  simp only [List.getElem?_toArray, List.getElem?_cons_zero, List.getElem?_cons_succ] at s0 s1 s2
  have v0 := hY.cell 0
  have v1 := hY.cell 1
  have v2 := hY.cell 2
  have v3 := hY.cell 3
  have v4 := hY.cell 4
  simp only [List.getElem?_toArray, List.getElem?_cons_zero, List.getElem?_cons_succ] at v0 v1 v2 v3 v4
  go_wp2_with fail
  refine HM.out.mono ?_
  rintro e w1 ⟨rfl, hb1⟩
  clear x0 x1 x2 x3 x4 x5 s0 s1 s2 v0 v1 v2 v3 v4
  replace hX := hX.below hb1 hX.lt
  replace hS := hS.below hb1 hS.lt
  replace hY := hY.below hb1 hY.lt
  replace hZ := hZ.below hb1 hZ.lt
  have hb2 := below_after HB.out hb1
  clear HB HM hb1
  have x0 := hX.cell 0
  have x1 := hX.cell 1
  have x2 := hX.cell 2
  have x3 := hX.cell 3
  have x4 := hX.cell 4
  have x5 := hX.cell 5
  simp only [List.getElem?_toArray, List.getElem?_cons_zero, List.getElem?_cons_succ] at x0 x1 x2 x3 x4 x5
  have s0 := hS.cell 0
  have s1 := hS.cell 1
  have s2 := hS.cell 2
  simp only [List.getElem?_toArray, List.getElem?_cons_zero, List.getElem?_cons_succ] at s0 s1 s2
  have v0 := hY.cell 0
  have v1 := hY.cell 1
  have v2 := hY.cell 2
  have v3 := hY.cell 3
  have v4 := hY.cell 4
  simp only [List.getElem?_toArray, List.getElem?_cons_zero, List.getElem?_cons_succ] at v0 v1 v2 v3 v4
  go_upto_region 5 with fail
  clear x0 x1 x2 x3 x4 x5 s0 s1 s2 v0 v1 v2 v3 v4
  have hN := Blk.new w1 112 #[.slice wd.A wd.L.length wd.c, .int .i64 pay, .int .i64 lk, .int .i64 ll.length, .int .i64 seed, .int .i64 dice]
  replace hb2 := hb2.alloc hb2.size (.cells #[.slice wd.A wd.L.length wd.c, .int .i64 pay, .int .i64 lk, .int .i64 ll.length, .int .i64 seed, .int .i64 dice] 112)
  replace hX := hX.alloc (.cells #[.slice wd.A wd.L.length wd.c, .int .i64 pay, .int .i64 lk, .int .i64 ll.length, .int .i64 seed, .int .i64 dice] 112)
  replace hS := hS.alloc (.cells #[.slice wd.A wd.L.length wd.c, .int .i64 pay, .int .i64 lk, .int .i64 ll.length, .int .i64 seed, .int .i64 dice] 112)
  replace hY := hY.alloc (.cells #[.slice wd.A wd.L.length wd.c, .int .i64 pay, .int .i64 lk, .int .i64 ll.length, .int .i64 seed, .int .i64 dice] 112)
  replace hZ := hZ.alloc (.cells #[.slice wd.A wd.L.length wd.c, .int .i64 pay, .int .i64 lk, .int .i64 ll.length, .int .i64 seed, .int .i64 dice] 112)
  generalize w1.alloc _ = W at *
  generalize w1.heap.size = gN at *
  have hD : Below W.heap.size W W.drew := (Below.refl _ _).drew
  have HSS : Hid (∀ W', Below W.heap.size W W' → (W'.cell? ⟨w.heap.size, 3, none⟩ = some (.slice (some b) pl.length pc) ∧ W'.cell? ⟨w.heap.size, 4, none⟩ = some (.slice (some a) ll.length lc) ∧ W'.cell? (a.add (lk * 2)) = some (.int .i64 j) ∧ W'.cell? (b.add j) = some (.slice spA spl.length spc) ∧
      W'.cell? ⟨gN, 0, none⟩ = some (.slice wd.A wd.L.length wd.c) ∧ W'.cell? ⟨gN, 1, none⟩ = some (.int .i64 pay) ∧ W'.cell? ⟨gN, 2, none⟩ = some (.int .i64 lk) ∧ W'.cell? ⟨gN, 3, none⟩ = some (.int .i64 ll.length) ∧ W'.cell? ⟨gN, 4, none⟩ = some (.int .i64 seed) ∧ W'.cell? ⟨gN, 5, none⟩ = some (.int .i64 dice) ∧ Below W.heap.size W W')) :=
    hide fun W' h => ⟨keepc h (hX.cell 3), keepc h (hX.cell 4), keepc (below_after hb2 h) HI.out.1, keepc (below_after hb2 h) HI.out.2, keepc h (hN.cell 0), keepc h (hN.cell 1), keepc h (hN.cell 2), keepc h (hN.cell 3), keepc h (hN.cell 4), keepc h (hN.cell 5), h⟩
  have HB := hide hb2
  have HX := hide hX
  have HS := hide hS
  have HY := hide hY
  have HZ := hide hZ
  clear hb2 hX hS hY hZ hN HI
  obtain ⟨s0, s1, s2, s3, s4, s5, s6, s7, s8, s9, _⟩ := HSS.out W (Below.refl _ _)
  have jI : (j : Int) < (pl.length : Int) := p1
  have jJ : (0 : Int) ≤ (j : Int) := by omega
  have kJ : (0 : Int) ≤ (lk : Int) := by omega
  go_cut [14] (fun x wx => HanC W (o1, o2, o3, o4) x wx)
  case first =>
    go_region_held3 (fun W' => W'.cell? ⟨w.heap.size, 3, none⟩ = some (.slice (some b) pl.length pc) ∧ W'.cell? ⟨w.heap.size, 4, none⟩ = some (.slice (some a) ll.length lc) ∧ W'.cell? (a.add (lk * 2)) = some (.int .i64 j) ∧ W'.cell? (b.add j) = some (.slice spA spl.length spc) ∧
      W'.cell? ⟨gN, 0, none⟩ = some (.slice wd.A wd.L.length wd.c) ∧ W'.cell? ⟨gN, 1, none⟩ = some (.int .i64 pay) ∧ W'.cell? ⟨gN, 2, none⟩ = some (.int .i64 lk) ∧ W'.cell? ⟨gN, 3, none⟩ = some (.int .i64 ll.length) ∧ W'.cell? ⟨gN, 4, none⟩ = some (.int .i64 seed) ∧ W'.cell? ⟨gN, 5, none⟩ = some (.int .i64 dice) ∧ Below W.heap.size W W')
      (first
        | exact HSS.out _ hD
        | (go_split_ands; exact HSS.out _ (below_after (by assumption) hbR))
        | (go_split_ands; with_reducible exact HSS.out _ (Below.alloc (by assumption) (Below.size (by assumption)) _))
        | (go_split_ands; with_reducible exact HSS.out _ (Below.swap (by assumption) hsR hsR))
        | (go_split_ands; exact HSS.out _ (Below.setCell (Below.setCell (Below.setCell (Below.setCell (by assumption) (by simp) _) (by simp) _) (by simp) _) (by simp) _)))
      (first
        | (go_at_call 77; go_split_ands; refine (HRU.out _ (below_after HB.out (by assumption))).mono ?_; rintro e wR ⟨vR, rfl, hoR, hbR⟩; obtain ⟨rA, rc, rA', rc', rfl, hr1, hr2⟩ := hoR; have hsR := Nat.le_trans (Below.size (by assumption : Below W.heap.size W _)) hbR.size; try (have hG : Blk wR W.heap.size 115 #[.slice none 0 0, .slice none 0 0, .int .i64 0, .int .i64 0] := Blk.below (by first | exact (Blk.new W _ _).drew | exact Blk.new W.drew _ _) hbR (by simp); have g0 := hG.cell 0; have g1 := hG.cell 1; have g2 := hG.cell 2; have g3 := hG.cell 3; have u0 := hG.frozen 0; have u1 := hG.frozen 1; have u2 := hG.frozen 2; have u3 := hG.frozen 3; simp only [List.getElem?_toArray, List.getElem?_cons_zero, List.getElem?_cons_succ] at g0 g1 g2 g3)))
    all_goals go_split_ands
    all_goals (try go_wp2_with fail)
    all_goals go_meet
    all_goals first
      | (have hbb : Below W.heap.size W wR := below_after (((Below.refl _ _).alloc (Nat.le_refl _) _).drew) hbR
         have h1 : OwnR 3 1 encInt wR (W.heap.size + 1) (.slice rA o1.length rc) o1 := by simpa using hr1
         have h2 : OwnR 130 3 encSnt wR (W.heap.size + 1) (.slice rA' o2.length rc') o2 := by simpa using hr2
         with_reducible exact hanC_first (o := (o1, o2, o3, o4)) rfl (Nat.le_refl _) (by assumption) hbb h1 h2)
      | (have hbb : Below W.heap.size W wR := below_after hD hbR
         have h1 : OwnR 3 1 encInt wR W.heap.size (.slice rA o1.length rc) o1 := hr1
         have h2 : OwnR 130 3 encSnt wR W.heap.size (.slice rA' o2.length rc') o2 := hr2
         with_reducible exact hanC_late (o := (o1, o2, o3, o4)) hbb h1 h2)
  case rest =>
    obtain ⟨gx, A, c, A', c', rfl, hg, hO, ho1, ho2, hbW⟩ := hcut
    simp only at hO ho1 ho2
    have hX := HX.out.below hbW HX.out.lt
    have hS := HS.out.below hbW HS.out.lt
    have hY := HY.out.below hbW HY.out.lt
    have hZ := HZ.out.below hbW HZ.out.lt
    have hb := below_after HB.out hbW
    have hgs := Nat.lt_of_lt_of_le HZ.out.lt hg
    have hzW := HZ.out.lt
    clear HX HS HY HZ HSS hD s0 s1 s2 s3 s4 s5 s6 s7 s8 s9 HRU
    generalize W.heap.size = gW at *
    by_cases hf : o4 = 0
    · have HF := hide hf
      subst hf
      have hsn : Sl.At SntAt 3 wc ⟨A', c', o2⟩ := OwnR.sl (size := 3) (s := ⟨A', c', o2⟩) (by decide) (fun _ => rfl) makes_snt ho2 (fun _ _ => trivial)
      have hev := HEV.out wc ⟨A', c', o2⟩ hb hsn HOK.out.s4
      simp only at hev
      have hw : IntKind.i64.wrap (sent + (o2.length : Int)) = sent + (o2.length : Int) := IntWalk.i64_in _ (by have := HOK.out.s4; simp only at this; omega)
      have ho5 := HOK.out.s4
      simp only at ho5
      have x0 := hX.cell 0
      have x1 := hX.cell 1
      have x2 := hX.cell 2
      have x3 := hX.cell 3
      have x4 := hX.cell 4
      have x5 := hX.cell 5
      simp only [List.getElem?_toArray, List.getElem?_cons_zero, List.getElem?_cons_succ] at x0 x1 x2 x3 x4 x5
      have s0 := hS.cell 0
      have s1 := hS.cell 1
      have s2 := hS.cell 2
      simp only [List.getElem?_toArray, List.getElem?_cons_zero, List.getElem?_cons_succ] at s0 s1 s2
      have v0 := hY.cell 0
      have v1 := hY.cell 1
      have v2 := hY.cell 2
      have v3 := hY.cell 3
      have v4 := hY.cell 4
      simp only [List.getElem?_toArray, List.getElem?_cons_zero, List.getElem?_cons_succ] at v0 v1 v2 v3 v4
      have y0 := hO.cell 0
      have y1 := hO.cell 1
      have y2 := hO.cell 2
      have y3 := hO.cell 3
      simp only [List.getElem?_toArray, List.getElem?_cons_zero, List.getElem?_cons_succ] at y0 y1 y2 y3
      have HEE := hide hev
      have HSS := hide hS
      have HZZ := hide hZ
      have HBB := hide hb
      have HO1 := hide ho1
      have HOO := hide hO
      clear hev hX hS hY hO hZ hb hsn ho1 ho2 hbW HB HEV HP1 HOK
      have hol : o2.length ≤ 9223372036854775807 := by omega
      generalize hbb : o2.all (sndOk dl.L t) = bb at *
      go_wp2_with fail
      refine HEE.out.mono ?_
      rintro e wE ⟨⟨qA, qc, qL⟩, rfl, hqL, hqo, hbE⟩
      simp only [Sl.val] at hqL hqo ⊢
      have hZ := HZZ.out.below hbE HZZ.out.lt
      have hS := HSS.out.below hbE HSS.out.lt
      have hO := HOO.out.below hbE HOO.out.lt
      have hb := below_after HBB.out hbE
      have hzl := HZZ.out.lt
      clear x0 x1 x2 x3 x4 x5 s0 s1 s2 v0 v1 v2 v3 v4 y0 y1 y2 y3
      clear HZZ HSS HOO HEE
      cases bb
      · have s0 := hS.cell 0
        have s1 := hS.cell 1
        have s2 := hS.cell 2
        simp only [List.getElem?_toArray, List.getElem?_cons_zero, List.getElem?_cons_succ] at s0 s1 s2
        have HZZ := hide hZ
        have HD2 := hide hb
        clear hZ hS hO hb
        go_wp2_with fail
        refine (HCP.out _ HD2.out).mono ?_
        rintro e wC ⟨cA, ck, rfl, hcw, hbC⟩
        have hZC := HZZ.out.below hbC HZZ.out.lt
        have r0 := hZC.cell 0
        have r1 := hZC.cell 1
        have r2 := hZC.cell 2
        simp only [List.getElem?_toArray, List.getElem?_cons_zero, List.getElem?_cons_succ] at r0 r1 r2
        have f0 := hZC.frozen 0
        have f1 := hZC.frozen 1
        have f2 := hZC.frozen 2
        have hsz := HZZ.out.lt
        have HCW := hide hcw
        have HBC := hide (below_after HD2.out hbC)
        clear s0 s1 s2
        clear hcw hZC hbC hqo hqL hbE
        go_wp2_with fail
        refine bodyPost_ret (v := .tuple #[.agg #[.slice cA wd.L.length ck, .int .i64 sent, .int .i64 dice], .slice none 0 0, .int .i64 7, .int .i64 0]) (by simp [results, Try.results41, go_sem, r0, r1, r2]) rfl ?_
        refine HP2.out HF.out trivial cA ck _ (OwnR.lower (((HCW.out.setCell (by simp only; omega) _).setCell (by simp only; omega) _).setCell (by simp only; omega) _) (by omega)) ?_
        exact ((HBC.out.setCell (by simp only; omega) _).setCell (by simp only; omega) _).setCell (by simp only; omega) _
      · have s0 := hS.cell 0
        have s1 := hS.cell 1
        have s2 := hS.cell 2
        simp only [List.getElem?_toArray, List.getElem?_cons_zero, List.getElem?_cons_succ] at s0 s1 s2
        have y0 := hO.cell 0
        have y1 := hO.cell 1
        have y2 := hO.cell 2
        have y3 := hO.cell 3
        simp only [List.getElem?_toArray, List.getElem?_cons_zero, List.getElem?_cons_succ] at y0 y1 y2 y3
        have r0 := hZ.cell 0
        have r1 := hZ.cell 1
        have r2 := hZ.cell 2
        simp only [List.getElem?_toArray, List.getElem?_cons_zero, List.getElem?_cons_succ] at r0 r1 r2
        have f0 := hZ.frozen 0
        have f1 := hZ.frozen 1
        have f2 := hZ.frozen 2
        have HQ := hide hqo
        have HQL := hide hqL
        have HO2 := hide (HO1.out.below (hbE.mono (Nat.le_refl _)))
        have HD2 := hide hb
        clear hZ hS hO hb hqo hqL hbE HO1
        go_wp2_with fail
        refine bodyPost_ret (v := .tuple #[.agg #[.slice A o1.length c, .int .i64 (sent + (o2.length : Int)), .int .i64 o3], .slice qA qL.length qc, .int .i64 0, .int .i64 0]) (by simp [results, Try.results41, go_sem, r0, r1, r2]) rfl ?_
        refine HP3.out HF.out trivial A c ⟨qA, qc, qL⟩ _ HQL.out ?_ ?_ ?_
        · exact OwnR.lower (((HO2.out.setCell (by simp only; omega) _).setCell (by simp only; omega) _).setCell (by simp only; omega) _) (by omega)
        · exact OwnR.lower (((HQ.out.setCell (by simp only; omega) _).setCell (by simp only; omega) _).setCell (by simp only; omega) _) (by omega)
        · exact ((HD2.out.setCell (by simp only; omega) _).setCell (by simp only; omega) _).setCell (by simp only; omega) _
    · have hfb : (o4 != 0) = true := by rw [bne_iff_ne]; exact hf
      have hfc : (o4 == 0) = false := by rw [beq_eq_false_iff_ne]; exact hf
      have HF := hide hf
      have y0 := hO.cell 0
      have y1 := hO.cell 1
      have y2 := hO.cell 2
      have y3 := hO.cell 3
      simp only [List.getElem?_toArray, List.getElem?_cons_zero, List.getElem?_cons_succ] at y0 y1 y2 y3
      have s0 := hS.cell 0
      have s1 := hS.cell 1
      have s2 := hS.cell 2
      simp only [List.getElem?_toArray, List.getElem?_cons_zero, List.getElem?_cons_succ] at s0 s1 s2
      have z0 := hZ.cell 0
      have z1 := hZ.cell 1
      have z2 := hZ.cell 2
      simp only [List.getElem?_toArray, List.getElem?_cons_zero, List.getElem?_cons_succ] at z0 z1 z2
      have HZZ := hide hZ
      have HBB := hide hb
      clear hf hZ hb hX hY hO hS ho1 ho2 hbW HB
      go_upto_region 7 with fail
      have HOO := hide (show ∀ W', (Below wc.heap.size wc W') → (W'.cell? ⟨w.heap.size + 1, 0, none⟩ = some (.slice wd.A wd.L.length wd.c) ∧ W'.cell? ⟨w.heap.size + 1, 1, none⟩ = some (.int .i64 sent) ∧ W'.cell? ⟨w.heap.size + 1, 2, none⟩ = some (.int .i64 dice) ∧ W'.cell? ⟨gx, 3, none⟩ = some (.int .i64 o4)) from
        fun W' h => ⟨keepc h s0, keepc h s1, keepc h s2, keepc h y3⟩)
      have hD : Below wc.heap.size wc wc.drew := (Below.refl _ _).drew
      have hD2 : Below w.heap.size w wc.drew := HBB.out.drew
      have hne3 : w.heap.size + 1 + 1 + 1 ≠ gx := by omega
      go_region_held3 (fun W' => W'.cell? ⟨w.heap.size + 1, 0, none⟩ = some (.slice wd.A wd.L.length wd.c) ∧ W'.cell? ⟨w.heap.size + 1, 1, none⟩ = some (.int .i64 sent) ∧ W'.cell? ⟨w.heap.size + 1, 2, none⟩ = some (.int .i64 dice) ∧ W'.cell? ⟨gx, 3, none⟩ = some (.int .i64 o4))
        (first
          | exact HOO.out _ hD
          | (go_split_ands; exact ⟨keepc hbC (by assumption), keepc hbC (by assumption), keepc hbC (by assumption), keepc hbC (by assumption)⟩)
          | (go_split_ands; exact ⟨(far3 (by simp only; omega)).trans (by assumption), (far3 (by simp only; omega)).trans (by assumption), (far3 (by simp only; omega)).trans (by assumption), (far3 (by simp only; omega)).trans (by assumption)⟩))
        (first
          | (go_at_call 47; refine (HCP.out _ hD2).mono ?_; rintro e wC ⟨cA, ck, rfl, hcw, hbC⟩; have hZC := (HZZ.out.drew).below hbC HZZ.out.drew.lt; have r0 := hZC.cell 0; have r1 := hZC.cell 1; have r2 := hZC.cell 2; have f0 := hZC.frozen 0; have f1 := hZC.frozen 1; have f2 := hZC.frozen 2; simp only [List.getElem?_toArray, List.getElem?_cons_zero, List.getElem?_cons_succ] at r0 r1 r2))
      go_split_ands
      have hsz := HZZ.out.lt
      go_wp2_with fail
      refine bodyPost_ret (v := .tuple #[.agg #[.slice cA wd.L.length ck, .int .i64 sent, .int .i64 dice], .slice none 0 0, .int .i64 o4, .int .i64 0]) (by simp [results, Try.results41, go_sem, r0, r1, r2]) rfl ?_
      refine HP1.out HF.out cA ck _ (OwnR.lower (((hcw.setCell (show w.heap.size + 1 + 1 + 1 < wc.heap.size from hsz) _).setCell (show w.heap.size + 1 + 1 + 1 < wc.heap.size from hsz) _).setCell (show w.heap.size + 1 + 1 + 1 < wc.heap.size from hsz) _) (show w.heap.size ≤ wc.heap.size from by omega)) ?_
      exact (((below_after hD2 hbC).setCell (by simp only; omega) _).setCell (by simp only; omega) _).setCell (by simp only; omega) _
theorem hE_lp {m : Mdl} {lp : Int} {s : StP} {e : Ev} (h : hE m lp s e = 0) : 0 ≤ lp := by
  unfold hE at h
  cases hc : chkB m
  · rw [hc] at h; simp at h
  · rw [hc, if_pos rfl] at h
    cases hb : mayB m lp s e
    · rw [hb] at h; simp at h
    · unfold mayB at hb
      simp only [Bool.and_eq_true, decide_eq_true_eq] at hb
      exact hb.1.1
/-- act.Handle, whatever it is handed. -/
theorem handle_any (m : Mdl) (lp : Int) (s : St) (e : Ev) (w : World) (hm : m.At w) (hs : s.At w) (he : EvOk e) :
    Calls Try.prog 41 #[m.val, .int .i64 lp, s.val, .agg #[.float .f64 e.1, .int .i64 e.2.1, .int .i64 e.2.2.1, .int .i64 e.2.2.2.1, .int .i64 e.2.2.2.2]] w (HanTo w (hE m lp s.pl e) (hR m lp s.pl e)) := by
  by_cases h : hE m lp s.pl e = 0
  · obtain ⟨k, rfl⟩ : ∃ k : Nat, lp = k := ⟨lp.toNat, by have := hE_lp h; omega⟩
    exact handle_good m k s e w hm hs he h
  · exact handle_bad m lp s e w hm hs h
end Go.Proofs.Ytpfcmfannkbipaa
end
