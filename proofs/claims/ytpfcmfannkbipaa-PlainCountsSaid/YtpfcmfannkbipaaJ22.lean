/- Texts of this claim in one. No condition. -/
import Derived.Test.YtpfcmfannkbipaaJ21
section
set_option linter.unusedVariables false
set_option linter.unusedSimpArgs false
set_option maxRecDepth 20000
namespace Go.Proofs.Ytpfcmfannkbipaa
open Go.RowKit Go.Deep

attribute [local go_sem] run_store_float
theorem bel_hidden (w0 W0 : World) (h : Below w0.heap.size w0 W0) : ∃ p : World → Prop, Outlives p ∧ p W0 ∧ Nonempty (Wo p) ∧ ∀ i : Wo p, Below w0.heap.size w0 i.W :=
  ⟨fun W => Below w0.heap.size w0 W, Outlives.below w0, h, ⟨⟨W0, h⟩⟩, fun i => i.ok⟩
def RhRel (wc : World) (dl : List Nat) (t fin : Nat) (lp sent : Int) (L : List Snt) (v i : Value) (wr : World) : Prop :=
  ∃ (k : Nat) (q : Sl Ev), k ≤ L.length ∧ v = q.val ∧ i = .int .i64 k ∧ (L.take k).all (sndOk dl t) = true ∧ q.L = sndV dl t fin lp sent 0 (L.take k) ∧ OwnR 37 5 encEv wr wc.heap.size q.val q.L ∧ Below wc.heap.size wc wr
set_option maxHeartbeats 4000000 in
theorem rhandle_good (m : Mdl) (lk : Nat) (s : St) (e : Ev) (w : World) (hm : m.At w) (hs : s.At w) (he : EvOk e) (hgood : hE m lk s.pl e = 0) :
    Calls Try.prog 44 #[m.val, .int .i64 lk, s.val, .agg #[.float .f64 e.1, .int .i64 e.2.1, .int .i64 e.2.2.1, .int .i64 e.2.2.2.1, .int .i64 e.2.2.2.2]] w (RHanTo w s.wd (hE m lk s.pl e) (hR m lk s.pl e)) := by
  have hRR : hR m lk s.pl e = hV m lk s.pl e := if_pos hgood
  obtain ⟨hchk, h8, hs0, hs1, hd0, hd1, hlk, hnan⟩ : chkB m = true ∧ s.wd.L.length ≤ 8 ∧ 0 ≤ s.sent ∧ s.sent ≤ 1099511627776 ∧ 0 ≤ s.dice ∧ s.dice ≤ 1099511627776 ∧ lk < m.ll.L.length ∧ ¬ isNan e.1 := by
    unfold hE at hgood
    cases hc : chkB m
    · rw [hc] at hgood; simp at hgood
    · rw [hc, if_pos rfl] at hgood
      cases hb : mayB m lk s.pl e
      · rw [hb] at hgood; simp at hgood
      · unfold mayB cntB St.pl at hb
        simp only [Bool.and_eq_true, decide_eq_true_eq] at hb
        obtain ⟨⟨b1, b2, b3, b4⟩, ⟨b5, b6⟩, b7, b8⟩ := hb
        exact ⟨rfl, b4, b5, b6, b7, b8, by omega, b3⟩
  rw [hRR, hgood]
  have hfn := (chk_parts hchk).2.1
  obtain ⟨x, sp, hx, hsp, p0, p1, hx8, hmpl⟩ := chk_lp hchk (lp := (lk : Int)) (by omega) (by omega)
  rw [Int.toNat_natCast] at hx
  obtain ⟨j, hj⟩ : ∃ j : Nat, x.1 = j := ⟨x.1.toNat, by omega⟩
  rw [hj, Int.toNat_natCast] at hsp
  rw [hj] at p1
  obtain ⟨hc1, hc2, hc3, hc4, hc5, hc6, hc7⟩ := chk_counts hchk
  obtain ⟨a, ha, a0, a1, _, _⟩ := hm.2.2.2.2.1.1 lk x hx
  obtain ⟨b, hb, b0, hspA⟩ := hm.2.2.2.1.1 j sp hsp
  rw [hj] at a0
  rw [Nat.mul_one] at b0
  have hinp : Inp.At w ⟨s.wd, e.2.2.2.2, lk, m.ll.L.length, m.seed, s.dice⟩ := ⟨hs.1, he.2.2.2.2, ⟨by simp only; omega, by simp only; omega⟩, ⟨by simp only; omega, by simp only; omega⟩, hm.1, hs.2.2⟩
  have hrun := fun W (h : Below w.heap.size w W) => rdo_any W sp ⟨s.wd, e.2.2.2.2, lk, m.ll.L.length, m.seed, s.dice⟩ (hspA.below InsAt.keeps h) (hinp.below h)
  have hok := out_ok hspA hinp
  have hOO : outV sp.L s.wd.L e.2.2.2.2 lk m.ll.L.length m.seed s.dice = hO m lk s.pl e := by unfold Go.Proofs.Ytpfcmfannkbipaa.hO; rw [hmpl]; rfl
  simp only [hOO] at hrun hok
  have P1 := fun (hf : (hO m lk s.pl e).2.2.2 ≠ 0) W (h3 : Below w.heap.size w W) =>
    (show RHanTo w s.wd 0 (hV m lk s.pl e) (.returned (.tuple #[.agg #[s.wd.val, .int .i64 s.sent, .int .i64 s.dice], .slice none 0 0, .int .i64 (hO m lk s.pl e).2.2.2, .int .i64 0])) W from by
      rw [show hV m lk s.pl e = (s.pl, [], (hO m lk s.pl e).2.2.2) from if_pos hf]; exact ⟨s, ⟨none, 0, []⟩, rfl, rfl, rfl, ⟨hs.1.below IntAt.keeps h3, .inl rfl⟩, OwnR.nil, h3⟩)
  have P2 := fun (hf : (hO m lk s.pl e).2.2.2 = 0) (ha : (hO m lk s.pl e).2.1.all (sndOk m.dl.L e.1) = false) W (h3 : Below w.heap.size w W) =>
    (show RHanTo w s.wd 0 (hV m lk s.pl e) (.returned (.tuple #[.agg #[s.wd.val, .int .i64 s.sent, .int .i64 s.dice], .slice none 0 0, .int .i64 7, .int .i64 0])) W from by
      rw [show hV m lk s.pl e = (s.pl, [], 7) from (if_neg (not_not_intro hf)).trans (if_neg (by rw [ha]; decide))]; exact ⟨s, ⟨none, 0, []⟩, rfl, rfl, rfl, ⟨hs.1.below IntAt.keeps h3, .inl rfl⟩, OwnR.nil, h3⟩)
  have P3 := fun (hf : (hO m lk s.pl e).2.2.2 = 0) (ha : (hO m lk s.pl e).2.1.all (sndOk m.dl.L e.1) = true) (A : Option Addr) (k : Nat) (q : Sl Ev) W (h1 : q.L = sndV m.dl.L e.1 m.fin lk s.sent 0 (hO m lk s.pl e).2.1) (h2 : OwnR 3 1 encInt W w.heap.size (.slice A (hO m lk s.pl e).1.length k) (hO m lk s.pl e).1) (h4 : OwnR 37 5 encEv W w.heap.size q.val q.L) (h3 : Below w.heap.size w W) =>
    (show RHanTo w s.wd 0 (hV m lk s.pl e) (.returned (.tuple #[.agg #[.slice A (hO m lk s.pl e).1.length k, .int .i64 (s.sent + ((hO m lk s.pl e).2.1.length : Int)), .int .i64 (hO m lk s.pl e).2.2.1], q.val, .int .i64 0, .int .i64 0])) W from by
      rw [show hV m lk s.pl e = (((hO m lk s.pl e).1, s.sent + ((hO m lk s.pl e).2.1.length : Int), (hO m lk s.pl e).2.2.1), sndV m.dl.L e.1 m.fin lk s.sent 0 (hO m lk s.pl e).2.1, 0) from (if_neg (not_not_intro hf)).trans (if_pos ha)]; exact ⟨⟨⟨A, k, (hO m lk s.pl e).1⟩, _, _⟩, q, rfl, rfl, h1, ⟨OwnR.sl (size := 1) (s := ⟨A, k, (hO m lk s.pl e).1⟩) (by decide) (fun _ => rfl) makes_int h2 hok.wi, .inr h2⟩, h4, h3⟩)
  have hdel := fun W (h : Below w.heap.size w W) n => rdelay_any m n W (hm.below h) (by omega) (by omega)
  generalize RHanTo w s.wd 0 _ = Post at *
  have n1 : m.ll.L.length ≤ m.ll.c ∧ m.ll.c ≤ 9223372036854775807 := hm.2.2.2.2.1.2
  have n2 : m.pl.L.length ≤ m.pl.c ∧ m.pl.c ≤ 9223372036854775807 := hm.2.2.2.1.2
  obtain ⟨hb0, hX, hS, hY, hZ⟩ := box4 w #[.int .i64 m.seed, .float .f64 m.fin, m.dl.val, m.pl.val, m.ll.val, m.il.val] #[s.wd.val, .int .i64 s.sent, .int .i64 s.dice] #[.float .f64 e.1, .int .i64 e.2.1, .int .i64 e.2.2.1, .int .i64 e.2.2.2.1, .int .i64 e.2.2.2.2] #[.slice none 0 0, .int .i64 0, .int .i64 0] 58 61 37 61
  generalize hO m lk s.pl e = O at *
  have HI := hide (And.intro a0 b0)
  have HRU := hide hrun
  have HDE := hide hdel
  have HP1 := hide P1
  have HP2 := hide P2
  have HP3 := hide P3
  have HOK := hide hok
  have HNF := hide hfn
  have ho := fo_self e.1 hnan
  clear hgood hRR hm hs he hchk hx hsp hmpl hc1 hc2 hc3 hc4 hc5 hc6 hc7 a0 b0 hinp hrun hok hOO P1 P2 P3 hdel hspA a1 hx8 hfn hnan
  obtain ⟨t, src, n, dst, pay⟩ := e
  obtain ⟨seed, fin, dl, ⟨pA, pc, pl⟩, ⟨lA, lc, ll⟩, il⟩ := m
  obtain ⟨wd, sent, dice⟩ := s
  obtain ⟨spA, spc, spl⟩ := sp
  obtain ⟨o1, o2, o3, o4⟩ := O
  simp only [Mdl.val, St.val, St.pl, Inp.val, Inp.cells, Sl.val] at *
  subst ha hb
  have q1 : ll.length ≤ 9223372036854775807 := by omega
  have q2 : pl.length ≤ 9223372036854775807 := by omega
  have q3 : (lk : Int) < (ll.length : Int) := by omega
  have q4 : wd.L.length ≤ 9223372036854775807 := by omega
  have HB := hide hb0
  clear hb0 n1 n2 hlk p0
  have e1 : decide ((lk : Int) < 0) = false := decide_eq_false (by omega)
  have e2 : decide ((ll.length : Int) ≤ (lk : Int)) = false := decide_eq_false (by omega)
  have e3 : decide (8 < (wd.L.length : Int)) = false := decide_eq_false (by omega)
  have e4 : decide (sent < 0) = false := decide_eq_false (by omega)
  have e5 : decide (1099511627776 < sent) = false := decide_eq_false (by omega)
  have e6 : decide (dice < 0) = false := decide_eq_false (by omega)
  have e7 : decide (1099511627776 < dice) = false := decide_eq_false (by omega)
  go_enter Try.func44, Try.ntmps44
  go_upto_region 1 with fail
  generalize (World.alloc (World.alloc (World.alloc (World.alloc w _) _) _) _) = w0 at *
  have x0 := hX.cell 0
  have x1 := hX.cell 1
  have x2 := hX.cell 2
  have x3 := hX.cell 3
  have x4 := hX.cell 4
  have x5 := hX.cell 5
  simp only [List.getElem?_toArray, List.getElem?_cons_zero, List.getElem?_cons_succ] at x0 x1 x2 x3 x4 x5
  have s0 := hS.cell 0
  have s1 := hS.cell 1
  have s2 := hS.cell 2
  simp only [List.getElem?_toArray, List.getElem?_cons_zero, List.getElem?_cons_succ] at s0 s1 s2
  have v0 := hY.cell 0
  have v1 := hY.cell 1
  have v2 := hY.cell 2
  have v3 := hY.cell 3
  have v4 := hY.cell 4
  simp only [List.getElem?_toArray, List.getElem?_cons_zero, List.getElem?_cons_succ] at v0 v1 v2 v3 v4
  go_upto_region 4 with fail
  clear x0 x1 x2 x3 x4 x5 s0 s1 s2 v0 v1 v2 v3 v4
  clear e1 e2 e3 e4 e5 e6 e7 ho
  have hN := Blk.new w0 112 #[.slice wd.A wd.L.length wd.c, .int .i64 pay, .int .i64 lk, .int .i64 ll.length, .int .i64 seed, .int .i64 dice]
  have hb2 := HB.out.alloc HB.out.size (.cells #[.slice wd.A wd.L.length wd.c, .int .i64 pay, .int .i64 lk, .int .i64 ll.length, .int .i64 seed, .int .i64 dice] 112)
  replace hX := hX.alloc (.cells #[.slice wd.A wd.L.length wd.c, .int .i64 pay, .int .i64 lk, .int .i64 ll.length, .int .i64 seed, .int .i64 dice] 112)
  replace hS := hS.alloc (.cells #[.slice wd.A wd.L.length wd.c, .int .i64 pay, .int .i64 lk, .int .i64 ll.length, .int .i64 seed, .int .i64 dice] 112)
  replace hY := hY.alloc (.cells #[.slice wd.A wd.L.length wd.c, .int .i64 pay, .int .i64 lk, .int .i64 ll.length, .int .i64 seed, .int .i64 dice] 112)
  replace hZ := hZ.alloc (.cells #[.slice wd.A wd.L.length wd.c, .int .i64 pay, .int .i64 lk, .int .i64 ll.length, .int .i64 seed, .int .i64 dice] 112)
  clear HB
  generalize w0.alloc _ = W at *
  generalize w0.heap.size = gN at *
  have hD : Below W.heap.size W W.drew := (Below.refl _ _).drew
  have HSS : Hid (∀ W', Below W.heap.size W W' → (W'.cell? ⟨w.heap.size, 3, none⟩ = some (.slice (some b) pl.length pc) ∧ W'.cell? ⟨w.heap.size, 4, none⟩ = some (.slice (some a) ll.length lc) ∧ W'.cell? (a.add (lk * 2)) = some (.int .i64 j) ∧ W'.cell? (b.add j) = some (.slice spA spl.length spc) ∧
      W'.cell? ⟨gN, 0, none⟩ = some (.slice wd.A wd.L.length wd.c) ∧ W'.cell? ⟨gN, 1, none⟩ = some (.int .i64 pay) ∧ W'.cell? ⟨gN, 2, none⟩ = some (.int .i64 lk) ∧ W'.cell? ⟨gN, 3, none⟩ = some (.int .i64 ll.length) ∧ W'.cell? ⟨gN, 4, none⟩ = some (.int .i64 seed) ∧ W'.cell? ⟨gN, 5, none⟩ = some (.int .i64 dice) ∧ Below W.heap.size W W')) :=
    hide fun W' h => ⟨keepc h (hX.cell 3), keepc h (hX.cell 4), keepc (below_after hb2 h) HI.out.1, keepc (below_after hb2 h) HI.out.2, keepc h (hN.cell 0), keepc h (hN.cell 1), keepc h (hN.cell 2), keepc h (hN.cell 3), keepc h (hN.cell 4), keepc h (hN.cell 5), h⟩
  have HB := hide hb2
  have HX := hide hX
  have HS := hide hS
  have HY := hide hY
  have HZ := hide hZ
  clear hb2 hX hS hY hZ hN HI
  obtain ⟨s0, s1, s2, s3, s4, s5, s6, s7, s8, s9, _⟩ := HSS.out W (Below.refl _ _)
  have jI : (j : Int) < (pl.length : Int) := p1
  have jJ : (0 : Int) ≤ (j : Int) := by omega
  have kJ : (0 : Int) ≤ (lk : Int) := by omega
  go_cut [13] (fun x wx => HanC W (o1, o2, o3, o4) x wx)
  case first =>
    go_region_held3 (fun W' => W'.cell? ⟨w.heap.size, 3, none⟩ = some (.slice (some b) pl.length pc) ∧ W'.cell? ⟨w.heap.size, 4, none⟩ = some (.slice (some a) ll.length lc) ∧ W'.cell? (a.add (lk * 2)) = some (.int .i64 j) ∧ W'.cell? (b.add j) = some (.slice spA spl.length spc) ∧
      W'.cell? ⟨gN, 0, none⟩ = some (.slice wd.A wd.L.length wd.c) ∧ W'.cell? ⟨gN, 1, none⟩ = some (.int .i64 pay) ∧ W'.cell? ⟨gN, 2, none⟩ = some (.int .i64 lk) ∧ W'.cell? ⟨gN, 3, none⟩ = some (.int .i64 ll.length) ∧ W'.cell? ⟨gN, 4, none⟩ = some (.int .i64 seed) ∧ W'.cell? ⟨gN, 5, none⟩ = some (.int .i64 dice) ∧ Below W.heap.size W W')
      (first
        | exact HSS.out _ hD
        | (go_split_ands; exact HSS.out _ (below_after (by assumption) hbR))
        | (go_split_ands; with_reducible exact HSS.out _ (Below.alloc (by assumption) (Below.size (by assumption)) _))
        | (go_split_ands; with_reducible exact HSS.out _ (Below.swap (by assumption) hsR hsR))
        | (go_split_ands; exact HSS.out _ (Below.setCell (Below.setCell (Below.setCell (Below.setCell (by assumption) (by simp) _) (by simp) _) (by simp) _) (by simp) _)))
      (first
        | (go_at_call 80; go_split_ands; refine (HRU.out _ (below_after HB.out (by assumption))).mono ?_; rintro e wR ⟨vR, rfl, hoR, hbR⟩; obtain ⟨rA, rc, rA', rc', rfl, hr1, hr2⟩ := hoR; have hsR := Nat.le_trans (Below.size (by assumption : Below W.heap.size W _)) hbR.size; try (have hG : Blk wR W.heap.size 115 #[.slice none 0 0, .slice none 0 0, .int .i64 0, .int .i64 0] := Blk.below (by first | exact (Blk.new W _ _).drew | exact Blk.new W.drew _ _) hbR (by simp); have g0 := hG.cell 0; have g1 := hG.cell 1; have g2 := hG.cell 2; have g3 := hG.cell 3; have u0 := hG.frozen 0; have u1 := hG.frozen 1; have u2 := hG.frozen 2; have u3 := hG.frozen 3; simp only [List.getElem?_toArray, List.getElem?_cons_zero, List.getElem?_cons_succ] at g0 g1 g2 g3)))
    all_goals go_split_ands
    all_goals (try go_wp2_with fail)
    all_goals go_meet
    all_goals first
      | (have hbb : Below W.heap.size W wR := below_after (((Below.refl _ _).alloc (Nat.le_refl _) _).drew) hbR
         have h1 : OwnR 3 1 encInt wR (W.heap.size + 1) (.slice rA o1.length rc) o1 := by simpa using hr1
         have h2 : OwnR 130 3 encSnt wR (W.heap.size + 1) (.slice rA' o2.length rc') o2 := by simpa using hr2
         with_reducible exact hanC_first (o := (o1, o2, o3, o4)) rfl (Nat.le_refl _) (by assumption) hbb h1 h2)
      | (have hbb : Below W.heap.size W wR := below_after hD hbR
         have h1 : OwnR 3 1 encInt wR W.heap.size (.slice rA o1.length rc) o1 := hr1
         have h2 : OwnR 130 3 encSnt wR W.heap.size (.slice rA' o2.length rc') o2 := hr2
         with_reducible exact hanC_late (o := (o1, o2, o3, o4)) hbb h1 h2)
  case rest =>
    obtain ⟨gx, A, c, A', c', rfl, hg, hO, ho1, ho2, hbW⟩ := hcut
    simp only at hO ho1 ho2
    have hX := HX.out.below hbW HX.out.lt
    have hS := HS.out.below hbW HS.out.lt
    have hY := HY.out.below hbW HY.out.lt
    have hZ := HZ.out.below hbW HZ.out.lt
    have hb := below_after HB.out hbW
    have hgs := Nat.lt_of_lt_of_le HZ.out.lt hg
    have hzW := HZ.out.lt
    clear HX HS HY HZ HSS hD s0 s1 s2 s3 s4 s5 s6 s7 s8 s9 HRU
    generalize W.heap.size = gW at *
    by_cases hf : o4 = 0
    · have HF := hide hf
      subst hf
      have hsn : Sl.At SntAt 3 wc ⟨A', c', o2⟩ := OwnR.sl (size := 3) (s := ⟨A', c', o2⟩) (by decide) (fun _ => rfl) makes_snt ho2 (fun _ _ => trivial)
      have HR := hide hsn.1
      have ho5 := HOK.out.s4
      simp only at ho5
      have HX := hide hX
      have HS := hide hS
      have HY := hide hY
      have HZ := hide hZ
      have HO := hide hO
      have HO1 := hide ho1
      have HBW := hide hbW
      have HB2 := hide hb
      have y0 := hO.cell 0
      have y1 := hO.cell 1
      have y2 := hO.cell 2
      have y3 := hO.cell 3
      simp only [List.getElem?_toArray, List.getElem?_cons_zero, List.getElem?_cons_succ] at y0 y1 y2 y3
      have hol : o2.length ≤ 9223372036854775807 := by omega
      clear hsn hX hS hY hZ hO ho1 ho2 hbW hb HB HOK HP1
      go_wp2_with fail
      clear y0 y1 y2 y3
      go_loopw [15, 16] (fun v i wr => RhRel wc dl.L t fin lk sent o2 v i wr) (fun _ i _ => o2.length - (intOf i).toNat)
      case atStart => exact ⟨0, ⟨none, 0, []⟩, Nat.zero_le _, rfl, rfl, by simp, rfl, OwnR.nil, Below.refl _ _⟩
      case round =>
        obtain ⟨k, q, hk, rfl, rfl, hall, hqL, hown, hbr⟩ := hrel
        have y1 := keepc hbr (HO.out.cell 1)
        have HBR := hide hbr
        have HOW := hide hown
        have HAL := hide hall
        have HQL := hide hqL
        clear hown hall hqL
        by_cases hlt : k < o2.length
        · have hx := List.getElem?_eq_getElem hlt
          obtain ⟨a2, hA, g0, g1, g2⟩ := (HR.out.below SntAt.keeps hbr) k _ hx
          have hA2 : A' = some a2 := hA
          clear hA
          subst hA2
          generalize o2[k] = x2 at *
          have HX2 := hide hx
          have kI : (k : Int) < (o2.length : Int) := by omega
          have kJ : (0 : Int) ≤ (k : Int) := by omega
          obtain ⟨D, hD⟩ : ∃ D, dly dl.L x2.2.1 = D := ⟨_, rfl⟩
          have hde := fun W (h : Below w.heap.size w W) => HDE.out W h x2.2.1
          rw [hD] at hde
          have hla := fun W => rlater_any t D W
          obtain ⟨T, hT⟩ : ∃ T, laterF t D = T := ⟨_, rfl⟩
          obtain ⟨U, hU⟩ : ∃ U, laterE t D = U := ⟨_, rfl⟩
          rw [hT, hU] at hla
          have hTn := hide (hT ▸ later_num t D)
          have HOKX := hide (show sndOk dl.L t x2 = decide (U = 0) by unfold sndOk; rw [hD, hU])
          have HSF := hide (show sndF dl.L t fin lk sent k x2 = if timesI T fin ≤ 0 then [(T, (lk : Int), sent + (k : Int), x2.1, x2.2.2)] else [] by unfold sndF; rw [hD, hT])
          obtain ⟨p, hO, h0, hne, hI⟩ := bel_hidden wr wr.drew (Below.refl _ _).drew
          have k0 := fun i : Wo p => keepc (below_after HBR.out (hI i)) (HY.out.cell 0)
          have m0 := fun i : Wo p => keepc (below_after HBR.out (hI i)) (HX.out.cell 0)
          have m1 := fun i : Wo p => keepc (below_after HBR.out (hI i)) (HX.out.cell 1)
          have m2 := fun i : Wo p => keepc (below_after HBR.out (hI i)) (HX.out.cell 2)
          have m3 := fun i : Wo p => keepc (below_after HBR.out (hI i)) (HX.out.cell 3)
          have m4 := fun i : Wo p => keepc (below_after HBR.out (hI i)) (HX.out.cell 4)
          have m5 := fun i : Wo p => keepc (below_after HBR.out (hI i)) (HX.out.cell 5)
          have k1 := fun i : Wo p => keepc (hI i) y1
          have k2 := fun i : Wo p => keepc (hI i) g1
          have HBI := hide (fun i : Wo p => below_after HB2.out (below_after HBR.out (hI i)))
          have HI := hide hI
          have HP := hide hO
          have H0 := hide h0
          clear hI hO h0 hbr hx hD hT hU g0 g1 g2
          go_upto_region 11 with fail
          refine wp_region_quietC (by kernel_rfl) (by kernel_rfl) H0.out ?_
          repeat (go_big_quiet_step (first
            | (go_at_call 82; exact Calls.quietC HP.out (hde _ (HBI.out _)))
            | (go_at_call 81; exact Calls.quietC HP.out (hla _))))
          refine wpQuiet_nil ?_
          intro _ hw'
          obtain ⟨i, rfl⟩ := hw'
          have hi := HI.out i
          generalize i.W = W1 at *
          have HW := hide (below_after HBR.out hi)
          have hS1 := keepc HW.out (HS.out.cell 0)
          have hS2 := keepc HW.out (HS.out.cell 1)
          have hS3 := keepc HW.out (HS.out.cell 2)
          have hZ1 := HZ.out.below HW.out HZ.out.lt
          have hown1 := HOW.out.below hi
          have HOW1 := hide hown1
          have l1 := keepc HW.out (HX.out.cell 1)
          have y2 := keepc HW.out (HO.out.cell 1)
          clear k0 m0 m1 m2 m3 m4 m5 k1 k2 HBI HI HP H0 hne i hown1 y1 HOW hla hde hi
          by_cases hU : U = 0
          · subst hU
            have HALL := hide ((all_take_succ (sndOk dl.L t) o2 k x2 HX2.out).trans (by rw [HAL.out, HOKX.out]))
            clear hZ1
            rcases le_ways T fin hTn.out HNF.out with ⟨z1, z2⟩ | ⟨z1, z2⟩ | ⟨z1, z2⟩
            · have HSN := hide ((sndV_take (dl := dl.L) (t := t) (fin := fin) (lp := (lk : Int)) (sent := sent) HX2.out).trans (by rw [HSF.out, if_pos z1]))
              obtain ⟨q2, w2, hrun, hq2, hown2, hbw2⟩ := ev_add (wc := wc) (wr := W1.drew) (HOW1.out.below (Below.refl _ _).drew) HW.out.drew (T, (lk : Int), sent + (k : Int), x2.1, x2.2.2) (by rw [HQL.out]; exact Nat.le_trans (sndV_len dl.L t fin lk sent (o2.take k) 0) (by rw [List.length_take]; omega)) 65
              simp only at hrun hq2 hown2
              rw [show W1.drew.heap.size = W1.heap.size from rfl] at hrun
              have HO2 := hide (show OwnR 37 5 encEv w2 wc.heap.size q2.val q2.L from by rw [hq2]; exact hown2)
              have HQ2 := hide (show q2.L = sndV dl.L t fin (lk : Int) sent 0 (o2.take (k + 1)) from by rw [hq2, HQL.out, HSN.out])
              have HW2 := hide hbw2
              obtain ⟨b2, hA2, g0, g1, g2⟩ := (HR.out.below SntAt.keeps HW.out) k _ HX2.out
              have hA3 : a2 = b2 := Option.some.inj hA2
              clear hA2
              subst hA3
              have hw : IntKind.i64.wrap (sent + (k : Int)) = sent + (k : Int) := IntWalk.i64_in _ (by omega)
              have CD := hide (fun o => And.intro (keepc ((Below.refl W1.drew.heap.size W1.drew).alloc (Nat.le_refl _) o) hS2) (And.intro (keepc ((Below.refl W1.drew.heap.size W1.drew).alloc (Nat.le_refl _) o) y2) (And.intro (keepc ((Below.refl W1.drew.heap.size W1.drew).alloc (Nat.le_refl _) o) g0) (keepc ((Below.refl W1.drew.heap.size W1.drew).alloc (Nat.le_refl _) o) g2))))
              clear z1 hown2 hq2 hbw2 g1 HX2 HSF HOKX HSN
              go_upto_region 15 with fail
              clear z2 l1 hS1 hS3
              refine wp_region_reads (fun w' => w'.cell? ⟨w.heap.size + 1, 1, none⟩ = some (.int .i64 sent) ∧ w'.cell? ⟨gx, 1, none⟩ = some (.slice (some a2) o2.length c') ∧ w'.cell? (a2.add (k * 3)) = some (.int .i64 x2.1) ∧ w'.cell? ⟨(a2.add (k * 3)).block, (a2.add (k * 3)).off + 2, none⟩ = some (.int .i64 x2.2.2))
                q.val 20 1 (by kernel_rfl) (by kernel_rfl) (Or.inl ⟨by rfl, fun w => by rfl⟩) (fun _ _ _ h => h) ⟨hS2, y2, g0, g2⟩ ?_
              simp only [Act.put, List.setIfInBounds_toArray, List.set_cons_zero, List.set_cons_succ, List.take_succ_cons, List.take_zero, List.drop_succ_cons, List.drop_zero]
              repeat (refine head_step ?_ (by rfl) ?_ (fun _ _ _ h => h) ?_; rotate_left; (intro w' hs; obtain ⟨zs, zy, zg, zh⟩ := hs; go_simp; (try with_reducible rfl)); (try simp only [Act.put, List.setIfInBounds_toArray, List.set_cons_zero, List.set_cons_succ]))
              refine head_nil ?_
              clear hS2 y2 g0 g2
              refine mid_step _ (W1.drew.alloc (.cells #[.float .f64 T, .int .i64 lk, .int .i64 (sent + (k : Int)), .int .i64 x2.1, .int .i64 x2.2.2] 37)) (by rfl) (by go_simp; rfl) (CD.out _) ?_
              refine mid_nil ?_
              simp only [Act.put, List.setIfInBounds_toArray, List.set_cons_zero, List.set_cons_succ]
              clear CD
              go_wp2_with (at_builtin; refine wpList_of_append rfl _ w2 (.tmp 127) (.tmp 148) 65 _ _ _ rfl rfl rfl hrun ?_)
              go_roundw
              case rel => exact ⟨k + 1, q2, by omega, rfl, by go_num, HALL.out, HQ2.out, HO2.out, HW2.out⟩
              case measure => simp [intOf]; omega
            · have HSN := hide ((sndV_take (dl := dl.L) (t := t) (fin := fin) (lp := (lk : Int)) (sent := sent) HX2.out).trans (by rw [HSF.out, if_pos z1]))
              obtain ⟨q2, w2, hrun, hq2, hown2, hbw2⟩ := ev_add (wc := wc) (wr := W1.drew) (HOW1.out.below (Below.refl _ _).drew) HW.out.drew (T, (lk : Int), sent + (k : Int), x2.1, x2.2.2) (by rw [HQL.out]; exact Nat.le_trans (sndV_len dl.L t fin lk sent (o2.take k) 0) (by rw [List.length_take]; omega)) 65
              simp only at hrun hq2 hown2
              rw [show W1.drew.heap.size = W1.heap.size from rfl] at hrun
              have HO2 := hide (show OwnR 37 5 encEv w2 wc.heap.size q2.val q2.L from by rw [hq2]; exact hown2)
              have HQ2 := hide (show q2.L = sndV dl.L t fin (lk : Int) sent 0 (o2.take (k + 1)) from by rw [hq2, HQL.out, HSN.out])
              have HW2 := hide hbw2
              obtain ⟨b2, hA2, g0, g1, g2⟩ := (HR.out.below SntAt.keeps HW.out) k _ HX2.out
              have hA3 : a2 = b2 := Option.some.inj hA2
              clear hA2
              subst hA3
              have hw : IntKind.i64.wrap (sent + (k : Int)) = sent + (k : Int) := IntWalk.i64_in _ (by omega)
              have CD := hide (fun o => And.intro (keepc ((Below.refl W1.drew.heap.size W1.drew).alloc (Nat.le_refl _) o) hS2) (And.intro (keepc ((Below.refl W1.drew.heap.size W1.drew).alloc (Nat.le_refl _) o) y2) (And.intro (keepc ((Below.refl W1.drew.heap.size W1.drew).alloc (Nat.le_refl _) o) g0) (keepc ((Below.refl W1.drew.heap.size W1.drew).alloc (Nat.le_refl _) o) g2))))
              clear z1 hown2 hq2 hbw2 g1 HX2 HSF HOKX HSN
              go_upto_region 15 with fail
              clear z2 l1 hS1 hS3
              refine wp_region_reads (fun w' => w'.cell? ⟨w.heap.size + 1, 1, none⟩ = some (.int .i64 sent) ∧ w'.cell? ⟨gx, 1, none⟩ = some (.slice (some a2) o2.length c') ∧ w'.cell? (a2.add (k * 3)) = some (.int .i64 x2.1) ∧ w'.cell? ⟨(a2.add (k * 3)).block, (a2.add (k * 3)).off + 2, none⟩ = some (.int .i64 x2.2.2))
                q.val 20 1 (by kernel_rfl) (by kernel_rfl) (Or.inl ⟨by rfl, fun w => by rfl⟩) (fun _ _ _ h => h) ⟨hS2, y2, g0, g2⟩ ?_
              simp only [Act.put, List.setIfInBounds_toArray, List.set_cons_zero, List.set_cons_succ, List.take_succ_cons, List.take_zero, List.drop_succ_cons, List.drop_zero]
              repeat (refine head_step ?_ (by rfl) ?_ (fun _ _ _ h => h) ?_; rotate_left; (intro w' hs; obtain ⟨zs, zy, zg, zh⟩ := hs; go_simp; (try with_reducible rfl)); (try simp only [Act.put, List.setIfInBounds_toArray, List.set_cons_zero, List.set_cons_succ]))
              refine head_nil ?_
              clear hS2 y2 g0 g2
              refine mid_step _ (W1.drew.alloc (.cells #[.float .f64 T, .int .i64 lk, .int .i64 (sent + (k : Int)), .int .i64 x2.1, .int .i64 x2.2.2] 37)) (by rfl) (by go_simp; rfl) (CD.out _) ?_
              refine mid_nil ?_
              simp only [Act.put, List.setIfInBounds_toArray, List.set_cons_zero, List.set_cons_succ]
              clear CD
              go_wp2_with (at_builtin; refine wpList_of_append rfl _ w2 (.tmp 127) (.tmp 148) 65 _ _ _ rfl rfl rfl hrun ?_)
              go_roundw
              case rel => exact ⟨k + 1, q2, by omega, rfl, by go_num, HALL.out, HQ2.out, HO2.out, HW2.out⟩
              case measure => simp [intOf]; omega
            · have HSN := hide ((sndV_take (dl := dl.L) (t := t) (fin := fin) (lp := (lk : Int)) (sent := sent) HX2.out).trans (by rw [HSF.out, if_neg z1, List.append_nil]))
              clear z1 hS1 hS2 hS3 HX2 HSF HOKX
              go_wp2_with fail
              go_roundw
              case rel => exact ⟨k + 1, q, by omega, rfl, by go_num, HALL.out, HQL.out.trans HSN.out.symm, HOW1.out, HW.out⟩
              case measure => simp [intOf]; omega
          · have hUb : (U != 0) = true := by rw [bne_iff_ne]; exact hU
            have hUc : (U == 0) = false := by rw [beq_eq_false_iff_ne]; exact hU
            have HOF := hide (all_fail (sndOk dl.L t) o2 k x2 HX2.out (HOKX.out.trans (decide_eq_false hU)))
            have r0 := hZ1.cell 0
            have r1 := hZ1.cell 1
            have r2 := hZ1.cell 2
            simp only [List.getElem?_toArray, List.getElem?_cons_zero, List.getElem?_cons_succ] at r0 r1 r2
            have f0 := hZ1.frozen 0
            have f1 := hZ1.frozen 1
            have f2 := hZ1.frozen 2
            clear hU hZ1 HOKX HSF HX2
            go_wp2_with fail
            refine bodyPost_ret (v := .tuple #[.agg #[.slice wd.A wd.L.length wd.c, .int .i64 sent, .int .i64 dice], .slice none 0 0, .int .i64 7, .int .i64 0]) (by simp [results, Try.results44, go_sem, r0, r1, r2]) rfl ?_
            refine HP2.out HF.out HOF.out _ ?_
            exact (((below_after HB2.out HW.out).setCell (by simp only; omega) _).setCell (by simp only; omega) _).setCell (by simp only; omega) _
        · obtain rfl : k = o2.length := by omega
          rw [List.take_length] at HAL HQL
          have hX1 := HS.out.below HBR.out HS.out.lt
          have hO1 := HO.out.below HBR.out HO.out.lt
          have hZ1 := HZ.out.below HBR.out HZ.out.lt
          have hzl := HZ.out.lt
          have HOO := hide (HO1.out.below (HBR.out.mono (Nat.le_refl _)))
          have hw : IntKind.i64.wrap (sent + (o2.length : Int)) = sent + (o2.length : Int) := IntWalk.i64_in _ (by omega)
          have s0 := hX1.cell 0
          have s1 := hX1.cell 1
          have s2 := hX1.cell 2
          simp only [List.getElem?_toArray, List.getElem?_cons_zero, List.getElem?_cons_succ] at s0 s1 s2
          have z0 := hO1.cell 0
          have z1 := hO1.cell 1
          have z2 := hO1.cell 2
          have z3 := hO1.cell 3
          simp only [List.getElem?_toArray, List.getElem?_cons_zero, List.getElem?_cons_succ] at z0 z1 z2 z3
          have r0 := hZ1.cell 0
          have r1 := hZ1.cell 1
          have r2 := hZ1.cell 2
          simp only [List.getElem?_toArray, List.getElem?_cons_zero, List.getElem?_cons_succ] at r0 r1 r2
          have f0 := hZ1.frozen 0
          have f1 := hZ1.frozen 1
          have f2 := hZ1.frozen 2
          have HB3 := hide (below_after HB2.out HBR.out)
          obtain ⟨qA, qc, qL⟩ := q
          simp only [Sl.val] at *
          clear hX1 hO1 hZ1 y1 HBR hbr
          go_wp2_with fail
          refine bodyPost_ret (v := .tuple #[.agg #[.slice A o1.length c, .int .i64 (sent + (o2.length : Int)), .int .i64 o3], .slice qA qL.length qc, .int .i64 0, .int .i64 0]) (by simp [results, Try.results44, go_sem, r0, r1, r2]) rfl ?_
          refine HP3.out HF.out HAL.out A c ⟨qA, qc, qL⟩ _ HQL.out ?_ ?_ ?_
          · exact OwnR.lower (((HOO.out.setCell (by simp only; omega) _).setCell (by simp only; omega) _).setCell (by simp only; omega) _) (by omega)
          · exact OwnR.lower (((HOW.out.setCell (by simp only; omega) _).setCell (by simp only; omega) _).setCell (by simp only; omega) _) (by omega)
          · exact ((HB3.out.setCell (by simp only; omega) _).setCell (by simp only; omega) _).setCell (by simp only; omega) _
    · have hfb : (o4 != 0) = true := by rw [bne_iff_ne]; exact hf
      have hfc : (o4 == 0) = false := by rw [beq_eq_false_iff_ne]; exact hf
      have HF := hide hf
      have y0 := hO.cell 0
      have y1 := hO.cell 1
      have y2 := hO.cell 2
      have y3 := hO.cell 3
      simp only [List.getElem?_toArray, List.getElem?_cons_zero, List.getElem?_cons_succ] at y0 y1 y2 y3
      have s0 := hS.cell 0
      have s1 := hS.cell 1
      have s2 := hS.cell 2
      simp only [List.getElem?_toArray, List.getElem?_cons_zero, List.getElem?_cons_succ] at s0 s1 s2
      have r0 := hZ.cell 0
      have r1 := hZ.cell 1
      have r2 := hZ.cell 2
      simp only [List.getElem?_toArray, List.getElem?_cons_zero, List.getElem?_cons_succ] at r0 r1 r2
      have f0 := hZ.frozen 0
      have f1 := hZ.frozen 1
      have f2 := hZ.frozen 2
      have HBB := hide hb
      have hne3 : w.heap.size + 1 + 1 + 1 ≠ gx := by omega
      clear hf hZ hb hX hY hO hS ho1 ho2 hbW HB
      go_wp2_with fail
      go_region
      all_goals
        go_wp2_with fail
        refine bodyPost_ret (v := .tuple #[.agg #[.slice wd.A wd.L.length wd.c, .int .i64 sent, .int .i64 dice], .slice none 0 0, .int .i64 o4, .int .i64 0]) (by simp [results, Try.results44, go_sem, r0, r1, r2]) rfl ?_
        refine HP1.out HF.out _ ?_
        exact ((HBB.out.drew.setCell (by simp only; omega) _).setCell (by simp only; omega) _).setCell (by simp only; omega) _
end Go.Proofs.Ytpfcmfannkbipaa
end
