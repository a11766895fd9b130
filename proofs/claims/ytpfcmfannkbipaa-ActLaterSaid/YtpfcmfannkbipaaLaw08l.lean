/- The walk of the law ActLater. No condition. -/
import Derived.Test.YtpfcmfannkbipaaHan8
import Derived.Test.YtpfcmfannkbipaaAw8c
set_option linter.unusedVariables false
set_option linter.unusedSimpArgs false
set_option maxRecDepth 20000
namespace Go.Proofs.Ytpfcmfannkbipaa
open Go.RowKit Go.Deep

attribute [local go_sem] run_store_float
theorem skey_norm (s : Nat) : ¬ isNan s → skey (normF s) = skey s := by
  intro hn
  unfold normF
  split
  · rename_i h
    rcases h with h | h
    · exact absurd h hn
    · rw [h]; exact skey_zero
  · rfl
/-- What is later is later. -/
theorem later_gt {t d : Nat} (h : laterE t d = 0) : skey t < skey (laterF t d) := by
  unfold laterE at h
  unfold laterF
  cases hs : laterS t d with
  | none => rw [hs] at h; exact absurd h (by decide)
  | some s =>
    simp only
    unfold laterS at hs
    split at hs
    · cases hs
    · split at hs
      · cases hs
      · split at hs
        · cases hs
        · rename_i h1 s' h2 h3
          obtain rfl : s' = s := Option.some.inj hs
          rw [skey_norm _ (fun hn => h3 (.inl hn))]
          omega
/-- Events that are later, not above the end, of one sender, their numbers rising. -/
def Rises (t fin : Nat) (lp nl hi : Int) : Int → List Ev → Prop
  | _, [] => True
  | n, x :: r => (FloatKind.f64.format.order x.1 t = some .gt ∧ (FloatKind.f64.format.order x.1 fin = some .lt ∨ FloatKind.f64.format.order x.1 fin = some .eq) ∧ x.2.1 = lp ∧ n ≤ x.2.2.1 ∧ x.2.2.1 < hi ∧ 0 ≤ x.2.2.2.1 ∧ x.2.2.2.1 < nl) ∧ Rises t fin lp nl hi (x.2.2.1 + 1) r
theorem Rises.low {t fin : Nat} {lp nl hi n n' : Int} (hn : n' ≤ n) : ∀ {L : List Ev}, Rises t fin lp nl hi n L → Rises t fin lp nl hi n' L
  | [], _ => trivial
  | x :: r, h => ⟨⟨h.1.1, h.1.2.1, h.1.2.2.1, Int.le_trans hn h.1.2.2.2.1, h.1.2.2.2.2⟩, h.2⟩
theorem snd_rises (dl : List Nat) (t fin : Nat) (lp sent nl : Int) (ht : ¬ isNan t) (hf : ¬ isNan fin) : ∀ (L : List Snt) (k : Nat), L.all (sndOk dl t) = true → (∀ z ∈ L, 0 ≤ z.1 ∧ z.1 < nl) → Rises t fin lp nl (sent + (k : Int) + (L.length : Int)) (sent + (k : Int)) (sndV dl t fin lp sent k L)
  | [], _, _, _ => trivial
  | x :: r, k, ha, hz => by
    rw [List.all_cons, Bool.and_eq_true] at ha
    have ih := snd_rises dl t fin lp sent nl ht hf r (k + 1) ha.2 (fun z hm => hz z (List.mem_cons_of_mem _ hm))
    have e1 : sent + ((k + 1 : Nat) : Int) + (r.length : Int) = sent + (k : Int) + ((x :: r).length : Int) := by simp only [List.length_cons]; omega
    rw [e1] at ih
    have hx := hz x (List.mem_cons_self ..)
    have hok : laterE t (dly dl x.2.1) = 0 := by have := ha.1; unfold sndOk at this; simpa using this
    unfold sndV sndF
    split
    · rename_i hle
      have hnT := later_num t (dly dl x.2.1)
      refine ⟨⟨fo_gt _ _ hnT ht (later_gt hok), ?_, rfl, Int.le_refl _, ?_, hx.1, hx.2⟩, ?_⟩
      · rcases le_ways _ fin hnT hf with ⟨_, h⟩ | ⟨_, h⟩ | ⟨h, _⟩
        · exact .inl h
        · exact .inr h
        · exact absurd hle h
      · simp only [List.length_cons]; omega
      · refine Rises.low ?_ ih
        simp only; omega
    · refine Rises.low ?_ ih
      omega
theorem Rises.at_ {t fin : Nat} {lp nl hi : Int} : ∀ {L : List Ev} {n : Int} {k : Nat} {x : Ev}, Rises t fin lp nl hi n (L.drop k) → L[k]? = some x → (FloatKind.f64.format.order x.1 t = some .gt ∧ (FloatKind.f64.format.order x.1 fin = some .lt ∨ FloatKind.f64.format.order x.1 fin = some .eq) ∧ x.2.1 = lp ∧ n ≤ x.2.2.1 ∧ x.2.2.1 < hi ∧ 0 ≤ x.2.2.2.1 ∧ x.2.2.2.1 < nl) ∧ Rises t fin lp nl hi (x.2.2.1 + 1) (L.drop (k + 1)) := by
  intro L n k x h hx
  obtain ⟨hk, rfl⟩ := List.getElem?_eq_some_iff.1 hx
  rw [List.drop_eq_getElem_cons hk] at h
  exact h
/-- What ActLater asks, plainly. -/
structure LatOk (m : Mdl) (lp : Int) (s : St) (e : Ev) (R : StP × List Ev × Int) : Prop where
  nan : ¬ isNan e.1
  fin : ¬ isNan m.fin
  rise : Rises e.1 m.fin lp m.ll.L.length R.1.2.1 s.sent R.2.1
  sent : s.sent ≤ R.1.2.1
  dice : s.dice ≤ R.1.2.2
  len : R.1.1.length = s.wd.L.length
  cnt : 0 ≤ s.sent ∧ R.1.2.1 ≤ 2000000000000
theorem vone_d (W : Int) (x : Ins4) (s : VS) : (vone W x s).d = s.d ∨ (vone W x s).d = wrap64 (s.d + 1) := by
  unfold vone VS.put
  repeat' split
  all_goals first | exact .inl rfl | exact .inr rfl
theorem vrun_d (p : List Ins4) (W lps : Int) : ∀ (k : Nat) (s : VS), 0 ≤ s.d → s.d + (k : Int) ≤ 4000000000000 → s.d ≤ (vrun p W lps k s).1.d ∧ (vrun p W lps k s).1.d ≤ s.d + (k : Int) := by
  intro k
  induction k with
  | zero =>
    intro s h0 h1
    unfold vrun
    split <;> simp
  | succ k ih =>
    intro s h0 h1
    unfold vrun
    split
    · simp only; omega
    · simp only
      split
      · simp only [VS.tick]; omega
      · split
        · have hd : (vone W (p.getD s.at_ (0, 0, 0, 0)) s.tick).d = s.d ∨ (vone W (p.getD s.at_ (0, 0, 0, 0)) s.tick).d = wrap64 (s.d + 1) := vone_d W _ s.tick
          have hw : wrap64 (s.d + 1) = s.d + 1 := IntWalk.wrap64_in _ (by omega)
          rw [hw] at hd
          have := ih (vone W (p.getD s.at_ (0, 0, 0, 0)) s.tick) (by omega) (by omega)
          omega
        · simp only [VS.tick]; omega
theorem vmay_zero {p : List Ins4} {nw : Nat} (h : progB p = true) (h8 : nw ≤ 8) : vmay p nw = 0 := by
  unfold progB at h
  simp only [Bool.and_eq_true, decide_eq_true_eq] at h
  unfold vmay
  rw [if_neg (by omega)]
  have hall : (p.all fun x => insB x.1 x.2.1 x.2.2.1 x.2.2.2 p.length) = true := h.1
  rw [if_pos hall, if_neg (by omega)]
theorem lat_ok {m : Mdl} {lp : Int} {s : St} {e : Ev} {w : World} (hm : m.At w) (hs : s.At w) (he : EvOk e) (h : hE m lp s.pl e = 0) (hf : (hR m lp s.pl e).2.2 = 0) : LatOk m lp s e (hR m lp s.pl e) := by
  obtain ⟨hchk, h0, h1, hnan, h8, hs0, hd0⟩ := hE_parts h
  have ho := hO_ok hm hs he h
  obtain ⟨x, sp, hx, hsp, p0, p1, hx8, hmpl⟩ := chk_lp hchk h0 h1
  have hpb : progB sp.L = true := List.all_eq_true.1 (chk_parts hchk).2.2.2.1 _ (List.mem_of_getElem? hsp)
  obtain ⟨b, hb, b0, hspA⟩ := hm.2.2.2.1.1 _ sp hsp
  obtain ⟨hc1, hc2, _⟩ := chk_counts hchk
  have hfn := (chk_parts hchk).2.1
  have hOO : outV sp.L s.wd.L e.2.2.2.2 lp m.ll.L.length m.seed s.dice = hO m lp s.pl e := by unfold hO; rw [hmpl]; rfl
  have hhR : hR m lp s.pl e = hV m lp s.pl e := if_pos h
  rw [hhR] at hf ⊢
  simp only [St.pl] at h8 hs0 hd0
  have hmy : vmay sp.L s.wd.L.length = 0 := vmay_zero hpb h8
  unfold hV at hf ⊢
  by_cases hff : (hO m lp s.pl e).2.2.2 ≠ 0
  · rw [if_pos hff] at hf
    exact absurd hf hff
  rw [if_neg hff] at hf ⊢
  by_cases hall : (hO m lp s.pl e).2.1.all (sndOk m.dl.L e.1) = true
  · rw [if_pos hall] at hf ⊢
    have hz : (vall sp.L s.wd.L e.2.2.2.2 lp m.ll.L.length m.seed s.dice).2 = 0 := by
      have := Decidable.not_not.1 hff
      rw [← hOO] at this
      unfold outV at this
      rw [if_pos hmy] at this
      split at this
      · assumption
      · exact this
    have hO1 : hO m lp s.pl e = ((vall sp.L s.wd.L e.2.2.2.2 lp m.ll.L.length m.seed s.dice).1.w, (vall sp.L s.wd.L e.2.2.2.2 lp m.ll.L.length m.seed s.dice).1.s, (vall sp.L s.wd.L e.2.2.2.2 lp m.ll.L.length m.seed s.dice).1.d, 0) := by
      rw [← hOO]
      unfold outV
      rw [if_pos hmy, if_pos hz]
    obtain ⟨g1, g2, g3, g4⟩ := vmay_ok hmy
    have hv := vrun_ok (W := wordI m.seed lp) (lps := (m.ll.L.length : Int)) (nw := s.wd.L.length) (ins_ok hspA g3) 120 (vbeg s.wd.L e.2.2.2.2 lp m.ll.L.length s.dice) (vbeg_ok (sl_ints hs.1) h8 he.2.2.2.2 ⟨by omega, by omega⟩ ⟨by omega, by omega⟩ hs.2.2)
    have hdd := vrun_d sp.L (wordI m.seed lp) (m.ll.L.length : Int) 120 (vbeg s.wd.L e.2.2.2.2 lp m.ll.L.length s.dice) (by show (0 : Int) ≤ s.dice; omega) (by show s.dice + (120 : Int) ≤ 4000000000000; omega)
    have hr := snd_rises m.dl.L e.1 m.fin lp s.sent m.ll.L.length hnan hfn (hO m lp s.pl e).2.1 0 hall (fun z hz => ⟨(ho.si z hz).1, (ho.si z hz).2.1⟩)
    have h4 : ((hO m lp s.pl e).2.1.length : Int) ≤ 4 := by have := ho.s4; omega
    have hs2 : (s.pl).2.1 = s.sent := rfl
    have e0 : s.sent + ((0 : Nat) : Int) = s.sent := by omega
    rw [e0] at hr
    refine ⟨hnan, hfn, hr, by show s.sent ≤ s.sent + ((hO m lp s.pl e).2.1.length : Int); omega, ?_, ?_, ⟨hs0.1, by show s.sent + ((hO m lp s.pl e).2.1.length : Int) ≤ 2000000000000; omega⟩⟩
    · simp only [hO1]
      exact hdd.1
    · simp only [hO1]
      exact hv.1.wl
  · rw [if_neg hall] at hf
    exact absurd (show (7 : Int) = 0 from hf) (by decide)
set_option maxHeartbeats 4000000 in
theorem later_walk8 (c : Cas) (w : World) (h : c.At w) : Calls Try.prog 9 #[c.val] w fun e w' => e = .returned (.bool true) ∧ Below w.heap.size w w' := by
  have hX := Blk.new w 63 c.cells
  have hb0 : Below w.heap.size w (w.alloc (.cells c.cells 63)) := (Below.refl _ _).alloc (Nat.le_refl _) _
  have HLI := hide (light8_any c _ (h.below hb0))
  have HHA := hide (fun W (hb : Below w.heap.size w W) => handlew_any c.m c.lp c.s c.e W (h.m.below hb) (h.s.below hb) h.e)
  have HOK := hide (hR_ok (lp := c.lp) h.m h.s h.e)
  have HSS := hide h.s
  have HLAT := hide (fun (h1 : hE c.m c.lp c.s.pl c.e = 0) (h2 : (hR c.m c.lp c.s.pl c.e).2.2 = 0) => lat_ok h.m h.s h.e h1 h2)
  -- what comes where it may not be handled, or goes wrong
  have HBAD := hide (show hE c.m c.lp c.s.pl c.e ≠ 0 ∨ (hR c.m c.lp c.s.pl c.e).2.2 ≠ 0 → (hR c.m c.lp c.s.pl c.e).2.1 = [] ∧ (hE c.m c.lp c.s.pl c.e = 0 → (hR c.m c.lp c.s.pl c.e).1 = c.s.pl) from fun hh => by
    by_cases hz : hE c.m c.lp c.s.pl c.e = 0
    · have hhR : hR c.m c.lp c.s.pl c.e = hV c.m c.lp c.s.pl c.e := if_pos hz
      rw [hhR] at hh ⊢
      have hh2 := hh.resolve_left (fun h => h hz)
      unfold hV at hh2 ⊢
      split
      · exact ⟨rfl, fun _ => rfl⟩
      · split
        · rename_i h1 h2
          rw [if_neg h1, if_pos h2] at hh2
          exact absurd rfl hh2
        · exact ⟨rfl, fun _ => rfl⟩
    · have hhR : hR c.m c.lp c.s.pl c.e = (([], 0, 0), [], 0) := if_neg hz
      rw [hhR]
      exact ⟨rfl, fun h => absurd h hz⟩)
  generalize lightC c = LB at *
  generalize hE c.m c.lp c.s.pl c.e = E at *
  generalize hRg : hR c.m c.lp c.s.pl c.e = R at *
  have n1 := h.m.2.2.2.2.1.2
  have n2 := h.s.1.2
  clear h hRg
  obtain ⟨⟨seed, fin, dl, pl, ⟨lA, lc, ll⟩, il⟩, lp, ⟨⟨sA, sc, sl⟩, sent, dice⟩, ⟨et, es, en, ed, ep⟩⟩ := c
  obtain ⟨⟨r1, r2, r3⟩, r4, r5⟩ := R
  simp only [Cas.val, Cas.cells, Mdl.val, St.val, St.pl] at *
  generalize hdv : dl.val = v2 at *
  generalize hpv : pl.val = v3 at *
  generalize hiv : il.val = v5 at *
  simp only [Sl.val] at *
  have q1 : ll.length ≤ 9223372036854775807 := by omega
  have q2 : sl.length ≤ 9223372036854775807 := by omega
  have HB := hide hb0
  clear hdv hpv hiv hb0 n1 n2
  have x0 := hX.cell 0
  have x1 := hX.cell 1
  have x2 := hX.cell 2
  have x3 := hX.cell 3
  have x4 := hX.cell 4
  have x5 := hX.cell 5
  have x6 := hX.cell 6
  have x7 := hX.cell 7
  have x8 := hX.cell 8
  have x9 := hX.cell 9
  have x10 := hX.cell 10
  have x11 := hX.cell 11
  have x12 := hX.cell 12
  have x13 := hX.cell 13
  have x14 := hX.cell 14
  simp only [List.getElem?_toArray, List.getElem?_cons_zero, List.getElem?_cons_succ] at x0 x1 x2 x3 x4 x5 x6 x7 x8 x9 x10 x11 x12 x13 x14
  go_enter Try.func9, Try.ntmps9
  go_upto_region 1 with fail
  generalize World.alloc w _ = w0 at *
  go_wp2_with fail
  refine HLI.out.mono ?_
  rintro e w1 ⟨rfl, hb1⟩
  clear x0 x1 x2 x3 x4 x5 x6 x7 x8 x9 x10 x11 x12 x13 x14
  replace hX := hX.below hb1 hX.lt
  have hb2 := below_after HB.out hb1
  clear HB HLI hb1
  cases LB
  · clear HHA HOK HLAT HBAD HSS hX
    have HB := hide hb2
    clear hb2
    go_wp2_with fail
    refine (awake08 _).mono ?_
    rintro e w2 ⟨rfl, hb1⟩
    have HE := hide (below_after HB.out hb1)
    clear hb1 HB
    go_wp2_with fail
    go_ret
    exact ⟨rfl, HE.out⟩
  · have HB := hide hb2
    have x0 := hX.cell 0
    have x1 := hX.cell 1
    have x2 := hX.cell 2
    have x3 := hX.cell 3
    have x4 := hX.cell 4
    have x5 := hX.cell 5
    have x6 := hX.cell 6
    have x7 := hX.cell 7
    have x8 := hX.cell 8
    have x9 := hX.cell 9
    have x10 := hX.cell 10
    have x11 := hX.cell 11
    have x12 := hX.cell 12
    have x13 := hX.cell 13
    have x14 := hX.cell 14
    simp only [List.getElem?_toArray, List.getElem?_cons_zero, List.getElem?_cons_succ] at x0 x1 x2 x3 x4 x5 x6 x7 x8 x9 x10 x11 x12 x13 x14
    go_upto_region 3 with fail
    go_wp2_with fail
    refine (HHA.out _ HB.out).mono ?_
    rintro e w2 ⟨⟨aA, ac, aL⟩, ⟨qA, qc, qL⟩, rfl, haL, hqL, hwA, hqA, _, _, hb3⟩
    have haL2 : aL = r1 := haL
    have hqL2 : qL = r4 := hqL
    clear haL hqL
    subst haL2 hqL2
    clear x0 x1 x2 x3 x4 x5 x6 x7 x8 x9 x10 x11 x12 x13 x14
    replace hX := hX.below hb3 hX.lt
    replace hb2 := below_after HB.out hb3
    clear HB HHA hb3
    simp only [Sl.val]
    have hS := Blk.new w2 61 #[.slice aA aL.length ac, .int .i64 r2, .int .i64 r3]
    replace hX := hX.alloc (.cells #[.slice aA aL.length ac, .int .i64 r2, .int .i64 r3] 61)
    have ha := (Below.refl w2.heap.size w2).alloc (Nat.le_refl _) (.cells #[.slice aA aL.length ac, .int .i64 r2, .int .i64 r3] 61)
    replace hwA := hwA.below IntAt.keeps ha
    replace hqA := hqA.below EvB.keeps ha
    have HB := hide (below_after hb2 ha)
    clear hb2 ha
    go_upto_region 4 with fail
    generalize World.alloc w2 _ = w3 at *
    generalize w2.heap.size = gS at *
    by_cases hE0 : E = 0
    · subst hE0
      by_cases hF : r5 = 0
      · subst hF
        have hlat := HLAT.out rfl rfl
        obtain ⟨_, _, hrise, hse, hdi, hle, hcn⟩ := hlat
        simp only at hrise hse hdi hle hcn
        have hqn : qL.length ≤ 4 := HOK.out.el
        have hqc := hqA.2
        simp only at hqc
        have hln : aL.length ≤ 9223372036854775807 := by omega
        have hrise0 := hide hrise
        have HX := hide hX
        have HS := hide hS
        have HQ := hide hqA
        have hcn1 := hcn.1
        have hcn2 := hcn.2
        have x0 := hX.cell 0
        have x1 := hX.cell 1
        have x2 := hX.cell 2
        have x3 := hX.cell 3
        have x4 := hX.cell 4
        have x5 := hX.cell 5
        have x6 := hX.cell 6
        have x7 := hX.cell 7
        have x8 := hX.cell 8
        have x9 := hX.cell 9
        have x10 := hX.cell 10
        have x11 := hX.cell 11
        have x12 := hX.cell 12
        have x13 := hX.cell 13
        have x14 := hX.cell 14
        simp only [List.getElem?_toArray, List.getElem?_cons_zero, List.getElem?_cons_succ] at x0 x1 x2 x3 x4 x5 x6 x7 x8 x9 x10 x11 x12 x13 x14
        clear HLAT HBAD HSS hX hS hqA hwA hrise hcn
        go_wp2_with fail
        clear x0 x1 x2 x3 x4 x5 x6 x7 x8 x9 x10 x11 x12 x13 x14
        go_loopw [7, 8] (fun n i wr => ∃ (k : Nat) (z : Int), k ≤ qL.length ∧ n = .int .i64 z ∧ i = .int .i64 k ∧ 0 ≤ z ∧ z ≤ 2000000000001 ∧ Hid (Rises et fin lp ll.length r2 z (qL.drop k)) ∧ Below w3.heap.size w3 wr) (fun _ i _ => qL.length - (intOf i).toNat)
        case atStart => exact ⟨0, sent, Nat.zero_le _, rfl, rfl, hcn1, by omega, hrise0, Below.refl _ _⟩
        case round =>
          obtain ⟨k, z, hk, rfl, rfl, hz0, hz1, hri, hbr⟩ := hrel
          have HBR := hide hbr
          clear hbr
          by_cases hlt : k < qL.length
          · have hx := List.getElem?_eq_getElem hlt
            obtain ⟨a, hA, g0, g1, g2, g3, g4⟩ := (HQ.out.below EvB.keeps HBR.out).1 k _ hx
            have hA2 : qA = some a := hA
            clear hA
            subst hA2
            obtain ⟨⟨t1, t2, t3, t4, t5, t6, t7⟩, hn⟩ := Rises.at_ hri.out hx
            generalize qL[k] = x at *
            obtain ⟨xt, xs, xn, xd, xp⟩ := x
            simp only at t1 t2 t3 t4 t5 t6 t7 hn g0 g1 g2 g3 g4
            have HN := hide hn
            have kI : (k : Int) < (qL.length : Int) := by omega
            have kJ : (0 : Int) ≤ (k : Int) := by omega
            have u0 := keepc HBR.out (HX.out.cell 10)
            have u1 := keepc HBR.out (HX.out.cell 1)
            have u6 := keepc HBR.out (HX.out.cell 6)
            have u4 := keepc HBR.out (HX.out.cell 4)
            have s1 := keepc HBR.out (HS.out.cell 1)
            have hw : IntKind.i64.wrap (xn + 1) = xn + 1 := IntWalk.i64_in _ (by omega)
            have e1 : (xs != lp) = false := by rw [t3]; simp
            have e2 : decide (xn < z) = false := decide_eq_false (by omega)
            have e3 : decide (r2 ≤ xn) = false := decide_eq_false (by omega)
            have e4 : decide (xd < 0) = false := decide_eq_false (by omega)
            have e5 : decide ((ll.length : Int) ≤ xd) = false := decide_eq_false (by omega)
            clear hx hn hri t3
            rcases t2 with t2 | t2
            all_goals
              go_wp2_with fail
              go_quiet (fail)
              have HB2 := hide (below_drewN HBR.out nq)
              have g2' : (wr.drewN nq).cell? ⟨(a.add (k * 5)).block, (a.add (k * 5)).off + 2, none⟩ = some (.int .i64 xn) := g2
              clear HBR g0 g1 g2 g3 g4 u0 u1 u6 u4 s1
              generalize wr.drewN nq = wq at *
              go_wp2_with fail
              go_roundw
              case rel => exact ⟨k + 1, xn + 1, by omega, rfl, by go_num, by omega, by omega, HN, HB2.out⟩
              case measure => simp [intOf]; omega
          · obtain rfl : k = qL.length := by omega
            have d1 : decide (sent ≤ r2) = true := decide_eq_true hse
            have d2 : decide (dice ≤ r3) = true := decide_eq_true hdi
            have d3 : ((aL.length : Int) == (sl.length : Int)) = true := by rw [hle]; exact beq_self_eq_true _
            clear hri hlt
            go_wp2_with fail
            refine (awake08 _).mono ?_
            rintro e w5 ⟨rfl, hb0⟩
            have hb1 := below_after HBR.out hb0
            have hX := HX.out.below hb1 HX.out.lt
            have hS := HS.out.below hb1 HS.out.lt
            clear hb0
            have x0 := hX.cell 0
            have x1 := hX.cell 1
            have x2 := hX.cell 2
            have x3 := hX.cell 3
            have x4 := hX.cell 4
            have x5 := hX.cell 5
            have x6 := hX.cell 6
            have x7 := hX.cell 7
            have x8 := hX.cell 8
            have x9 := hX.cell 9
            have x10 := hX.cell 10
            have x11 := hX.cell 11
            have x12 := hX.cell 12
            have x13 := hX.cell 13
            have x14 := hX.cell 14
            simp only [List.getElem?_toArray, List.getElem?_cons_zero, List.getElem?_cons_succ] at x0 x1 x2 x3 x4 x5 x6 x7 x8 x9 x10 x11 x12 x13 x14
            have s0 := hS.cell 0
            have s1 := hS.cell 1
            have s2 := hS.cell 2
            simp only [List.getElem?_toArray, List.getElem?_cons_zero, List.getElem?_cons_succ] at s0 s1 s2
            have HE := hide (below_after HB.out hb1)
            clear hb1 hX hS HX HS HQ
            go_wp2_with fail
            go_ret
            exact ⟨rfl, HE.out⟩
      · obtain ⟨z1, z2⟩ := HBAD.out (.inr hF)
        have z3 := z2 rfl
        simp only [Prod.mk.injEq] at z3
        obtain ⟨rfl, rfl, rfl⟩ := z3
        have hq0 : qL = [] := z1
        subst hq0
        have hfb : (r5 != 0) = true := by rw [bne_iff_ne]; exact hF
        clear HLAT HBAD z1 z2 hF hqA
        go_wp2_with fail
        refine (awake08 _).mono ?_
        rintro e w5 ⟨rfl, hb1⟩
        have hsS := HSS.out
        replace hX := hX.below hb1 hX.lt
        replace hS := hS.below hb1 hS.lt
        have hb5 := below_after HB.out hb1
        have HS2 := hide (rsame8_any ⟨⟨aA, ac, aL⟩, r2, r3⟩ ⟨⟨sA, sc, aL⟩, r2, r3⟩ w5 ⟨hwA.below IntAt.keeps hb1, HOK.out.si, HOK.out.di⟩ (hsS.below hb5))
        have HBS := hide (show sameP (St.pl ⟨⟨aA, ac, aL⟩, r2, r3⟩) (St.pl ⟨⟨sA, sc, aL⟩, r2, r3⟩) = true from sameP_iff.2 rfl)
        rw [HBS.out] at HS2
        simp only [St.val, Sl.val] at HS2
        have HE := hide hb5
        have x0 := hX.cell 0
        have x1 := hX.cell 1
        have x2 := hX.cell 2
        have x3 := hX.cell 3
        have x4 := hX.cell 4
        have x5 := hX.cell 5
        have x6 := hX.cell 6
        have x7 := hX.cell 7
        have x8 := hX.cell 8
        have x9 := hX.cell 9
        have x10 := hX.cell 10
        have x11 := hX.cell 11
        have x12 := hX.cell 12
        have x13 := hX.cell 13
        have x14 := hX.cell 14
        simp only [List.getElem?_toArray, List.getElem?_cons_zero, List.getElem?_cons_succ] at x0 x1 x2 x3 x4 x5 x6 x7 x8 x9 x10 x11 x12 x13 x14
        have s0 := hS.cell 0
        have s1 := hS.cell 1
        have s2 := hS.cell 2
        simp only [List.getElem?_toArray, List.getElem?_cons_zero, List.getElem?_cons_succ] at s0 s1 s2
        clear hb1 hb5 hX hS HB hsS HBS hwA HSS HOK
        go_wp2_with fail
        refine HS2.out.mono ?_
        rintro e w6 ⟨rfl, hb1⟩
        have HE2 := hide (below_after HE.out hb1)
        clear hb1 HE HS2
        go_wp2_with fail
        go_ret
        exact ⟨rfl, HE2.out⟩
    · obtain ⟨z1, -⟩ := HBAD.out (.inl hE0)
      have hq0 : qL = [] := z1
      subst hq0
      have hfb : (E != 0) = true := by rw [bne_iff_ne]; exact hE0
      clear HLAT HBAD z1 hE0 hqA HSS HOK hX hS hwA
      go_wp2_with fail
      refine (awake08 _).mono ?_
      rintro e w5 ⟨rfl, hb1⟩
      have HE := hide (below_after HB.out hb1)
      clear hb1 HB
      go_wp2_with fail
      go_ret
      exact ⟨rfl, HE.out⟩
end Go.Proofs.Ytpfcmfannkbipaa
