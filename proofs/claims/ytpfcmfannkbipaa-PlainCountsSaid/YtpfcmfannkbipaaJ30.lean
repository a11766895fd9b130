/- Texts of this claim in one. No condition. -/
import Derived.Test.YtpfcmfannkbipaaJ23
import Derived.Test.YtpfcmfannkbipaaJ29
import Derived.Test.YtpfcmfannkbipaaJ28
section
set_option linter.unusedVariables false
set_option linter.unusedSimpArgs false
set_option maxRecDepth 20000
namespace Go.Proofs.Ytpfcmfannkbipaa
open Go.RowKit Go.Deep

attribute [local go_sem] run_store_float
theorem skey_norm (s : Nat) : ¬ isNan s → skey (normF s) = skey s := by
  intro hn
  unfold normF
  split
  · rename_i h
    rcases h with h | h
    · exact absurd h hn
    · rw [h]; exact skey_zero
  · rfl
/-- What is later is later. -/
theorem later_gt {t d : Nat} (h : laterE t d = 0) : skey t < skey (laterF t d) := by
  unfold laterE at h
  unfold laterF
  cases hs : laterS t d with
  | none => rw [hs] at h; exact absurd h (by decide)
  | some s =>
    simp only
    unfold laterS at hs
    split at hs
    · cases hs
    · split at hs
      · cases hs
      · split at hs
        · cases hs
        · rename_i h1 s' h2 h3
          obtain rfl : s' = s := Option.some.inj hs
          rw [skey_norm _ (fun hn => h3 (.inl hn))]
          omega
/-- Events that are later, not above the end, of one sender, their numbers rising. -/
def Rises (t fin : Nat) (lp nl hi : Int) : Int → List Ev → Prop
  | _, [] => True
  | n, x :: r => (FloatKind.f64.format.order x.1 t = some .gt ∧ (FloatKind.f64.format.order x.1 fin = some .lt ∨ FloatKind.f64.format.order x.1 fin = some .eq) ∧ x.2.1 = lp ∧ n ≤ x.2.2.1 ∧ x.2.2.1 < hi ∧ 0 ≤ x.2.2.2.1 ∧ x.2.2.2.1 < nl) ∧ Rises t fin lp nl hi (x.2.2.1 + 1) r
theorem Rises.low {t fin : Nat} {lp nl hi n n' : Int} (hn : n' ≤ n) : ∀ {L : List Ev}, Rises t fin lp nl hi n L → Rises t fin lp nl hi n' L
  | [], _ => trivial
  | x :: r, h => ⟨⟨h.1.1, h.1.2.1, h.1.2.2.1, Int.le_trans hn h.1.2.2.2.1, h.1.2.2.2.2⟩, h.2⟩
theorem snd_rises (dl : List Nat) (t fin : Nat) (lp sent nl : Int) (ht : ¬ isNan t) (hf : ¬ isNan fin) : ∀ (L : List Snt) (k : Nat), L.all (sndOk dl t) = true → (∀ z ∈ L, 0 ≤ z.1 ∧ z.1 < nl) → Rises t fin lp nl (sent + (k : Int) + (L.length : Int)) (sent + (k : Int)) (sndV dl t fin lp sent k L)
  | [], _, _, _ => trivial
  | x :: r, k, ha, hz => by
    rw [List.all_cons, Bool.and_eq_true] at ha
    have ih := snd_rises dl t fin lp sent nl ht hf r (k + 1) ha.2 (fun z hm => hz z (List.mem_cons_of_mem _ hm))
    have e1 : sent + ((k + 1 : Nat) : Int) + (r.length : Int) = sent + (k : Int) + ((x :: r).length : Int) := by simp only [List.length_cons]; omega
    rw [e1] at ih
    have hx := hz x (List.mem_cons_self ..)
    have hok : laterE t (dly dl x.2.1) = 0 := by have := ha.1; unfold sndOk at this; simpa using this
    unfold sndV sndF
    split
    · rename_i hle
      have hnT := later_num t (dly dl x.2.1)
      refine ⟨⟨fo_gt _ _ hnT ht (later_gt hok), ?_, rfl, Int.le_refl _, ?_, hx.1, hx.2⟩, ?_⟩
      · rcases le_ways _ fin hnT hf with ⟨_, h⟩ | ⟨_, h⟩ | ⟨h, _⟩
        · exact .inl h
        · exact .inr h
        · exact absurd hle h
      · simp only [List.length_cons]; omega
      · refine Rises.low ?_ ih
        simp only; omega
    · refine Rises.low ?_ ih
      omega
theorem Rises.at_ {t fin : Nat} {lp nl hi : Int} : ∀ {L : List Ev} {n : Int} {k : Nat} {x : Ev}, Rises t fin lp nl hi n (L.drop k) → L[k]? = some x → (FloatKind.f64.format.order x.1 t = some .gt ∧ (FloatKind.f64.format.order x.1 fin = some .lt ∨ FloatKind.f64.format.order x.1 fin = some .eq) ∧ x.2.1 = lp ∧ n ≤ x.2.2.1 ∧ x.2.2.1 < hi ∧ 0 ≤ x.2.2.2.1 ∧ x.2.2.2.1 < nl) ∧ Rises t fin lp nl hi (x.2.2.1 + 1) (L.drop (k + 1)) := by
  intro L n k x h hx
  obtain ⟨hk, rfl⟩ := List.getElem?_eq_some_iff.1 hx
  rw [List.drop_eq_getElem_cons hk] at h
  exact h
/-- What ActLater asks, plainly. -/
structure LatOk (m : Mdl) (lp : Int) (s : St) (e : Ev) (R : StP × List Ev × Int) : Prop where
  nan : ¬ isNan e.1
  fin : ¬ isNan m.fin
  rise : Rises e.1 m.fin lp m.ll.L.length R.1.2.1 s.sent R.2.1
  sent : s.sent ≤ R.1.2.1
  dice : s.dice ≤ R.1.2.2
  len : R.1.1.length = s.wd.L.length
  cnt : 0 ≤ s.sent ∧ R.1.2.1 ≤ 2000000000000
theorem vone_d (W : Int) (x : Ins4) (s : VS) : (vone W x s).d = s.d ∨ (vone W x s).d = wrap64 (s.d + 1) := by
  unfold vone VS.put
  repeat' split
  all_goals first | exact .inl rfl | exact .inr rfl
theorem vrun_d (p : List Ins4) (W lps : Int) : ∀ (k : Nat) (s : VS), 0 ≤ s.d → s.d + (k : Int) ≤ 4000000000000 → s.d ≤ (vrun p W lps k s).1.d ∧ (vrun p W lps k s).1.d ≤ s.d + (k : Int) := by
  intro k
  induction k with
  | zero =>
    intro s h0 h1
    unfold vrun
    split <;> simp
  | succ k ih =>
    intro s h0 h1
    unfold vrun
    split
    · simp only; omega
    · simp only
      split
      · simp only [VS.tick]; omega
      · split
        · have hd : (vone W (p.getD s.at_ (0, 0, 0, 0)) s.tick).d = s.d ∨ (vone W (p.getD s.at_ (0, 0, 0, 0)) s.tick).d = wrap64 (s.d + 1) := vone_d W _ s.tick
          have hw : wrap64 (s.d + 1) = s.d + 1 := IntWalk.wrap64_in _ (by omega)
          rw [hw] at hd
          have := ih (vone W (p.getD s.at_ (0, 0, 0, 0)) s.tick) (by omega) (by omega)
          omega
        · simp only [VS.tick]; omega
theorem vmay_zero {p : List Ins4} {nw : Nat} (h : progB p = true) (h8 : nw ≤ 8) : vmay p nw = 0 := by
  unfold progB at h
  simp only [Bool.and_eq_true, decide_eq_true_eq] at h
  unfold vmay
  rw [if_neg (by omega)]
  have hall : (p.all fun x => insB x.1 x.2.1 x.2.2.1 x.2.2.2 p.length) = true := h.1
  rw [if_pos hall, if_neg (by omega)]
theorem lat_ok {m : Mdl} {lp : Int} {s : St} {e : Ev} {w : World} (hm : m.At w) (hs : s.At w) (he : EvOk e) (h : hE m lp s.pl e = 0) (hf : (hR m lp s.pl e).2.2 = 0) : LatOk m lp s e (hR m lp s.pl e) := by
  obtain ⟨hchk, h0, h1, hnan, h8, hs0, hd0⟩ := hE_parts h
  have ho := hO_ok hm hs he h
  obtain ⟨x, sp, hx, hsp, p0, p1, hx8, hmpl⟩ := chk_lp hchk h0 h1
  have hpb : progB sp.L = true := List.all_eq_true.1 (chk_parts hchk).2.2.2.1 _ (List.mem_of_getElem? hsp)
  obtain ⟨b, hb, b0, hspA⟩ := hm.2.2.2.1.1 _ sp hsp
  obtain ⟨hc1, hc2, _⟩ := chk_counts hchk
  have hfn := (chk_parts hchk).2.1
  have hOO : outV sp.L s.wd.L e.2.2.2.2 lp m.ll.L.length m.seed s.dice = hO m lp s.pl e := by unfold hO; rw [hmpl]; rfl
  have hhR : hR m lp s.pl e = hV m lp s.pl e := if_pos h
  rw [hhR] at hf ⊢
  simp only [St.pl] at h8 hs0 hd0
  have hmy : vmay sp.L s.wd.L.length = 0 := vmay_zero hpb h8
  unfold hV at hf ⊢
  by_cases hff : (hO m lp s.pl e).2.2.2 ≠ 0
  · rw [if_pos hff] at hf
    exact absurd hf hff
  rw [if_neg hff] at hf ⊢
  by_cases hall : (hO m lp s.pl e).2.1.all (sndOk m.dl.L e.1) = true
  · rw [if_pos hall] at hf ⊢
    have hz : (vall sp.L s.wd.L e.2.2.2.2 lp m.ll.L.length m.seed s.dice).2 = 0 := by
      have := Decidable.not_not.1 hff
      rw [← hOO] at this
      unfold outV at this
      rw [if_pos hmy] at this
      split at this
      · assumption
      · exact this
    have hO1 : hO m lp s.pl e = ((vall sp.L s.wd.L e.2.2.2.2 lp m.ll.L.length m.seed s.dice).1.w, (vall sp.L s.wd.L e.2.2.2.2 lp m.ll.L.length m.seed s.dice).1.s, (vall sp.L s.wd.L e.2.2.2.2 lp m.ll.L.length m.seed s.dice).1.d, 0) := by
      rw [← hOO]
      unfold outV
      rw [if_pos hmy, if_pos hz]
    obtain ⟨g1, g2, g3, g4⟩ := vmay_ok hmy
    have hv := vrun_ok (W := wordI m.seed lp) (lps := (m.ll.L.length : Int)) (nw := s.wd.L.length) (ins_ok hspA g3) 120 (vbeg s.wd.L e.2.2.2.2 lp m.ll.L.length s.dice) (vbeg_ok (sl_ints hs.1) h8 he.2.2.2.2 ⟨by omega, by omega⟩ ⟨by omega, by omega⟩ hs.2.2)
    have hdd := vrun_d sp.L (wordI m.seed lp) (m.ll.L.length : Int) 120 (vbeg s.wd.L e.2.2.2.2 lp m.ll.L.length s.dice) (by show (0 : Int) ≤ s.dice; omega) (by show s.dice + (120 : Int) ≤ 4000000000000; omega)
    have hr := snd_rises m.dl.L e.1 m.fin lp s.sent m.ll.L.length hnan hfn (hO m lp s.pl e).2.1 0 hall (fun z hz => ⟨(ho.si z hz).1, (ho.si z hz).2.1⟩)
    have h4 : ((hO m lp s.pl e).2.1.length : Int) ≤ 4 := by have := ho.s4; omega
    have hs2 : (s.pl).2.1 = s.sent := rfl
    have e0 : s.sent + ((0 : Nat) : Int) = s.sent := by omega
    rw [e0] at hr
    refine ⟨hnan, hfn, hr, by show s.sent ≤ s.sent + ((hO m lp s.pl e).2.1.length : Int); omega, ?_, ?_, ⟨hs0.1, by show s.sent + ((hO m lp s.pl e).2.1.length : Int) ≤ 2000000000000; omega⟩⟩
    · simp only [hO1]
      exact hdd.1
    · simp only [hO1]
      exact hv.1.wl
  · rw [if_neg hall] at hf
    exact absurd (show (7 : Int) = 0 from hf) (by decide)
set_option maxHeartbeats 4000000 in
theorem later_walk8 (c : Cas) (w : World) (h : c.At w) : Calls Try.prog 9 #[c.val] w fun e w' => e = .returned (.bool true) ∧ Below w.heap.size w w' := by
  have hX := Blk.new w 63 c.cells
  have hb0 : Below w.heap.size w (w.alloc (.cells c.cells 63)) := (Below.refl _ _).alloc (Nat.le_refl _) _
  have HLI := hide (light8_any c _ (h.below hb0))
  have HHA := hide (fun W (hb : Below w.heap.size w W) => handlew_any c.m c.lp c.s c.e W (h.m.below hb) (h.s.below hb) h.e)
  have HOK := hide (hR_ok (lp := c.lp) h.m h.s h.e)
  have HSS := hide h.s
  have HLAT := hide (fun (h1 : hE c.m c.lp c.s.pl c.e = 0) (h2 : (hR c.m c.lp c.s.pl c.e).2.2 = 0) => lat_ok h.m h.s h.e h1 h2)
  -- what comes where it may not be handled, or goes wrong
  have HBAD := hide (show hE c.m c.lp c.s.pl c.e ≠ 0 ∨ (hR c.m c.lp c.s.pl c.e).2.2 ≠ 0 → (hR c.m c.lp c.s.pl c.e).2.1 = [] ∧ (hE c.m c.lp c.s.pl c.e = 0 → (hR c.m c.lp c.s.pl c.e).1 = c.s.pl) from fun hh => by
    by_cases hz : hE c.m c.lp c.s.pl c.e = 0
    · have hhR : hR c.m c.lp c.s.pl c.e = hV c.m c.lp c.s.pl c.e := if_pos hz
      rw [hhR] at hh ⊢
      have hh2 := hh.resolve_left (fun h => h hz)
      unfold hV at hh2 ⊢
      split
      · exact ⟨rfl, fun _ => rfl⟩
      · split
        · rename_i h1 h2
          rw [if_neg h1, if_pos h2] at hh2
          exact absurd rfl hh2
        · exact ⟨rfl, fun _ => rfl⟩
    · have hhR : hR c.m c.lp c.s.pl c.e = (([], 0, 0), [], 0) := if_neg hz
      rw [hhR]
      exact ⟨rfl, fun h => absurd h hz⟩)
  generalize lightC c = LB at *
  generalize hE c.m c.lp c.s.pl c.e = E at *
  generalize hRg : hR c.m c.lp c.s.pl c.e = R at *
  have n1 := h.m.2.2.2.2.1.2
  have n2 := h.s.1.2
  clear h hRg
  obtain ⟨⟨seed, fin, dl, pl, ⟨lA, lc, ll⟩, il⟩, lp, ⟨⟨sA, sc, sl⟩, sent, dice⟩, ⟨et, es, en, ed, ep⟩⟩ := c
  obtain ⟨⟨r1, r2, r3⟩, r4, r5⟩ := R
  simp only [Cas.val, Cas.cells, Mdl.val, St.val, St.pl] at *
  generalize hdv : dl.val = v2 at *
  generalize hpv : pl.val = v3 at *
  generalize hiv : il.val = v5 at *
  simp only [Sl.val] at *
  have q1 : ll.length ≤ 9223372036854775807 := by omega
  have q2 : sl.length ≤ 9223372036854775807 := by omega
  have HB := hide hb0
  clear hdv hpv hiv hb0 n1 n2
  have x0 := hX.cell 0
  have x1 := hX.cell 1
  have x2 := hX.cell 2
  have x3 := hX.cell 3
  have x4 := hX.cell 4
  have x5 := hX.cell 5
  have x6 := hX.cell 6
  have x7 := hX.cell 7
  have x8 := hX.cell 8
  have x9 := hX.cell 9
  have x10 := hX.cell 10
  have x11 := hX.cell 11
  have x12 := hX.cell 12
  have x13 := hX.cell 13
  have x14 := hX.cell 14
  simp only [List.getElem?_toArray, List.getElem?_cons_zero, List.getElem?_cons_succ] at x0 x1 x2 x3 x4 x5 x6 x7 x8 x9 x10 x11 x12 x13 x14
  go_enter Try.func9, Try.ntmps9
  go_upto_region 1 with fail
  generalize World.alloc w _ = w0 at *
  go_wp2_with fail
  refine HLI.out.mono ?_
  rintro e w1 ⟨rfl, hb1⟩
  clear x0 x1 x2 x3 x4 x5 x6 x7 x8 x9 x10 x11 x12 x13 x14
  replace hX := hX.below hb1 hX.lt
  have hb2 := below_after HB.out hb1
  clear HB HLI hb1
  cases LB
  · clear HHA HOK HLAT HBAD HSS hX
    have HB := hide hb2
    clear hb2
    go_wp2_with fail
    refine (awake08 _).mono ?_
    rintro e w2 ⟨rfl, hb1⟩
    have HE := hide (below_after HB.out hb1)
    clear hb1 HB
    go_wp2_with fail
    go_ret
    exact ⟨rfl, HE.out⟩
  · have HB := hide hb2
    have x0 := hX.cell 0
    have x1 := hX.cell 1
    have x2 := hX.cell 2
    have x3 := hX.cell 3
    have x4 := hX.cell 4
    have x5 := hX.cell 5
    have x6 := hX.cell 6
    have x7 := hX.cell 7
    have x8 := hX.cell 8
    have x9 := hX.cell 9
    have x10 := hX.cell 10
    have x11 := hX.cell 11
    have x12 := hX.cell 12
    have x13 := hX.cell 13
    have x14 := hX.cell 14
    simp only [List.getElem?_toArray, List.getElem?_cons_zero, List.getElem?_cons_succ] at x0 x1 x2 x3 x4 x5 x6 x7 x8 x9 x10 x11 x12 x13 x14
    go_upto_region 3 with fail
    go_wp2_with fail
    refine (HHA.out _ HB.out).mono ?_
    rintro e w2 ⟨⟨aA, ac, aL⟩, ⟨qA, qc, qL⟩, rfl, haL, hqL, hwA, hqA, _, _, hb3⟩
    have haL2 : aL = r1 := haL
    have hqL2 : qL = r4 := hqL
    clear haL hqL
    subst haL2 hqL2
    clear x0 x1 x2 x3 x4 x5 x6 x7 x8 x9 x10 x11 x12 x13 x14
    replace hX := hX.below hb3 hX.lt
    replace hb2 := below_after HB.out hb3
    clear HB HHA hb3
    simp only [Sl.val]
    have hS := Blk.new w2 61 #[.slice aA aL.length ac, .int .i64 r2, .int .i64 r3]
    replace hX := hX.alloc (.cells #[.slice aA aL.length ac, .int .i64 r2, .int .i64 r3] 61)
    have ha := (Below.refl w2.heap.size w2).alloc (Nat.le_refl _) (.cells #[.slice aA aL.length ac, .int .i64 r2, .int .i64 r3] 61)
    replace hwA := hwA.below IntAt.keeps ha
    replace hqA := hqA.below EvB.keeps ha
    have HB := hide (below_after hb2 ha)
    clear hb2 ha
    go_upto_region 4 with fail
    generalize World.alloc w2 _ = w3 at *
    generalize w2.heap.size = gS at *
    by_cases hE0 : E = 0
    · subst hE0
      by_cases hF : r5 = 0
      · subst hF
        have hlat := HLAT.out rfl rfl
        obtain ⟨_, _, hrise, hse, hdi, hle, hcn⟩ := hlat
        simp only at hrise hse hdi hle hcn
        have hqn : qL.length ≤ 4 := HOK.out.el
        have hqc := hqA.2
        simp only at hqc
        have hln : aL.length ≤ 9223372036854775807 := by omega
        have hrise0 := hide hrise
        have HX := hide hX
        have HS := hide hS
        have HQ := hide hqA
        have hcn1 := hcn.1
        have hcn2 := hcn.2
        have x0 := hX.cell 0
        have x1 := hX.cell 1
        have x2 := hX.cell 2
        have x3 := hX.cell 3
        have x4 := hX.cell 4
        have x5 := hX.cell 5
        have x6 := hX.cell 6
        have x7 := hX.cell 7
        have x8 := hX.cell 8
        have x9 := hX.cell 9
        have x10 := hX.cell 10
        have x11 := hX.cell 11
        have x12 := hX.cell 12
        have x13 := hX.cell 13
        have x14 := hX.cell 14
        simp only [List.getElem?_toArray, List.getElem?_cons_zero, List.getElem?_cons_succ] at x0 x1 x2 x3 x4 x5 x6 x7 x8 x9 x10 x11 x12 x13 x14
        clear HLAT HBAD HSS hX hS hqA hwA hrise hcn
        go_wp2_with fail
        clear x0 x1 x2 x3 x4 x5 x6 x7 x8 x9 x10 x11 x12 x13 x14
        go_loopw [7, 8] (fun n i wr => ∃ (k : Nat) (z : Int), k ≤ qL.length ∧ n = .int .i64 z ∧ i = .int .i64 k ∧ 0 ≤ z ∧ z ≤ 2000000000001 ∧ Hid (Rises et fin lp ll.length r2 z (qL.drop k)) ∧ Below w3.heap.size w3 wr) (fun _ i _ => qL.length - (intOf i).toNat)
        case atStart => exact ⟨0, sent, Nat.zero_le _, rfl, rfl, hcn1, by omega, hrise0, Below.refl _ _⟩
        case round =>
          obtain ⟨k, z, hk, rfl, rfl, hz0, hz1, hri, hbr⟩ := hrel
          have HBR := hide hbr
          clear hbr
          by_cases hlt : k < qL.length
          · have hx := List.getElem?_eq_getElem hlt
            obtain ⟨a, hA, g0, g1, g2, g3, g4⟩ := (HQ.out.below EvB.keeps HBR.out).1 k _ hx
            have hA2 : qA = some a := hA
            clear hA
            subst hA2
            obtain ⟨⟨t1, t2, t3, t4, t5, t6, t7⟩, hn⟩ := Rises.at_ hri.out hx
            generalize qL[k] = x at *
            obtain ⟨xt, xs, xn, xd, xp⟩ := x
            simp only at t1 t2 t3 t4 t5 t6 t7 hn g0 g1 g2 g3 g4
            have HN := hide hn
            have kI : (k : Int) < (qL.length : Int) := by omega
            have kJ : (0 : Int) ≤ (k : Int) := by omega
            have u0 := keepc HBR.out (HX.out.cell 10)
            have u1 := keepc HBR.out (HX.out.cell 1)
            have u6 := keepc HBR.out (HX.out.cell 6)
            have u4 := keepc HBR.out (HX.out.cell 4)
            have s1 := keepc HBR.out (HS.out.cell 1)
            have hw : IntKind.i64.wrap (xn + 1) = xn + 1 := IntWalk.i64_in _ (by omega)
            have e1 : (xs != lp) = false := by rw [t3]; simp
            have e2 : decide (xn < z) = false := decide_eq_false (by omega)
            have e3 : decide (r2 ≤ xn) = false := decide_eq_false (by omega)
            have e4 : decide (xd < 0) = false := decide_eq_false (by omega)
            have e5 : decide ((ll.length : Int) ≤ xd) = false := decide_eq_false (by omega)
            clear hx hn hri t3
            rcases t2 with t2 | t2
            all_goals
              go_wp2_with fail
              go_quiet (fail)
              have HB2 := hide (below_drewN HBR.out nq)
              have g2' : (wr.drewN nq).cell? ⟨(a.add (k * 5)).block, (a.add (k * 5)).off + 2, none⟩ = some (.int .i64 xn) := g2
              clear HBR g0 g1 g2 g3 g4 u0 u1 u6 u4 s1
              generalize wr.drewN nq = wq at *
              go_wp2_with fail
              go_roundw
              case rel => exact ⟨k + 1, xn + 1, by omega, rfl, by go_num, by omega, by omega, HN, HB2.out⟩
              case measure => simp [intOf]; omega
          · obtain rfl : k = qL.length := by omega
            have d1 : decide (sent ≤ r2) = true := decide_eq_true hse
            have d2 : decide (dice ≤ r3) = true := decide_eq_true hdi
            have d3 : ((aL.length : Int) == (sl.length : Int)) = true := by rw [hle]; exact beq_self_eq_true _
            clear hri hlt
            go_wp2_with fail
            refine (awake08 _).mono ?_
            rintro e w5 ⟨rfl, hb0⟩
            have hb1 := below_after HBR.out hb0
            have hX := HX.out.below hb1 HX.out.lt
            have hS := HS.out.below hb1 HS.out.lt
            clear hb0
            have x0 := hX.cell 0
            have x1 := hX.cell 1
            have x2 := hX.cell 2
            have x3 := hX.cell 3
            have x4 := hX.cell 4
            have x5 := hX.cell 5
            have x6 := hX.cell 6
            have x7 := hX.cell 7
            have x8 := hX.cell 8
            have x9 := hX.cell 9
            have x10 := hX.cell 10
            have x11 := hX.cell 11
            have x12 := hX.cell 12
            have x13 := hX.cell 13
            have x14 := hX.cell 14
            simp only [List.getElem?_toArray, List.getElem?_cons_zero, List.getElem?_cons_succ] at x0 x1 x2 x3 x4 x5 x6 x7 x8 x9 x10 x11 x12 x13 x14
            have s0 := hS.cell 0
            have s1 := hS.cell 1
            have s2 := hS.cell 2
            simp only [List.getElem?_toArray, List.getElem?_cons_zero, List.getElem?_cons_succ] at s0 s1 s2
            have HE := hide (below_after HB.out hb1)
            clear hb1 hX hS HX HS HQ
            go_wp2_with fail
            go_ret
            exact ⟨rfl, HE.out⟩
      · obtain ⟨z1, z2⟩ := HBAD.out (.inr hF)
        have z3 := z2 rfl
        simp only [Prod.mk.injEq] at z3
        obtain ⟨rfl, rfl, rfl⟩ := z3
        have hq0 : qL = [] := z1
        subst hq0
        have hfb : (r5 != 0) = true := by rw [bne_iff_ne]; exact hF
        clear HLAT HBAD z1 z2 hF hqA
        go_wp2_with fail
        refine (awake08 _).mono ?_
        rintro e w5 ⟨rfl, hb1⟩
        have hsS := HSS.out
        replace hX := hX.below hb1 hX.lt
        replace hS := hS.below hb1 hS.lt
        have hb5 := below_after HB.out hb1
        have HS2 := hide (rsame8_any ⟨⟨aA, ac, aL⟩, r2, r3⟩ ⟨⟨sA, sc, aL⟩, r2, r3⟩ w5 ⟨hwA.below IntAt.keeps hb1, HOK.out.si, HOK.out.di⟩ (hsS.below hb5))
        have HBS := hide (show sameP (St.pl ⟨⟨aA, ac, aL⟩, r2, r3⟩) (St.pl ⟨⟨sA, sc, aL⟩, r2, r3⟩) = true from sameP_iff.2 rfl)
        rw [HBS.out] at HS2
        simp only [St.val, Sl.val] at HS2
        have HE := hide hb5
        have x0 := hX.cell 0
        have x1 := hX.cell 1
        have x2 := hX.cell 2
        have x3 := hX.cell 3
        have x4 := hX.cell 4
        have x5 := hX.cell 5
        have x6 := hX.cell 6
        have x7 := hX.cell 7
        have x8 := hX.cell 8
        have x9 := hX.cell 9
        have x10 := hX.cell 10
        have x11 := hX.cell 11
        have x12 := hX.cell 12
        have x13 := hX.cell 13
        have x14 := hX.cell 14
        simp only [List.getElem?_toArray, List.getElem?_cons_zero, List.getElem?_cons_succ] at x0 x1 x2 x3 x4 x5 x6 x7 x8 x9 x10 x11 x12 x13 x14
        have s0 := hS.cell 0
        have s1 := hS.cell 1
        have s2 := hS.cell 2
        simp only [List.getElem?_toArray, List.getElem?_cons_zero, List.getElem?_cons_succ] at s0 s1 s2
        clear hb1 hb5 hX hS HB hsS HBS hwA HSS HOK
        go_wp2_with fail
        refine HS2.out.mono ?_
        rintro e w6 ⟨rfl, hb1⟩
        have HE2 := hide (below_after HE.out hb1)
        clear hb1 HE HS2
        go_wp2_with fail
        go_ret
        exact ⟨rfl, HE2.out⟩
    · obtain ⟨z1, -⟩ := HBAD.out (.inl hE0)
      have hq0 : qL = [] := z1
      subst hq0
      have hfb : (E != 0) = true := by rw [bne_iff_ne]; exact hE0
      clear HLAT HBAD z1 hE0 hqA HSS HOK hX hS hwA
      go_wp2_with fail
      refine (awake08 _).mono ?_
      rintro e w5 ⟨rfl, hb1⟩
      have HE := hide (below_after HB.out hb1)
      clear hb1 HB
      go_wp2_with fail
      go_ret
      exact ⟨rfl, HE.out⟩
end Go.Proofs.Ytpfcmfannkbipaa
end

section
set_option linter.unusedVariables false
set_option maxRecDepth 20000
namespace Go.Proofs.Ytpfcmfannkbipaa
open Go.RowKit Go.Deep

theorem add_lt {x y s : Nat} (hx : ¬ isNan x) (hy : ¬ isNan y) (h : FloatKind.f64.format.add x y = some s) : s < 18446744073709551616 := by
  have h' : Ieee.double.add x y = some s := h
  unfold isNan at hx hy
  by_cases h1 : rung x = 9218868437227405312
  · by_cases h2 : rung y = 9218868437227405312
    · rw [add_inf_both x y h1 h2] at h'
      split at h'
      · rw [← Option.some.inj h']; exact (word_key _ _ (Nat.le_refl _)).2.2
      · cases h'
    · rw [add_inf_left x y h1 (by omega)] at h'
      rw [← Option.some.inj h']; exact (word_key _ _ (Nat.le_refl _)).2.2
  · by_cases h2 : rung y = 9218868437227405312
    · rw [add_inf_right x y (by omega) h2] at h'
      rw [← Option.some.inj h']; exact (word_key _ _ (Nat.le_refl _)).2.2
    · obtain ⟨z, h3, _, _, h4⟩ := add_finite x y (by omega) (by omega)
      rw [h3] at h'
      rw [← Option.some.inj h']; exact h4
theorem normF_lt {t : Nat} (h : t < 18446744073709551616) : normF t < 18446744073709551616 := by
  unfold normF
  split
  · decide
  · exact h
theorem laterF_lt (t d : Nat) : laterF t d < 18446744073709551616 := by
  unfold laterF
  cases hs : laterS t d with
  | none => simp only; decide
  | some s =>
    simp only
    refine normF_lt ?_
    unfold laterS at hs
    split at hs
    · cases hs
    · rename_i hn
      split at hs
      · cases hs
      · rename_i s' ha
        split at hs
        · cases hs
        · obtain rfl : s' = s := Option.some.inj hs
          exact add_lt (fun h => hn (.inl h)) (fun h => hn (.inr (.inl h))) ha
theorem sndV_mem (dl : List Nat) (t fin : Nat) (lp sent : Int) : ∀ (L : List Snt) (k : Nat) (x : Ev), x ∈ sndV dl t fin lp sent k L → ∃ (j : Nat) (z : Snt), j < L.length ∧ z ∈ L ∧ x = (laterF t (dly dl z.2.1), lp, sent + ((k + j : Nat) : Int), z.1, z.2.2) ∧ timesI (laterF t (dly dl z.2.1)) fin ≤ 0
  | [], _, _, h => by cases h
  | z :: r, k, x, h => by
    unfold sndV at h
    rcases List.mem_append.1 h with h | h
    · unfold sndF at h
      split at h
      · rename_i hle
        obtain rfl := List.mem_singleton.1 h
        exact ⟨0, z, by simp, by simp, rfl, hle⟩
      · cases h
    · obtain ⟨j, z', hj, hz, hx, ht⟩ := sndV_mem dl t fin lp sent r (k + 1) x h
      exact ⟨j + 1, z', by simpa using hj, by simp [hz], by rw [hx]; congr 3; omega, ht⟩
/-- What every event that waits is. -/
structure Wt9 (m : Mdl) (x : Ev) : Prop where
  ok : EvOk x
  d0 : 0 ≤ x.2.2.2.1
  d1 : x.2.2.2.1 < m.ll.L.length
  num : ¬ isNan x.1
  le : timesI x.1 m.fin ≤ 0
/-- What an event sends waits as others do, and comes later. -/
theorem out9 {m : Mdl} {lp : Int} {s : St} {e : Ev} {w : World} (hm : m.At w) (hs : s.At w) (he : EvOk e) (hl : I64 lp) : ∀ x ∈ (hR m lp s.pl e).2.1, Wt9 m x ∧ skey e.1 < skey x.1 := by
  intro x hx
  unfold hR at hx
  by_cases h : hE m lp s.pl e = 0
  · rw [if_pos h] at hx
    have ho := hO_ok hm hs he h
    obtain ⟨hck, _, _, _, _, hs0, hd0⟩ := hE_parts h
    have hc := chk_counts hck
    unfold hV at hx
    split at hx
    · cases hx
    · split at hx
      · rename_i hall
        obtain ⟨j, z, hj, hz, rfl, hle⟩ := sndV_mem _ _ _ _ _ _ _ _ hx
        obtain ⟨z0, z1, z2, z3⟩ := ho.si z hz
        have hsd := List.all_eq_true.1 hall z hz
        unfold sndOk at hsd
        have h4 := ho.s4
        have hss : s.pl.2.1 = s.sent := rfl
        rw [hss] at hs0 ⊢
        refine ⟨⟨⟨laterF_lt _ _, hl, ?_, ⟨by simp only; omega, by simp only; omega⟩, z3⟩, z0, z1, later_num _ _, hle⟩, later_gt (by simpa using hsd)⟩
        exact ⟨by simp only; omega, by simp only; omega⟩
      · cases hx
  · rw [if_neg h] at hx
    cases hx
/-- What comes later compares as later. -/
theorem later_cmp {e x : Ev} (he : ¬ isNan e.1) (hx : ¬ isNan x.1) (h : skey e.1 < skey x.1) : cmpE e x < 0 := by
  rw [cmpE_key]
  unfold keyE cmpK tk8
  rw [if_neg he, if_neg hx, ordI_lt h, if_neg (by decide)]
  decide
/-- What waits at first. -/
theorem begV_mem (fin : Nat) : ∀ (L : List Init3) (i : Nat) (x : Ev), x ∈ begV fin i L → ∃ (j : Nat) (z : Init3), j < L.length ∧ z ∈ L ∧ x = (normF z.1, -1, ((i + j : Nat) : Int), z.2.1, z.2.2) ∧ timesI (normF z.1) fin ≤ 0
  | [], _, _, h => by cases h
  | z :: r, i, x, h => by
    unfold begV at h
    rcases List.mem_append.1 h with h | h
    · unfold begF at h
      split at h
      · rename_i hle
        obtain rfl := List.mem_singleton.1 h
        exact ⟨0, z, by simp, by simp, rfl, hle⟩
      · cases h
    · obtain ⟨j, z', hj, hz, hx, ht⟩ := begV_mem fin r (i + 1) x h
      exact ⟨j + 1, z', by simpa using hj, by simp [hz], by rw [hx]; congr 3; omega, ht⟩
theorem beg9 {m : Mdl} {w : World} (hm : m.At w) (hck : chkB m = true) : ∀ x ∈ begV m.fin 0 m.il.L, Wt9 m x := by
  intro x hx
  obtain ⟨j, z, hj, hz, rfl, hle⟩ := begV_mem _ _ _ _ hx
  have hc := chk_counts hck
  have hi := List.all_eq_true.1 (chk_parts hck).2.2.2.2.2 z hz
  unfold initB at hi
  simp only [decide_eq_true_eq] at hi
  obtain ⟨i, hi'⟩ := List.mem_iff_getElem?.1 hz
  obtain ⟨a, _, _, _, _, b4, b5, b6⟩ := hm.2.2.2.2.2.1 i z hi'
  refine ⟨⟨normF_lt b4, ⟨by simp only; omega, by simp only; omega⟩, ⟨by simp only; omega, by simp only; omega⟩, b5, b6⟩, hi.2.1, hi.2.2, norm_num _, hle⟩
/-- A simulation's plain state in which all is as it should be; n: how many steps it has done at most. -/
structure Ok9 (m : Mdl) (n : Nat) (s : Sm9) : Prop where
  wt : ∀ x ∈ s.2.1, Wt9 m x
  sort : SortE s.2.1
  len : s.2.1.length ≤ 16 + 4 * n
  sl : s.1.length = m.ll.L.length
  dl : s.2.2.length ≤ n
theorem new9_ok {m : Mdl} {w : World} (hm : m.At w) (hck : chkB m = true) : Ok9 m 0 (new9 m) := by
  have hc := chk_counts hck
  refine ⟨fun x hx => ?_, insAll_sort _ _ List.Pairwise.nil, ?_, by simp [new9], by simp [new9]⟩
  · unfold new9 at hx
    exact beg9 hm hck x (((insAll_mem x _ _).1 hx).resolve_right (by simp))
  · unfold new9
    rw [insAll_len]
    have := begV_len m.fin m.il.L 0
    simp only [List.length_nil]
    omega
end Go.Proofs.Ytpfcmfannkbipaa
end

section
set_option linter.unusedVariables false
set_option maxRecDepth 20000
namespace Go.Proofs.Ytpfcmfannkbipaa
open Go.RowKit Go.Deep

theorem dnE_of (e : Ev) (f : Int) : dnE (dnOf e f) = e := rfl
/-- What the event at hand comes to. -/
def hr9 (m : Mdl) (s : Sm9) (e : Ev) : StP × List Ev × Int := hR m e.2.2.2.1 (stOf s.1 e.2.2.2.1) e
theorem step9_eq {m : Mdl} {s : Sm9} {e : Ev} {r : List Ev} (h : s.2.1 = e :: r) : step9 m s = (s.1.set e.2.2.2.1.toNat (hr9 m s e).1, (hr9 m s e).2.1.foldl (fun W x => insP x W) r, s.2.2 ++ [dnOf e (hr9 m s e).2.2]) := by
  unfold step9 hr9
  rw [h]
theorem step9_stop {m : Mdl} {s : Sm9} (h : s.2.1 = []) : step9 m s = s := by
  unfold step9
  rw [h]
/-- All is as it should be, behind a step too; what the event sends is as 'hout' says. -/
theorem Ok9.step {m : Mdl} {n : Nat} {s : Sm9} {e : Ev} {r : List Ev} (h : Ok9 m n s) (hW : s.2.1 = e :: r) (hout : ∀ x ∈ (hr9 m s e).2.1, Wt9 m x) (hlen : (hr9 m s e).2.1.length ≤ 4) : Ok9 m (n + 1) (step9 m s) := by
  rw [step9_eq hW]
  have h1 := h.wt
  have h2 := h.sort
  have h3 := h.len
  rw [hW] at h1 h2 h3
  refine ⟨fun x hx => ?_, insAll_sort _ _ h2.tail, ?_, ?_, ?_⟩
  · rcases (insAll_mem x _ _).1 hx with hx | hx
    · exact hout x hx
    · exact h1 x (by simp [hx])
  · simp only
    rw [insAll_len]
    simp only [List.length_cons] at h3
    omega
  · simp only [List.length_set]
    exact h.sl
  · simp only [List.length_append, List.length_cons, List.length_nil]
    have := h.dl
    omega
/-- What was handled is in order, and ahead of all that waits; none is above the end. -/
structure Hd9 (m : Mdl) (s : Sm9) : Prop where
  srt : SortE (s.2.2.map dnE)
  bel : ∀ d ∈ s.2.2, ∀ x ∈ s.2.1, cmpE (dnE d) x ≤ 0
  le : ∀ d ∈ s.2.2, ¬ isNan d.1 ∧ timesI d.1 m.fin ≤ 0
theorem Hd9.step {m : Mdl} {n : Nat} {s : Sm9} {e : Ev} {r : List Ev} (h : Hd9 m s) (ho : Ok9 m n s) (hW : s.2.1 = e :: r) (hout : ∀ x ∈ (hr9 m s e).2.1, cmpE e x ≤ 0) : Hd9 m (step9 m s) := by
  rw [step9_eq hW]
  have h1 := ho.wt
  have h2 := ho.sort
  have h3 := h.bel
  rw [hW] at h1 h2 h3
  have he : ∀ x ∈ r, cmpE e x ≤ 0 := fun x hx => List.rel_of_pairwise_cons h2 hx
  refine ⟨?_, fun d hd x hx => ?_, fun d hd => ?_⟩
  · simp only [List.map_append, List.map_cons, List.map_nil]
    refine List.pairwise_append.2 ⟨h.srt, List.pairwise_singleton _ _, fun a ha b hb => ?_⟩
    obtain ⟨d, hd, rfl⟩ := List.mem_map.1 ha
    obtain rfl := List.mem_singleton.1 hb
    exact h3 d hd e (by simp)
  · have hx' := (insAll_mem x _ _).1 hx
    have hex : cmpE e x ≤ 0 := hx'.elim (hout x) (he x)
    rcases List.mem_append.1 hd with hd | hd
    · exact (cmpE_trans (dnE d) e x).1 (h3 d hd e (by simp)) hex
    · obtain rfl := List.mem_singleton.1 hd
      exact hex
  · rcases List.mem_append.1 hd with hd | hd
    · exact h.le d hd
    · obtain rfl := List.mem_singleton.1 hd
      have := h1 e (by simp)
      exact ⟨this.num, this.le⟩
theorem Hd9.start {m : Mdl} {s : Sm9} (h : s.2.2 = []) : Hd9 m s := ⟨by rw [h]; exact List.Pairwise.nil, fun d hd => (by rw [h] at hd; cases hd), fun d hd => (by rw [h] at hd; cases hd)⟩
/-- n steps. -/
def run9 (m : Mdl) : Nat → Sm9 → Sm9
  | 0, s => s
  | n + 1, s => run9 m n (step9 m s)
theorem run9_add (m : Mdl) : ∀ (a b : Nat) (s : Sm9), run9 m (a + b) s = run9 m b (run9 m a s)
  | 0, b, s => by rw [Nat.zero_add]; rfl
  | a + 1, b, s => by rw [Nat.add_right_comm, run9, run9_add m a b, run9]
theorem run9_stop {m : Mdl} : ∀ (n : Nat) {s : Sm9}, s.2.1 = [] → run9 m n s = s
  | 0, s, _ => rfl
  | n + 1, s, h => by rw [run9, step9_stop h]; exact run9_stop n h
theorem of9_run (m : Mdl) : ∀ (n : Nat) (s : Sm9), of9 m n s = run9 m n s
  | 0, s => rfl
  | n + 1, s => by
    unfold of9
    split
    · rename_i h
      exact (run9_stop (n + 1) h).symm
    · exact of9_run m n _
end Go.Proofs.Ytpfcmfannkbipaa
end

section
set_option linter.unusedVariables false
set_option linter.unusedSimpArgs false
set_option maxRecDepth 20000
namespace Go.Proofs.Ytpfcmfannkbipaa
open Go.RowKit Go.Deep

attribute [local go_sem] run_store_float
/-- What a step hands back. -/
def stepV (m : Mdl) (s : Sm9) : Value := match s.2.1 with
  | [] => stepNone
  | e :: r => .tuple #[.agg (dnC (dnOf e (hr9 m s e).2.2)), .bool true]
def plain9 (S : Sl St) (W : Sl Ev) (D : Sl Dn) : Sm9 := (S.L.map St.pl, W.L, D.L)
theorem stOf_at {S : Sl St} {W : Sl Ev} {D : Sl Dn} {d : Int} {sk : St} (h : S.L[d.toNat]? = some sk) : stOf (plain9 S W D).1 d = sk.pl := by
  unfold stOf plain9
  simp only
  rw [List.getD_eq_getElem?_getD, List.getElem?_map, h]
  rfl
theorem step9_all (w0 w : World) (g n : Nat) (m : Mdl) (S : Sl St) (W : Sl Ev) (D : Sl Dn) (h : Sim9 w0 g m S W D w) (hck : chkB m = true) (ho : Ok9 m n (plain9 S W D)) (hn : n ≤ 10000) :
    Calls Try.prog 63 #[.pointer (some ⟨g, 0, none⟩)] w fun x w' => ∃ (S' : Sl St) (W' : Sl Ev) (D' : Sl Dn), x = .returned (stepV m (plain9 S W D)) ∧ Sim9 w0 g m S' W' D' w' ∧ plain9 S' W' D' = step9 m (plain9 S W D) ∧ Ok9 m (n + 1) (step9 m (plain9 S W D)) ∧ w.grownBy w' (some g) := by
  cases hW : W.L with
  | nil =>
    have h0 : (plain9 S W D).2.1 = [] := hW
    refine (step9_none w0 w g m S W D h hW).mono ?_
    rintro x w' ⟨rfl, hb⟩
    refine ⟨S, W, D, ?_, h.below hb, (step9_stop h0).symm, ?_, gby_below hb g⟩
    · unfold stepV; rw [h0]
    · rw [step9_stop h0]
      exact ⟨ho.wt, ho.sort, by have := ho.len; omega, ho.sl, by have := ho.dl; omega⟩
  | cons e r =>
    have h0 : (plain9 S W D).2.1 = e :: r := hW
    have hwt := ho.wt e (by rw [h0]; simp)
    have hlen := ho.len
    rw [h0, List.length_cons] at hlen
    have hsl : S.L.length = m.ll.L.length := by have := ho.sl; simpa [plain9] using this
    have hdl : D.L.length ≤ n := ho.dl
    have hc := chk_counts hck
    have hlt : e.2.2.2.1.toNat < S.L.length := by have := hwt.d1; have := hwt.d0; omega
    have hsk := List.getElem?_eq_getElem hlt
    have hmem := List.getElem_mem hlt
    generalize S.L[e.2.2.2.1.toNat] = sk at *
    have hst : hr9 m (plain9 S W D) e = hR m e.2.2.2.1 sk.pl e := by unfold hr9; rw [stOf_at hsk]
    have hsA : sk.At w := ⟨(h.wds _ hmem).1.at_, (h.wds _ hmem).2⟩
    have hmA := h.ms.below h.bel
    have hout := out9 (lp := e.2.2.2.1) hmA hsA hwt.ok (hwt.ok.2.2.2.1)
    have hel := (hR_ok (lp := e.2.2.2.1) hmA hsA hwt.ok).el
    refine (step9_some w0 w g m S W D e r sk h hW hck hwt.ok hwt.d0 hsk (by omega) (by omega) (by omega)).mono ?_
    rintro x w' ⟨S', W', D', rfl, hS', e1, e2, e3, hg⟩
    refine ⟨S', W', D', ?_, hS', ?_, ?_, hg⟩
    · unfold stepV; rw [h0, ← hst]
    · rw [step9_eq h0, hst]
      unfold plain9
      rw [e1, e2, e3]
    · exact ho.step h0 (fun x hx => by rw [hst] at hx; exact (hout x hx).1) (by rw [hst]; exact hel)
theorem plain_new {m : Mdl} {S : Sl St} {W : Sl Ev} {D : Sl Dn} (h : (S.L.map St.pl, W.L, D.L) = new9 m) : plain9 S W D = new9 m := h
theorem stepV_some {m : Mdl} {s : Sm9} {e : Ev} {r : List Ev} (h : s.2.1 = e :: r) : stepV m s = .tuple #[.agg (dnC (dnOf e (hr9 m s e).2.2)), .bool true] := by unfold stepV; rw [h]
theorem stepV_none {m : Mdl} {s : Sm9} (h : s.2.1 = []) : stepV m s = stepNone := by unfold stepV; rw [h]
theorem run9_succ (m : Mdl) (k : Nat) (s : Sm9) : run9 m (k + 1) s = step9 m (run9 m k s) := by rw [run9_add]; rfl
set_option maxHeartbeats 2000000 in
theorem of9_any (m : Mdl) (n : Nat) (w : World) (hm : m.At w) (hc : chkB m = true) (hn : n ≤ 1000) : Calls Try.prog 64 #[m.val, .int .i64 n] w fun e w' => ∃ D : Sl Dn, e = .returned D.val ∧ D.L = (run9 m n (new9 m)).2.2 ∧ D.At DnB 6 w' ∧ Below w.heap.size w w' := by
  have hX := Blk.new w 58 #[.int .i64 m.seed, .float .f64 m.fin, m.dl.val, m.pl.val, m.ll.val, m.il.val]
  have hb : Below w.heap.size w (w.alloc (.cells #[.int .i64 m.seed, .float .f64 m.fin, m.dl.val, m.pl.val, m.ll.val, m.il.val] 58)) := (Below.refl _ _).alloc (Nat.le_refl _) _
  have HNW := hide (new9_any m _ (hm.below hb) hc)
  have HOK := hide (new9_ok hm hc)
  have HST := hide (fun w0 w1 g k S W D (h : Sim9 w0 g m S W D w1) ho hn => step9_all w0 w1 g k m S W D h hc ho hn)
  obtain ⟨Post, hPost⟩ : ∃ P : Ending → World → Prop, P = fun e w' => ∃ D : Sl Dn, e = .returned D.val ∧ D.L = (run9 m n (new9 m)).2.2 ∧ D.At DnB 6 w' ∧ Below w.heap.size w w' := ⟨_, rfl⟩
  rw [← hPost]
  have HPO := hide hPost
  have HB := hide hb
  clear hPost hm hc
  generalize hN9 : new9 m = N9 at *
  obtain ⟨seed, fin, ⟨dA, dc, dl⟩, ⟨pA, pc, pl⟩, ⟨lA, lc, ll⟩, ⟨iA, ic, il⟩⟩ := m
  have HN9 := hide hN9
  clear hN9
  simp only [Mdl.val, Sl.val] at *
  have x0 := hX.cell 0
  have x1 := hX.cell 1
  have x2 := hX.cell 2
  have x3 := hX.cell 3
  have x4 := hX.cell 4
  have x5 := hX.cell 5
  simp only [List.getElem?_toArray, List.getElem?_cons_zero, List.getElem?_cons_succ] at x0 x1 x2 x3 x4 x5
  clear hX hb
  go_enter Try.func64, Try.ntmps64
  go_upto_region 1 with fail
  generalize w.alloc _ = w1 at *
  go_wp2_with fail
  refine HNW.out.mono ?_
  rintro e w2 ⟨g, S, W, D, rfl, hS, hpl⟩
  have HS := hide hS
  have HPL := hide hpl
  clear x0 x1 x2 x3 x4 x5 hS hpl HNW
  go_wp2_with fail
  go_loopw [6] (fun i wr => ∃ (k : Nat) (S : Sl St) (W : Sl Ev) (D : Sl Dn), k ≤ n ∧ i = .int .i64 k ∧ plain9 S W D = run9 ⟨seed, fin, ⟨dA, dc, dl⟩, ⟨pA, pc, pl⟩, ⟨lA, lc, ll⟩, ⟨iA, ic, il⟩⟩ k N9 ∧ Sim9 w1 g ⟨seed, fin, ⟨dA, dc, dl⟩, ⟨pA, pc, pl⟩, ⟨lA, lc, ll⟩, ⟨iA, ic, il⟩⟩ S W D wr ∧ Ok9 ⟨seed, fin, ⟨dA, dc, dl⟩, ⟨pA, pc, pl⟩, ⟨lA, lc, ll⟩, ⟨iA, ic, il⟩⟩ k (plain9 S W D)) (fun i _ => n - (intOf i).toNat)
  case atStart => exact ⟨0, S, W, D, Nat.zero_le _, rfl, HPL.out, HS.out, by rw [show plain9 S W D = N9 from HPL.out]; exact HOK.out⟩
  case round =>
    clear HS HPL HOK
    obtain ⟨k, S, W, D, hk, rfl, hpl, hS, hO⟩ := hrel
    by_cases hlt : k < n
    · have HSK := hide (HST.out w1 wr g k S W D hS hO (by omega))
      have HPL := hide hpl
      have kI : (k : Int) < (n : Int) := by omega
      have kJ : (0 : Int) ≤ (k : Int) := by omega
      clear hS hpl hO
      cases hW : (plain9 S W D).2.1 with
      | nil =>
        have HW := hide hW
        rw [stepV_none hW] at HSK
        clear hW
        go_wp2_with fail
        refine HSK.out.mono ?_
        rintro e w3 ⟨S', W', D', rfl, hS', hp', hO', hg'⟩
        have hb3 := (Below.refl w3.heap.size w3).alloc (Nat.le_refl _) (.cells #[.float .f64 0, .int .i64 0, .int .i64 0, .int .i64 0, .int .i64 0, .int .i64 0] 39)
        have hS4 := hS'.below hb3
        have HEND := hide (show Post (.returned D'.val) (w3.alloc (.cells #[.float .f64 0, .int .i64 0, .int .i64 0, .int .i64 0, .int .i64 0, .int .i64 0] 39)) by
          rw [HPO.out]
          refine ⟨D', rfl, ?_, hS4.dnT.at_, below_after HB.out hS4.bel⟩
          have h1 : plain9 S' W' D' = run9 ⟨seed, fin, ⟨dA, dc, dl⟩, ⟨pA, pc, pl⟩, ⟨lA, lc, ll⟩, ⟨iA, ic, il⟩⟩ n N9 := by
            obtain ⟨d, rfl⟩ := Nat.exists_eq_add_of_le hk
            rw [hp', step9_stop HW.out, run9_add, ← HPL.out, run9_stop _ HW.out]
          rw [← h1]; rfl)
        have g8 := hS4.box.cell 8
        simp only [List.getElem?_toArray, List.getElem?_cons_zero, List.getElem?_cons_succ] at g8
        clear hS' hp' hO' hg' hb3 hS4 HSK HPL HW
        unfold stepNone
        unfold Sl.val at HEND g8
        go_wp2_with fail
        first | exact HEND.out | (go_ret; exact HEND.out)
      | cons e r =>
        have hW2 := stepV_some (m := ⟨seed, fin, ⟨dA, dc, dl⟩, ⟨pA, pc, pl⟩, ⟨lA, lc, ll⟩, ⟨iA, ic, il⟩⟩) hW
        obtain ⟨a0, a1, a2, a3, a4, a5, hA⟩ : ∃ a0 a1 a2 a3 a4 a5, stepV ⟨seed, fin, ⟨dA, dc, dl⟩, ⟨pA, pc, pl⟩, ⟨lA, lc, ll⟩, ⟨iA, ic, il⟩⟩ (plain9 S W D) = .tuple #[.agg #[.float .f64 a0, .int .i64 a1, .int .i64 a2, .int .i64 a3, .int .i64 a4, .int .i64 a5], .bool true] := ⟨_, _, _, _, _, _, hW2⟩
        rw [hA] at HSK
        clear hA hW2 hW
        go_wp2_with fail
        refine HSK.out.mono ?_
        rintro e w3 ⟨S', W', D', rfl, hS', hp', hO', hg'⟩
        have hb3 := (Below.refl w3.heap.size w3).alloc (Nat.le_refl _) (.cells #[.float .f64 a0, .int .i64 a1, .int .i64 a2, .int .i64 a3, .int .i64 a4, .int .i64 a5] 39)
        have HS4 := hide (hS'.below hb3)
        have HP4 := hide (show plain9 S' W' D' = run9 ⟨seed, fin, ⟨dA, dc, dl⟩, ⟨pA, pc, pl⟩, ⟨lA, lc, ll⟩, ⟨iA, ic, il⟩⟩ (k + 1) N9 by rw [hp', run9_succ, ← HPL.out])
        have HO4 := hide (show Ok9 ⟨seed, fin, ⟨dA, dc, dl⟩, ⟨pA, pc, pl⟩, ⟨lA, lc, ll⟩, ⟨iA, ic, il⟩⟩ (k + 1) (plain9 S' W' D') by rw [hp']; exact hO')
        clear hS' hp' hO' hg' hb3 HSK HPL
        go_wp2_with fail
        go_roundw
        case rel => exact ⟨k + 1, S', W', D', by omega, by go_num, HP4.out, HS4.out, HO4.out⟩
        case measure => simp [intOf]; omega
    · obtain rfl : k = n := by omega
      have HEND := hide (show Post (.returned D.val) wr by
        rw [HPO.out]
        refine ⟨D, rfl, ?_, hS.dnT.at_, below_after HB.out hS.bel⟩
        rw [← hpl]; rfl)
      have g8 := hS.box.cell 8
      simp only [List.getElem?_toArray, List.getElem?_cons_zero, List.getElem?_cons_succ] at g8
      clear hpl hS hO HST
      unfold Sl.val at HEND g8
      go_wp2_with fail
      first | exact HEND.out | (go_ret; exact HEND.out)
end Go.Proofs.Ytpfcmfannkbipaa
end
