/- Texts of this claim in one. No condition. -/
import Derived.Test.YtpfcmfannkbipaaJ49
import Derived.Test.YtpfcmfannkbipaaJ31
import Derived.Test.YtpfcmfannkbipaaJ15
import Derived.Test.YtpfcmfannkbipaaJ48
import Derived.Test.YtpfcmfannkbipaaJ30
section
set_option linter.unusedVariables false
set_option linter.unusedSimpArgs false
set_option maxRecDepth 20000
namespace Go.Proofs.Ytpfcmfannkbipaa
open Go.RowKit Go.Deep Go.Maps

attribute [local go_sem] run_store_float
theorem chk_small {m : Mdl} (h : chkB m = true) : m.small := by
  obtain ⟨h1, h2, h3, h4, h5, h6, h7⟩ := chk_counts h
  obtain ⟨_, _, _, hp, hl, _⟩ := chk_parts h
  refine ⟨by omega, by omega, by omega, by omega, fun s hs => ?_, fun x hx => ?_⟩
  · have := List.all_eq_true.1 hp s hs
    unfold progB at this
    simp only [Bool.and_eq_true, decide_eq_true_eq] at this
    omega
  · have := List.all_eq_true.1 hl x hx
    unfold lpB at this
    simp only [decide_eq_true_eq] at this
    omega
/-- A state more, in a simulation that begins. -/
theorem PSm.addSt {lo g b : Nat} {m : Mdl} {S : Sl St} {L : List NE} {nx hd : Int} {w : World} (h : PSm lo g b m S L nx hd w) (x : St) (hx : TRow 3 IntAt 1 w x.wd ∧ I64 x.sent ∧ I64 x.dice) (hS : S.L.length ≤ 1000) (hlo : lo ≤ w.heap.size) (ty : TypeId) :
    ∃ (S' : Sl St) (w3 : World), (Builtin.append_ #[92, 92] ty #[S.val, .slice (some ⟨w.heap.size, 0, none⟩) 1 1]).run Try.prog (w.alloc (.cells #[x.wd.val, .int .i64 x.sent, .int .i64 x.dice] 61)) = .ok S'.val w3 ∧ S'.L = S.L ++ [x] ∧
      w3.cell? ⟨g, 6, none⟩ = some S.val ∧ w3.frozen? ⟨g, 6, none⟩ = false ∧ PSm lo g b m S' L nx hd (w3.setCell ⟨g, 6, none⟩ S'.val) ∧ Off (fun k => k = g ∨ S.val.ownBlock = some k) w (w3.setCell ⟨g, 6, none⟩ S'.val) := by
  obtain ⟨v', w3, hrun, hown, hg⟩ := run_append_one (P := Try.prog) 61 92 ty 3 40 (.agg #[.slice none 0 0, .int .i64 0, .int .i64 0]) encSt (by decide) (fun _ => rfl) one_st Try.underlying92 inf_st rfl w lo S.val S.L x #[x.wd.val, .int .i64 x.sent, .int .i64 x.dice] rfl h.st (by omega) (by omega) hlo
  obtain ⟨S', rfl, hL, _, _⟩ := hown.form
  have ho0 : Off (fun k => S.val.ownBlock = some k) w w3 := Off.of_grown hg.1 fun k e => e
  have hgn : ¬ S.val.ownBlock = some g := own_blk_ne h.st h.box (by decide)
  have hbx := ho0.blk h.box hgn
  have ho : Off (fun k => k = g ∨ S.val.ownBlock = some k) w (w3.setCell ⟨g, 6, none⟩ S'.val) := (ho0.mono (T' := fun k => k = g ∨ S.val.ownBlock = some k) fun k _ e => .inr e).setCell (p := ⟨g, 6, none⟩) (.inl (.inl rfl)) _
  have hT : ∀ k, (k = g ∨ S.val.ownBlock = some k) → tch g b S k := fun k hk => hk.elim .inl fun e => .inr (.inr e)
  have hint : ∀ k cs, Blk w k 3 cs → ¬ (k = g ∨ S.val.ownBlock = some k) := fun k cs hk e => h.typ hk (by decide) (by decide) (hT k e)
  have hmt : ∀ k t cs, Blk w k t cs → mtyp t → ¬ (k = g ∨ S.val.ownBlock = some k) := fun k t cs hk ht e => h.mty hk ht (hT k e)
  have c6 := hbx.cell 6
  simp only [simC, List.getElem?_toArray, List.getElem?_cons_zero, List.getElem?_cons_succ] at c6
  refine ⟨S', w3, hrun, hL, c6, hbx.frozen 6, ⟨⟨h.ms.1.off ho hmt, h.ms.2⟩, h.ge, h.geb, ?_, ?_, fun s hs => ?_, ?_, h.num⟩, ho⟩
  · have := hbx.set_ 6 S'.val
    simpa [simC] using this
  · rw [hL]
    exact hown.far9 hbx (by decide) 6 _
  · rw [hL] at hs
    rcases List.mem_append.1 hs with hs | hs
    · exact ⟨(h.wds s hs).1.off int_local ho hint, (h.wds s hs).2⟩
    · obtain rfl := List.mem_singleton.1 hs
      exact ⟨hx.1.off int_local ho hint, hx.2⟩
  · obtain ⟨D, h1, h2⟩ := h.mp
    refine ⟨D, ho.map h1 (fun e => ?_), h2⟩
    rcases e with e | e
    · exact h.ne e.symm
    · obtain ⟨cur, hc⟩ := h.st.typ e
      exact h.notb (t := 61) hc rfl
/-- What New hands back of a model that may be. -/
def New9pTo (w : World) (m : Mdl) (e : Ending) (w' : World) : Prop :=
  ∃ lo g b c S L, e = .returned (.tuple #[.pointer (some ⟨g, 0, none⟩), .int .i64 0]) ∧ w.heap.size ≤ lo ∧ Con9 c m ∧ PSm lo g b c S L (((begV m.fin 0 m.il.L).length : Nat) : Int) 0 w' ∧ S.L.map St.pl = (new9 m).1 ∧ L.map Prod.snd = (new9 m).2.1 ∧ Below w.heap.size w w'
theorem new9p_bad (m : Mdl) (w : World) (hm : m.At w) (hc : chkB m = false) : Calls Try.prog 56 #[m.val] w fun e w' => e = .returned (.tuple #[.pointer none, .int .i64 15]) ∧ Below w.heap.size w w' := by
  have hX := Blk.new w 58 #[.int .i64 m.seed, .float .f64 m.fin, m.dl.val, m.pl.val, m.ll.val, m.il.val]
  have hb := (Below.refl w.heap.size w).alloc (Nat.le_refl _) (.cells #[.int .i64 m.seed, .float .f64 m.fin, m.dl.val, m.pl.val, m.ll.val, m.il.val] 58)
  have HC := hide (check_any m _ (hm.below hb))
  rw [show chkE m = 15 by unfold chkE; rw [hc]; rfl] at HC
  have HB := hide hb
  obtain ⟨seed, fin, ⟨dA, dc, dl⟩, ⟨pA, pc, pl⟩, ⟨lA, lc, ll⟩, ⟨iA, ic, il⟩⟩ := m
  simp only [Mdl.val, Sl.val] at *
  have x0 := hX.cell 0
  have x1 := hX.cell 1
  have x2 := hX.cell 2
  have x3 := hX.cell 3
  have x4 := hX.cell 4
  have x5 := hX.cell 5
  simp only [List.getElem?_toArray, List.getElem?_cons_zero, List.getElem?_cons_succ] at x0 x1 x2 x3 x4 x5
  clear hX hb hm hc
  go_enter Try.func56, Try.ntmps56
  go_upto_region 1 with fail
  generalize World.alloc w _ = w1 at *
  go_wp2_with fail
  refine HC.out.mono ?_
  rintro e w2 ⟨rfl, hb2⟩
  have HB2 := hide (below_after HB.out hb2)
  clear hb2
  go_wp2_with fail
  go_ret2
  exact ⟨rfl, HB2.out⟩
end Go.Proofs.Ytpfcmfannkbipaa
end

section
set_option linter.unusedVariables false
set_option linter.unusedSimpArgs false
set_option maxRecDepth 20000
namespace Go.Proofs.Ytpfcmfannkbipaa
open Go.RowKit Go.Deep Go.Maps

attribute [local go_sem] run_store_float
theorem firR_good {m : Mdl} (hc : chkB m = true) {k : Nat} (hk : k < m.ll.L.length) : firR m (k : Int) = (mwd m (k : Int), 0, 0) ∧ firE m (k : Int) = 0 := by
  have h : firE m (k : Int) = 0 := by
    unfold firE
    rw [if_pos hc, if_pos ⟨by omega, by omega⟩]
  refine ⟨?_, h⟩
  unfold firR
  rw [if_pos h]
theorem OwnM.lower9 {B N : Nat} {c : Mdl} {w : World} (h : OwnM B c w) (hN : N ≤ B) : OwnM N c w :=
  ⟨OwnR.lower h.dls hN, OwnR.lower h.pls hN, fun s hs => OwnR.lower (h.ps s hs) hN, OwnR.lower h.lls hN, fun x hx => OwnR.lower (h.ls x hx) hN, OwnR.lower h.ils hN⟩
/-- The simulation that New begins with. -/
theorem PSm.begin {w2 : World} {c : Mdl} {lo : Nat} (hc : c.At w2) (hown : OwnM lo c w2) (hlo : lo ≤ w2.heap.size) : PSm lo (w2.heap.size + 1) w2.heap.size c ⟨none, 0, []⟩ [] 0 0 ((w2.alloc (.map #[] 0)).alloc (.cells (simC c ⟨none, 0, []⟩ w2.heap.size 0 0) 136)) := by
  have hs : (w2.alloc (.map #[] 0)).heap.size = w2.heap.size + 1 := Array.size_push ..
  have hb : Below w2.heap.size w2 ((w2.alloc (.map #[] 0)).alloc (.cells (simC c ⟨none, 0, []⟩ w2.heap.size 0 0) 136)) := ((Below.refl _ _).alloc (Nat.le_refl _) _).alloc (by omega) _
  refine ⟨⟨hown.below hb, w2, hc⟩, by omega, hlo, ?_, OwnR.nil, fun s hs => (by cases hs), ⟨_, (World.ownsMap_made w2 Try.prog 3 evR).alloc _, Rep.nil⟩, NumOk.nil⟩
  have := Blk.new (w2.alloc (.map #[] 0)) 136 (simC c ⟨none, 0, []⟩ w2.heap.size 0 0)
  rwa [hs] at this
set_option maxHeartbeats 4000000 in
theorem new9p_any (m : Mdl) (w : World) (hm : m.At w) (hc : chkB m = true) : Calls Try.prog 56 #[m.val] w (New9pTo w m) := by
  obtain ⟨hc1, hc2, hc3, hc4, hc5, hc6, hc7⟩ := chk_counts hc
  have hX := Blk.new w 58 #[.int .i64 m.seed, .float .f64 m.fin, m.dl.val, m.pl.val, m.ll.val, m.il.val]
  have hb := (Below.refl w.heap.size w).alloc (Nat.le_refl _) (.cells #[.int .i64 m.seed, .float .f64 m.fin, m.dl.val, m.pl.val, m.ll.val, m.il.val] 58)
  have HC := hide (check_any m _ (hm.below hb))
  rw [show chkE m = 0 by unfold chkE; rw [hc]; rfl] at HC
  have HCP := hide (fun W (h : Below w.heap.size w W) => copy_any m W (hm.below h) (chk_small hc))
  have HFI := hide (fun (k : Nat) (hk : k < m.ll.L.length) W (hb : Below w.heap.size w W) => first_any m k W (hm.below hb))
  have HFR := hide (fun (k : Nat) (hk : k < m.ll.L.length) => firR_good hc hk)
  have HBG := hide (fun W (hb : Below w.heap.size w W) => begin8_any m W (hm.below hb))
  have HBR := hide (show begR m = begV m.fin 0 m.il.L by unfold begR; rw [if_pos hc])
  have HWD := hide (fun i => mwd_ok hm i)
  have HBL := hide (begV_len m.fin m.il.L 0)
  have HM := hide hm
  have HB := hide hb
  have HX := hide hX
  obtain ⟨Post, hPost⟩ : ∃ P : Ending → World → Prop, P = New9pTo w m := ⟨_, rfl⟩
  rw [← hPost]
  have HPO := hide hPost
  have hmm := @run_makeMap Try.prog
  clear hPost hc hb hm
  obtain ⟨seed, fin, ⟨dA, dc, dl⟩, ⟨pA, pc, pl⟩, ⟨lA, lc, ll⟩, ⟨iA, ic, il⟩⟩ := m
  simp only [Mdl.val, Sl.val] at *
  have hl63 : ll.length ≤ 9223372036854775807 := by omega
  have x0 := hX.cell 0
  have x1 := hX.cell 1
  have x2 := hX.cell 2
  have x3 := hX.cell 3
  have x4 := hX.cell 4
  have x5 := hX.cell 5
  simp only [List.getElem?_toArray, List.getElem?_cons_zero, List.getElem?_cons_succ] at x0 x1 x2 x3 x4 x5
  clear hX
  go_enter Try.func56, Try.ntmps56
  go_upto_region 1 with fail
  generalize World.alloc w _ = w1 at *
  generalize hn : w.heap.size = n at *
  have HN := hide hn
  clear hn
  go_wp2_with fail
  refine HC.out.mono ?_
  rintro e w2 ⟨rfl, hb2⟩
  have HX2 := hide (HX.out.below hb2 HX.out.lt)
  have HB2 := hide (show Below n w w2 from HN.out ▸ (below_after (HN.out.symm ▸ HB.out) hb2))
  have hX2 := HX2.out
  clear hb2 HC HB HX x0 x1 x2 x3 x4 x5
  have x0 := hX2.cell 0
  have x1 := hX2.cell 1
  have x2 := hX2.cell 2
  have x3 := hX2.cell 3
  have x4 := hX2.cell 4
  have x5 := hX2.cell 5
  simp only [List.getElem?_toArray, List.getElem?_cons_zero, List.getElem?_cons_succ] at x0 x1 x2 x3 x4 x5
  clear hX2
  have HCW := hide (HCP.out w2 HB2.out)
  clear HCP
  go_wp2_with fail
  refine HCW.out.mono ?_
  rintro e w3 ⟨c, rfl, hsc, ho, hb3⟩
  have hX3 := HX2.out.below hb3 HX2.out.lt
  have hcA := ho.at_ hsc HM.out
  have hcon : Con9 c ⟨seed, fin, ⟨dA, dc, dl⟩, ⟨pA, pc, pl⟩, ⟨lA, lc, ll⟩, ⟨iA, ic, il⟩⟩ := ⟨hsc.seed, hsc.fin, hsc.dl, hsc.pl, hsc.ll, hsc.il⟩
  have hn3 : n ≤ w3.heap.size := by have := (below_after (HN.out.symm ▸ HB2.out) hb3).size; have := HN.out; omega
  have hP := PSm.begin (lo := n) hcA (ho.lower9 (by have := (show Below n w w2 from HB2.out).size; have := HN.out; omega)) hn3
  have hbb : Below w3.heap.size w3 ((w3.alloc (.map #[] 0)).alloc (.cells (simC c ⟨none, 0, []⟩ w3.heap.size 0 0) 136)) := ((Below.refl _ _).alloc (Nat.le_refl _) _).alloc (by rw [show (w3.alloc (.map #[] 0)).heap.size = w3.heap.size + 1 from Array.size_push ..]; omega) _
  have hX4 := hX3.below hbb hX3.lt
  have hB4 := below_after (below_after (HN.out.symm ▸ HB2.out) hb3) hbb
  have HP := hide hP
  have HX4 := hide hX4
  have HB4 := hide (show Below n w _ from HN.out ▸ hB4)
  have HCO := hide hcon
  obtain ⟨cs, cf, cd, cp, cl, ci⟩ := c
  simp only [Mdl.val] at *
  clear hb3 hX3 hcA hcon hP hbb hX4 hB4 hsc ho HCW HX2 HB2 x0 x1 x2 x3 x5
  go_upto_region 5 with fail
  have HLL := hide (show n ≤ ((w3.alloc (.map #[] 0)).alloc (.cells (simC ⟨cs, cf, cd, cp, cl, ci⟩ ⟨none, 0, []⟩ w3.heap.size 0 0) 136)).heap.size from Nat.le_trans hn3 (Nat.le_trans (Nat.le_succ _) (Nat.le_of_lt HP.out.box.lt)))
  change Code.wp _ _ _ _ ((w3.alloc (.map #[] 0)).alloc (.cells (simC ⟨cs, cf, cd, cp, cl, ci⟩ ⟨none, 0, []⟩ w3.heap.size 0 0) 136))
  generalize (World.alloc (World.alloc w3 _) _) = w4 at *
  clear hn3
  generalize w3.heap.size = bm at *
  generalize (⟨cs, cf, cd, cp, cl, ci⟩ : Mdl) = C at *
  obtain ⟨g, hg⟩ : ∃ g, bm + 1 = g := ⟨_, rfl⟩
  rw [hg] at HP ⊢
  clear x4 hg
  have hX4 := HX4.out
  have x0 := hX4.cell 0
  have x1 := hX4.cell 1
  have x2 := hX4.cell 2
  have x3 := hX4.cell 3
  have x4 := hX4.cell 4
  have x5 := hX4.cell 5
  simp only [List.getElem?_toArray, List.getElem?_cons_zero, List.getElem?_cons_succ] at x0 x1 x2 x3 x4 x5
  clear hX4 x0 x1 x2 x3 x5 hmm
  obtain ⟨M, hM⟩ : ∃ M : Mdl, M = ⟨seed, fin, ⟨dA, dc, dl⟩, ⟨pA, pc, pl⟩, ⟨lA, lc, ll⟩, ⟨iA, ic, il⟩⟩ := ⟨_, rfl⟩
  rw [← hM] at HFI HFR HBG HBR HWD HCO HPO
  have HMM := hide hM
  clear hM HM
  go_wp2_with fail
  clear x4
  go_loopw [24] (fun i wr => ∃ (k : Nat) (S : Sl St), k ≤ ll.length ∧ i = .int .i64 k ∧ S.L.map St.pl = (List.range k).map (fun i : Nat => (mwd M (i : Int), (0 : Int), (0 : Int))) ∧ PSm n g bm C S [] 0 0 wr ∧ Blk wr n 58 #[.int .i64 seed, .float .f64 fin, .slice dA dl.length dc, .slice pA pl.length pc, .slice lA ll.length lc, .slice iA il.length ic] ∧ Below n w wr ∧ n ≤ wr.heap.size) (fun i _ => ll.length - (intOf i).toNat)
  case atStart => exact ⟨0, ⟨none, 0, []⟩, Nat.zero_le _, rfl, rfl, HP.out, HX4.out, HB4.out, HLL.out⟩
  case round =>
    clear HP HX4 HB4 HLL
    obtain ⟨k, S, hk, rfl, hSm, hP, hX, hbr, hlr⟩ := hrel
    by_cases hlt : k < ll.length
    · have hSl : S.L.length ≤ 1000 := by
        have := congrArg List.length hSm
        simp only [List.length_map, List.length_range] at this
        omega
      have kI : (k : Int) < (ll.length : Int) := by omega
      have kJ : (0 : Int) ≤ (k : Int) := by omega
      have HFK := hide (HFI.out k hlt wr hbr)
      obtain ⟨hfr, hfe⟩ := HFR.out k hlt
      have HP := hide hP
      have HX := hide hX
      have HBR2 := hide hbr
      have HSM := hide hSm
      have HLR := hide hlr
      have x0 := hX.cell 0
      have x1 := hX.cell 1
      have x2 := hX.cell 2
      have x3 := hX.cell 3
      have x4 := hX.cell 4
      have x5 := hX.cell 5
      simp only [List.getElem?_toArray, List.getElem?_cons_zero, List.getElem?_cons_succ] at x0 x1 x2 x3 x4 x5
      clear hP hX hbr hSm hlr
      go_wp2_with fail
      refine HFK.out.mono ?_
      rintro e w5 ⟨A, kc, rfl, how, hb5⟩
      rw [hfr, hfe]
      rw [hfr] at how
      simp only at how ⊢
      have how2 := TRow.of_own (e := 3) (d := IntAt) (size := 1) (s := ⟨A, kc, mwd M (k : Int)⟩) (ok := fun _ z => I64 z) (by decide) (fun _ => rfl) makes_int how (HWD.out k)
      clear x0 x1 x2 x3 x4 x5 HFK how hfr hfe
      generalize hmw : mwd M (k : Int) = mw at *
      have HMW := hide hmw
      clear hmw
      have hb6 := ((Below.refl w5.heap.size w5).alloc (Nat.le_refl _) (.cells #[.slice A mw.length kc, .int .i64 0, .int .i64 0] 61)).drew
      have hBx := (Blk.new w5 61 #[.slice A mw.length kc, .int .i64 0, .int .i64 0]).drew
      have hP6 := (HP.out.below hb5).below hb6
      have hX6 := (HX.out.below hb5 HX.out.lt).below hb6 (HX.out.below hb5 HX.out.lt).lt
      have hbr6 := below_after (HN.out.symm ▸ (show Below n w w5 from HN.out ▸ below_after (HN.out.symm ▸ HBR2.out) hb5)) hb6
      have hw6 := how2.below IntAt.keeps hb6
      have hl6 : n ≤ (World.drew (w5.alloc (.cells #[.slice A mw.length kc, .int .i64 0, .int .i64 0] 61))).heap.size := Nat.le_trans HLR.out (Nat.le_trans hb5.size hb6.size)
      have hz0 : I64 0 := ⟨by decide, by decide⟩
      obtain ⟨S', w7, hrun, hSL', c6, f6, hP7, hO7⟩ := hP6.addSt ⟨⟨A, kc, mw⟩, 0, 0⟩ ⟨hw6, hz0, hz0⟩ hSl hl6 92
      have hg6 := hP6.box.cell 6
      simp only [simC, List.getElem?_toArray, List.getElem?_cons_zero, List.getElem?_cons_succ] at hg6
      have HX7 := hide (hO7.blk hX6 (fun e => hP6.typ hX6 (by decide) (by decide) (e.elim .inl fun e => .inr (.inr e))))
      have HB7 := hide (show Below n w (w7.setCell ⟨g, 6, none⟩ S'.val) from by
        have h1 := hO7.below (B := n) hl6 (fun k hk => by
          have := hP6.tlo (hk.elim .inl fun e => .inr (.inr e))
          omega)
        have h2 : Below n w _ := HN.out ▸ hbr6
        exact h2.trans h1)
      have HL7 := hide (show n ≤ (w7.setCell ⟨g, 6, none⟩ S'.val).heap.size from Nat.le_trans hl6 hO7.size)
      have HS7 := hide (show S'.L.map St.pl = (List.range (k + 1)).map (fun i : Nat => (mwd M (i : Int), (0 : Int), (0 : Int))) by
        rw [hSL', List.map_append, HSM.out, List.range_succ, List.map_append]
        simp only [List.map_cons, List.map_nil, HMW.out]
        rfl)
      have HP7 := hide hP7
      have b0 := hBx.cell 0
      have b1 := hBx.cell 1
      have b2 := hBx.cell 2
      simp only [List.getElem?_toArray, List.getElem?_cons_zero, List.getElem?_cons_succ] at b0 b1 b2
      generalize hW6 : World.drew (w5.alloc (.cells #[.slice A mw.length kc, .int .i64 0, .int .i64 0] 61)) = w6 at *
      have CD := hide (fun o => And.intro (keepc ((Below.refl w6.heap.size w6).alloc (Nat.le_refl _) o) hg6) (And.intro (keepc ((Below.refl w6.heap.size w6).alloc (Nat.le_refl _) o) b0) (And.intro (keepc ((Below.refl w6.heap.size w6).alloc (Nat.le_refl _) o) b1) (keepc ((Below.refl w6.heap.size w6).alloc (Nat.le_refl _) o) b2))))
      have HW6 := hide hW6
      clear hP7 hO7 hP6 hX6 hbr6 hw6 hBx hb6 hb5 how2 hSL' hW6 HP HX HBR2 HLR HSM
      unfold Sl.val at hrun c6 HX7 HB7 HL7 HP7 hg6
      simp only at hrun
      go_upto_region 9 with fail
      refine wp_region_reads (fun X => X.cell? ⟨g, 6, none⟩ = some S.val ∧ X.cell? ⟨w5.heap.size, 0, none⟩ = some (.slice A mw.length kc) ∧ X.cell? ⟨w5.heap.size, 1, none⟩ = some (.int .i64 0) ∧ X.cell? ⟨w5.heap.size, 2, none⟩ = some (.int .i64 0))
        (.pointer (some ⟨g, 0, none⟩)) 5 1 (by kernel_rfl) (by kernel_rfl) (Or.inl ⟨by rfl, fun w => by rfl⟩) (fun _ _ _ h => h) ?_ ?_
      · show (World.drew (w5.alloc (.cells #[.slice A mw.length kc, .int .i64 0, .int .i64 0] 61))).cell? _ = _ ∧ _
        rw [HW6.out]
        exact ⟨hg6, b0, b1, b2⟩
      simp only [Act.put, List.setIfInBounds_toArray, List.set_cons_zero, List.set_cons_succ, List.take_succ_cons, List.take_zero, List.drop_succ_cons, List.drop_zero]
      repeat (refine head_step ?_ (by rfl) ?_ (fun _ _ _ h => h) ?_; rotate_left; (intro w' hs; obtain ⟨zs, zy, zg, zh⟩ := hs; unfold Sl.val at zs; go_simp; (try with_reducible rfl)); (try simp only [Act.put, List.setIfInBounds_toArray, List.set_cons_zero, List.set_cons_succ]))
      refine head_nil ?_
      rw [HW6.out]
      refine mid_step _ (w6.alloc (.cells #[.slice A mw.length kc, .int .i64 0, .int .i64 0] 61)) (by rfl) (by go_simp; first | rfl | exact ⟨rfl, rfl⟩) (CD.out _) ?_
      refine mid_nil ?_
      simp only [Act.put, List.setIfInBounds_toArray, List.set_cons_zero, List.set_cons_succ]
      clear CD b0 b1 b2 hg6 HW6
      go_wp2_with (at_builtin; refine wpList_of_append rfl _ w7 (.tmp 37) (.tmp 39) 92 _ _ _ rfl rfl rfl hrun ?_)
      go_roundw
      case rel => exact ⟨k + 1, S', by omega, by go_num, HS7.out, HP7.out, HX7.out, HB7.out, HL7.out⟩
      case measure => simp [intOf]; omega
    · obtain rfl : k = ll.length := by omega
      have x0 := hX.cell 0
      have x1 := hX.cell 1
      have x2 := hX.cell 2
      have x3 := hX.cell 3
      have x4 := hX.cell 4
      have x5 := hX.cell 5
      simp only [List.getElem?_toArray, List.getElem?_cons_zero, List.getElem?_cons_succ] at x0 x1 x2 x3 x4 x5
      have HP := hide hP
      have HSM := hide hSm
      have HBW := hide (HBG.out wr hbr)
      have HBR2 := hide hbr
      clear hP hSm hX hlt hk HFI HBG HWD HFR hbr
      go_wp2_with fail
      refine HBW.out.mono ?_
      rintro e w5 ⟨⟨qA, qc, qL⟩, rfl, hqL, hoq, hb5⟩
      simp only at hqL
      rw [HBR.out] at hqL
      have hq16 : qL.length ≤ 16 := by
        rw [hqL]
        exact Nat.le_trans HBL.out hc7
      have HPT := hide (put9p_any (HP.out.below hb5) ⟨qA, qc, qL⟩ (TRow.of_own (ok := fun _ _ => True) (by decide) (fun _ => rfl) makes_evb hoq (fun _ _ => trivial)) (by simp only; omega))
      have HQL := hide hqL
      have HP5 := hide (HP.out.below hb5)
      have HB5 := hide (below_after (HN.out.symm ▸ HBR2.out) hb5)
      clear x0 x1 x2 x3 x4 x5 hoq hqL hb5 HBW HBR HBR2 HP
      unfold Sl.val at HPT ⊢
      simp only at HPT ⊢
      go_wp2_with fail
      refine HPT.out.mono ?_
      rintro e w6 ⟨rfl, hP6, hO6⟩
      have HEND := hide (show Post (.returned (.tuple #[.pointer (some ⟨g, 0, none⟩), .int .i64 0])) w6 by
        rw [HPO.out]
        have hnx : (0 : Int) + (qL.length : Int) = (((begV M.fin 0 M.il.L).length : Nat) : Int) := by rw [HMM.out, HQL.out]; simp
        rw [hnx] at hP6
        have hlw := HN.out
        refine ⟨n, g, bm, C, S, insNs 0 qL [], rfl, by omega, HCO.out, hP6, ?_, ?_, ?_⟩
        · rw [HSM.out, HMM.out]
          rfl
        · rw [insNs_map, HQL.out, HMM.out]
          rfl
        · exact HB5.out.trans (hO6.below HB5.out.size (fun k hk => by have := HP5.out.tlo hk; omega)))
      clear hP6 hO6 HPT HP5 HB5 HSM
      go_wp2_with fail
      first | exact HEND.out | (go_ret2; exact HEND.out)
end Go.Proofs.Ytpfcmfannkbipaa
end

section
set_option linter.unusedVariables false
set_option linter.unusedSimpArgs false
set_option maxRecDepth 20000
namespace Go.Proofs.Ytpfcmfannkbipaa
open Go.RowKit Go.Deep Go.Maps

attribute [local go_sem] run_store_float
theorem Ok9.mono {m : Mdl} {n n' : Nat} {s : Sm9} (h : Ok9 m n s) (hn : n ≤ n') : Ok9 m n' s := ⟨h.wt, h.sort, by have := h.len; omega, h.sl, by have := h.dl; omega⟩
/-- The blocks that a simulation turns, by its row of states. -/
def tchv (g b : Nat) (Sv : Value) (k : Nat) : Prop := k = g ∨ k = b ∨ Sv.ownBlock = some k
/-- The package's simulation of a model that may be, behind n steps at most: s is what it is plainly. -/
def Pk9 (lo g b : Nat) (m : Mdl) (n : Nat) (s : Sm9) (Sv : Value) (w : World) : Prop :=
  ∃ c S L nx hd, PSm lo g b c S L nx hd w ∧ S.val = Sv ∧ Con9 c m ∧ chkB c = true ∧ S.L.map St.pl = s.1 ∧ L.map Prod.snd = s.2.1 ∧ hd = (s.2.2.length : Int) ∧ Ok9 c n s ∧ nx ≤ 16 + 4 * (n : Int) ∧ (∀ x ∈ s.1, x.1.length ≤ 8) ∧ Hd9 c s
theorem Pk9.mono {lo g b : Nat} {m : Mdl} {n n' : Nat} {s : Sm9} {Sv : Value} {w : World} (h : Pk9 lo g b m n s Sv w) (hn : n ≤ n') : Pk9 lo g b m n' s Sv w := by
  obtain ⟨c, S, L, nx, hd, h1, h2, h3, h4, h5, h6, h7, h8, h9, h10⟩ := h
  exact ⟨c, S, L, nx, hd, h1, h2, h3, h4, h5, h6, h7, h8.mono hn, by omega, h10⟩
theorem Pk9.below {lo g b : Nat} {m : Mdl} {n : Nat} {s : Sm9} {Sv : Value} {w w' : World} (h : Pk9 lo g b m n s Sv w) (hb : Below w.heap.size w w') : Pk9 lo g b m n s Sv w' := by
  obtain ⟨c, S, L, nx, hd, h1, h2⟩ := h
  exact ⟨c, S, L, nx, hd, h1.below hb, h2⟩
theorem Pk9.off {lo g b : Nat} {m : Mdl} {n : Nat} {s : Sm9} {Sv : Value} {w w' : World} {T : Nat → Prop} (h : Pk9 lo g b m n s Sv w) (ho : Off T w w') (hT : ∀ k, tchv g b Sv k → ¬ T k) (hi : ∀ k t cs, Blk w k t cs → mtyp t → ¬ T k) : Pk9 lo g b m n s Sv w' := by
  obtain ⟨c, S, L, nx, hd, h1, rfl, h2⟩ := h
  exact ⟨c, S, L, nx, hd, h1.off ho hT hi, rfl, h2⟩
theorem Pk9.typ {lo g b : Nat} {m : Mdl} {n : Nat} {s : Sm9} {Sv : Value} {w : World} (h : Pk9 lo g b m n s Sv w) {k : Nat} {t : TypeId} {cs : Array Value} (hk : Blk w k t cs) (h1 : t ≠ 136) (h2 : 61 ≠ t) : ¬ tchv g b Sv k := by
  obtain ⟨c, S, L, nx, hd, hp, rfl, _⟩ := h
  exact hp.typ hk h1 h2
theorem Pk9.mty {lo g b : Nat} {m : Mdl} {n : Nat} {s : Sm9} {Sv : Value} {w : World} (h : Pk9 lo g b m n s Sv w) {k : Nat} {t : TypeId} {cs : Array Value} (hk : Blk w k t cs) (ht : mtyp t) : ¬ tchv g b Sv k := by
  obtain ⟨c, S, L, nx, hd, hp, rfl, _⟩ := h
  exact hp.mty hk ht
theorem Pk9.tlo {lo g b : Nat} {m : Mdl} {n : Nat} {s : Sm9} {Sv : Value} {w : World} (h : Pk9 lo g b m n s Sv w) {k : Nat} (hk : tchv g b Sv k) : lo ≤ k ∧ k < w.heap.size := by
  obtain ⟨c, S, L, nx, hd, hp, rfl, _⟩ := h
  exact ⟨hp.tlo hk, hp.thi hk⟩
theorem Pk9.glt {lo g b : Nat} {m : Mdl} {n : Nat} {s : Sm9} {Sv : Value} {w : World} (h : Pk9 lo g b m n s Sv w) : lo ≤ g ∧ g < w.heap.size := h.tlo (.inl rfl)
theorem mwd_len8 {m : Mdl} (hc : chkB m = true) (i : Int) : (mwd m i).length ≤ 8 := by
  unfold mwd
  cases hx : m.ll.L[i.toNat]? with
  | none => simp
  | some x =>
    have := List.all_eq_true.1 (chk_parts hc).2.2.2.2.1 x (List.mem_of_getElem? hx)
    unfold lpB at this
    simp only [decide_eq_true_eq] at this
    exact this.2.2
theorem out_len {w : World} {p : Sl Ins4} {i : Inp} (hp : p.At InsAt 4 w) (hi : i.At w) : (outV p.L i.wd.L i.pay i.me i.lps i.seed i.dice).1.length ≤ i.wd.L.length := by
  unfold outV
  split
  · rename_i hm
    obtain ⟨h1, h2, h3, h4⟩ := vmay_ok hm
    have hv := vrun_ok (W := wordI i.seed i.me) (lps := i.lps) (nw := i.wd.L.length) (ins_ok hp h3) 120 (vbeg i.wd.L i.pay i.me i.lps i.dice) (vbeg_ok (sl_ints hi.wd) h4 hi.pay hi.me hi.lps hi.dice)
    split
    · exact Nat.le_of_eq hv.1.wl
    · simp
  · simp
theorem hO_len {m : Mdl} {lp : Int} {s : St} {e : Ev} {w : World} (hm : m.At w) (hs : s.At w) (he : EvOk e) (h : hE m lp s.pl e = 0) : (hO m lp s.pl e).1.length ≤ s.wd.L.length := by
  obtain ⟨hchk, h0, h1, _, h8, hs0, hd0⟩ := hE_parts h
  obtain ⟨x, sp, hx, hsp, p0, p1, hx8, hmpl⟩ := chk_lp hchk h0 h1
  obtain ⟨hc1, hc2, hc3, hc4, hc5, hc6, hc7⟩ := chk_counts hchk
  obtain ⟨b, hb, b0, hspA⟩ := hm.2.2.2.1.1 _ sp hsp
  have hinp : Inp.At w ⟨s.wd, e.2.2.2.2, lp, m.ll.L.length, m.seed, s.dice⟩ := ⟨hs.1, he.2.2.2.2, ⟨by simp only; omega, by simp only; omega⟩, ⟨by simp only; omega, by simp only; omega⟩, hm.1, hs.2.2⟩
  have hok := out_len hspA hinp
  have hOO : outV sp.L s.wd.L e.2.2.2.2 lp m.ll.L.length m.seed s.dice = hO m lp s.pl e := by unfold hO; rw [hmpl]; rfl
  rw [← hOO]
  exact hok
theorem hR_w8 {m : Mdl} {lp : Int} {s : St} {e : Ev} {w : World} (hm : m.At w) (hs : s.At w) (he : EvOk e) : (hR m lp s.pl e).1.1.length ≤ 8 := by
  unfold hR
  by_cases h : hE m lp s.pl e = 0
  · rw [if_pos h]
    have ho := hO_len hm hs he h
    obtain ⟨_, _, _, _, h8, _, _⟩ := hE_parts h
    unfold hV
    split
    · exact h8
    · split
      · have h8' : s.wd.L.length ≤ 8 := h8
        exact Nat.le_trans ho h8'
      · exact h8
  · rw [if_neg h]
    simp
theorem new9_start {m : Mdl} {w w' : World} {e : Ending} (hm : m.At w) (hc : chkB m = true) (h : New9pTo w m e w') : ∃ lo g b Sv, e = .returned (.tuple #[.pointer (some ⟨g, 0, none⟩), .int .i64 0]) ∧ w.heap.size ≤ lo ∧ Pk9 lo g b m 0 (new9 m) Sv w' ∧ Below w.heap.size w w' := by
  obtain ⟨lo, g, b, c, S, L, rfl, hlo, hcon, hP, hS, hL, hb⟩ := h
  have hcc : chkB c = true := by rw [hcon.chk]; exact hc
  have h16 : (begV m.fin 0 m.il.L).length ≤ 16 := Nat.le_trans (begV_len m.fin m.il.L 0) (chk_counts hc).2.2.2.2.2.2
  refine ⟨lo, g, b, S.val, rfl, hlo, ⟨c, S, L, _, 0, hP, rfl, hcon, hcc, hS, hL, rfl, ?_, by omega, ?_, Hd9.start rfl⟩, hb⟩
  · rw [← hcon.new9]
    exact new9_ok hP.mat hcc
  · intro x hx
    unfold new9 at hx
    simp only [List.mem_map] at hx
    obtain ⟨i, _, rfl⟩ := hx
    exact mwd_len8 hc _
theorem step9p_all {lo g b : Nat} {m : Mdl} {n : Nat} {s : Sm9} {Sv : Value} {w : World} (h : Pk9 lo g b m n s Sv w) (hn : n ≤ 10000) :
    Calls Try.prog 61 #[.pointer (some ⟨g, 0, none⟩)] w fun x w' => x = .returned (stepV m s) ∧ Pk9 lo g b m (n + 1) (step9 m s) Sv w' ∧ Off (tchv g b Sv) w w' := by
  obtain ⟨c, S, L, nx, hd, hP, rfl, hcon, hck, hS, hL, rfl, hok, hnx, hw8, hhd⟩ := h
  cases hW : s.2.1 with
  | nil =>
    rw [hW] at hL
    obtain rfl : L = [] := List.map_eq_nil_iff.1 hL
    refine (step9p_none hP (by omega)).mono ?_
    rintro x w' ⟨rfl, hP', hO⟩
    refine ⟨by rw [stepV_none hW], ?_, hO⟩
    rw [step9_stop hW]
    exact ⟨c, S, [], nx, _, hP', rfl, hcon, hck, hS, by rw [hW]; rfl, rfl, hok.mono (Nat.le_succ _), by omega, hw8, hhd⟩
  | cons e r =>
    rw [hW] at hL
    obtain ⟨p, r', rfl, hp1, hp2⟩ := List.map_eq_cons_iff.1 hL
    obtain ⟨n0, e'⟩ := p
    simp only at hp1
    subst hp1
    have hwt := hok.wt e' (by rw [hW]; simp)
    have hlen := hok.len
    rw [hW, List.length_cons] at hlen
    have hsl : S.L.length = c.ll.L.length := by
      have := hok.sl
      rw [← hS] at this
      simpa using this
    have hc := chk_counts hck
    have hlt : e'.2.2.2.1.toNat < S.L.length := by have := hwt.d1; have := hwt.d0; omega
    have hsk := List.getElem?_eq_getElem hlt
    have hmem := List.getElem_mem hlt
    generalize S.L[e'.2.2.2.1.toNat] = sk at *
    have hst : hr9 c s e' = hR c e'.2.2.2.1 sk.pl e' := by
      unfold hr9 stOf
      rw [← hS, List.getD_eq_getElem?_getD, List.getElem?_map, hsk]
      rfl
    have hsA : sk.At w := ⟨(hP.wds _ hmem).1.at_, (hP.wds _ hmem).2⟩
    have hout := out9 (lp := e'.2.2.2.1) hP.mat hsA hwt.ok (hwt.ok.2.2.2.1)
    have hel := (hR_ok (lp := e'.2.2.2.1) hP.mat hsA hwt.ok).el
    have hdl := hok.dl
    refine (step9p_some hP hwt.ok hwt.d0 sk hsk (by omega) ⟨by omega, by omega⟩ (by omega)).mono ?_
    rintro x w' ⟨S', rfl, hSv, hP', hSm, hO⟩
    have hstep := step9_eq (m := c) hW
    rw [hst] at hstep
    have hOk := hok.step hW (fun x hx => by rw [hst] at hx; exact (hout x hx).1) (by rw [hst]; exact hel)
    refine ⟨?_, ?_, hO⟩
    · have : stepV m s = stepV c s := by
        rw [stepV_some hW, stepV_some hW]
        unfold hr9
        rw [hcon.hR]
      rw [this, stepV_some hW, hst]
    · rw [← hcon.step9]
      refine ⟨c, S', _, _, _, hP', hSv, hcon, hck, ?_, ?_, ?_, hOk, by push_cast; omega, ?_, ?_⟩
      · rw [hstep, hSm, hS]
      · rw [hstep, insNs_map, hp2]
      · rw [hstep]
        simp
      · rw [hstep]
        intro x hx
        rcases List.mem_or_eq_of_mem_set hx with hx | rfl
        · exact hw8 x hx
        · exact hR_w8 hP.mat hsA hwt.ok
      · exact hhd.step hok hW fun x hx => by
          rw [hst] at hx
          have h1 := hout x hx
          exact Int.le_of_lt (later_cmp hwt.num h1.1.num h1.2)
end Go.Proofs.Ytpfcmfannkbipaa
end
