/- The walk of the law ModelioApart: unlike models that may be have unlike bytes. No condition. Printed by wip/tools/law06.py. -/
import Derived.Test.YtegegljpmelomaaLaw06
set_option linter.unusedVariables false
set_option linter.unusedSimpArgs false
set_option maxRecDepth 20000
namespace Go.Proofs.Ytegegljpmelomaa
open Go.RowKit Go.Deep
attribute [local go_sem] run_store_float
theorem eqL_map {α β : Type} {f : α → α → Bool} {g : α → β} {a b : List α} (hf : ∀ x ∈ a, ∀ y ∈ b, f x y = true → g x = g y) (h : eqL f a b = true) : a.map g = b.map g := by
  unfold eqL at h
  rw [Bool.and_eq_true, decide_eq_true_eq, List.all_eq_true] at h
  obtain ⟨hl, ha⟩ := h
  refine List.ext_getElem (by simp [hl]) fun i h1 h2 => ?_
  rw [List.length_map] at h1 h2
  rw [List.getElem_map, List.getElem_map]
  refine hf _ (List.getElem_mem h1) _ (List.getElem_mem h2) (ha (a[i], b[i]) ?_)
  rw [← List.getElem_zip (h := by rw [List.length_zip]; omega)]
  exact List.getElem_mem _
theorem fsame_is {x y : Nat} (hx : ¬ isNan x) (h : fsame x y = true) : x = y := by
  unfold fsame at h
  simp only [Bool.or_eq_true, decide_eq_true_eq, Bool.and_eq_true] at h
  rcases h with h | ⟨h, _⟩
  · exact h
  · exact absurd h hx
theorem mod_of_same {a b : Mdl} (hc : chkB a = true) (h : sameB a b = true) : modOf a = modOf b := by
  rw [chkB_eq] at hc
  simp only [Bool.and_eq_true, List.all_eq_true, Bool.not_eq_true', decide_eq_false_iff_not] at hc
  obtain ⟨⟨⟨⟨⟨_, hn⟩, hd⟩, _⟩, _⟩, hi⟩ := hc
  unfold sameB at h
  simp only [Bool.and_eq_true, decide_eq_true_eq] at h
  obtain ⟨h1, h2, h3, h4, h5, h6⟩ := h
  have e2 := fsame_is hn h2
  have e3 : a.dl.L.map id = b.dl.L.map id := eqL_map (fun x hx y _ hf => by
    have := hd x hx
    unfold posB at this
    exact fsame_is (of_decide_eq_true this).1 hf) h3
  have e4 : a.il.L.map id = b.il.L.map id := eqL_map (fun x hx y _ hf => by
    have hp := hi x hx
    unfold initB at hp
    have hp := (of_decide_eq_true hp).1
    unfold initSame at hf
    simp only [Bool.and_eq_true, decide_eq_true_eq] at hf
    obtain ⟨x1, x2, x3⟩ := x
    obtain ⟨y1, y2, y3⟩ := y
    have := fsame_is hp hf.1.1
    simp only [id] at this hf ⊢
    rw [this, hf.1.2, hf.2]) h4
  have e5 : a.pl.L.map (·.L) = b.pl.L.map (·.L) := eqL_map (fun x _ y _ hf => by
    have e : x.L.map id = y.L.map id := eqL_map (fun z _ u _ hz => of_decide_eq_true hz) hf
    simpa using e) h5
  have e6 : a.ll.L.map (fun x => (x.1, x.2.L)) = b.ll.L.map (fun x => (x.1, x.2.L)) := eqL_map (fun x _ y _ hf => by
    unfold lpSame at hf
    rw [Bool.and_eq_true, decide_eq_true_eq] at hf
    have e : x.2.L.map id = y.2.L.map id := eqL_map (fun z _ u _ hz => of_decide_eq_true hz) hf.2
    simp only [List.map_id] at e
    rw [hf.1, e]) h6
  rw [List.map_id, List.map_id] at e3 e4
  unfold modOf
  rw [h1, e2, e3, e4, e5, e6]
theorem apart_eq {a b : Mdl} {w : World} (ha : a.At w) (hb : b.At w) (ca : chkB a = true) (cb : chkB b = true) : ((putS (modOf a)).toList == (putS (modOf b)).toList) = sameB a b := by
  cases hs : sameB a b
  · rw [beq_eq_false_iff_ne]
    intro e
    have e := (toList_eq_iff _ _).1 e
    have h1 := (put_got ha ca).2
    have h2 := (put_got hb cb).2
    rw [e] at h1
    have := sameB_con (con_of_mod (h1.symm.trans h2))
    rw [hs] at this
    cases this
  · rw [mod_of_same ca hs, beq_self_eq_true]
set_option maxHeartbeats 2000000 in
theorem apart_one (a b : Mdl) (w : World) (h : a.At w) (h' : b.At w) (q : L06.lightB a = false) : Calls Try.prog 12 #[a.val, b.val] w fun e w' => e = .returned (.bool true) ∧ Below w.heap.size w w' := by
  obtain ⟨hX, hY, hb⟩ := two_boxes w 28 #[.int .i64 a.seed, .float .f64 a.fin, a.dl.val, a.pl.val, a.ll.val, a.il.val] #[.int .i64 b.seed, .float .f64 b.fin, b.dl.val, b.pl.val, b.ll.val, b.il.val]
  have hT : TwoC w w.heap.size (w.heap.size + 1) a b ((w.alloc (.cells #[.int .i64 a.seed, .float .f64 a.fin, a.dl.val, a.pl.val, a.ll.val, a.il.val] 28)).alloc (.cells #[.int .i64 b.seed, .float .f64 b.fin, b.dl.val, b.pl.val, b.ll.val, b.il.val] 28)) := ⟨hb, hX, hY, Mdl.At.below h hb, Mdl.At.below h' hb⟩
  have HT0 := hide hT
  have hla := L06.light_any a _ hT.a
  rw [q] at hla
  clear h h' hX hY hb hT
  obtain ⟨sa, fa, ⟨adA, adc, adl⟩, ⟨apA, apc, apl⟩, ⟨alA, alc, all⟩, ⟨aiA, aic, ail⟩⟩ := a
  obtain ⟨sb, fb, ⟨bdA, bdc, bdl⟩, ⟨bpA, bpc, bpl⟩, ⟨blA, blc, bll⟩, ⟨biA, bic, bil⟩⟩ := b
  simp only [Sl.val, Mdl.val] at *
  go_enter Try.func12, Try.ntmps12
  go_wp2_with fail
  refine hla.mono ?_
  rintro e w1 ⟨rfl, hb1⟩
  go_wp2_with (go_at_call 23; refine (awake06 _).mono ?_; rintro e wA ⟨rfl, hbA⟩)
  go_ret
  exact ⟨rfl, below_after (below_after HT0.out.bel hb1) hbA⟩
set_option maxHeartbeats 2000000 in
theorem apart_two (a b : Mdl) (w : World) (h : a.At w) (h' : b.At w) (q : L06.lightB a = true) (q' : L06.lightB b = false) : Calls Try.prog 12 #[a.val, b.val] w fun e w' => e = .returned (.bool true) ∧ Below w.heap.size w w' := by
  obtain ⟨hX, hY, hb⟩ := two_boxes w 28 #[.int .i64 a.seed, .float .f64 a.fin, a.dl.val, a.pl.val, a.ll.val, a.il.val] #[.int .i64 b.seed, .float .f64 b.fin, b.dl.val, b.pl.val, b.ll.val, b.il.val]
  have hT : TwoC w w.heap.size (w.heap.size + 1) a b ((w.alloc (.cells #[.int .i64 a.seed, .float .f64 a.fin, a.dl.val, a.pl.val, a.ll.val, a.il.val] 28)).alloc (.cells #[.int .i64 b.seed, .float .f64 b.fin, b.dl.val, b.pl.val, b.ll.val, b.il.val] 28)) := ⟨hb, hX, hY, Mdl.At.below h hb, Mdl.At.below h' hb⟩
  have HT0 := hide hT
  have hla := L06.light_any a _ hT.a
  have hlb := fun W (hW : b.At W) => L06.light_any b W hW
  rw [q] at hla
  simp only [q'] at hlb
  clear h h' hX hY hb hT
  obtain ⟨sa, fa, ⟨adA, adc, adl⟩, ⟨apA, apc, apl⟩, ⟨alA, alc, all⟩, ⟨aiA, aic, ail⟩⟩ := a
  obtain ⟨sb, fb, ⟨bdA, bdc, bdl⟩, ⟨bpA, bpc, bpl⟩, ⟨blA, blc, bll⟩, ⟨biA, bic, bil⟩⟩ := b
  simp only [Sl.val, Mdl.val] at *
  go_enter Try.func12, Try.ntmps12
  go_wp2_with fail
  refine hla.mono ?_
  rintro e w1 ⟨rfl, hb1⟩
  have HT1 := hide (TwoC.out _ _ _ _ _ _ _ HT0.out hb1)
  clear hb1 HT0 hla
  have k0 := HT1.out.x.cell 0
  have j0 := HT1.out.y.cell 0
  have k1 := HT1.out.x.cell 1
  have j1 := HT1.out.y.cell 1
  have k2 := HT1.out.x.cell 2
  have j2 := HT1.out.y.cell 2
  have k3 := HT1.out.x.cell 3
  have j3 := HT1.out.y.cell 3
  have k4 := HT1.out.x.cell 4
  have j4 := HT1.out.y.cell 4
  have k5 := HT1.out.x.cell 5
  have j5 := HT1.out.y.cell 5
  simp only [Sl.val, List.getElem?_toArray, List.getElem?_cons_zero, List.getElem?_cons_succ] at k0 k1 k2 k3 k4 k5 j0 j1 j2 j3 j4 j5
  go_wp2_with fail
  refine (hlb _ HT1.out.a').mono ?_
  rintro e w2 ⟨rfl, hb2⟩
  clear hlb k0 k1 k2 k3 k4 k5 j0 j1 j2 j3 j4 j5
  go_wp2_with (go_at_call 23; refine (awake06 _).mono ?_; rintro e wA ⟨rfl, hbA⟩)
  go_ret
  exact ⟨rfl, below_after (below_after HT1.out.bel hb2) hbA⟩
set_option maxHeartbeats 2000000 in
theorem apart_bad1 (a b : Mdl) (w : World) (h : a.At w) (h' : b.At w) (q : L06.lightB a = true) (q' : L06.lightB b = true) (hc : chkB a = false) : Calls Try.prog 12 #[a.val, b.val] w fun e w' => e = .returned (.bool true) ∧ Below w.heap.size w w' := by
  obtain ⟨hX, hY, hb⟩ := two_boxes w 28 #[.int .i64 a.seed, .float .f64 a.fin, a.dl.val, a.pl.val, a.ll.val, a.il.val] #[.int .i64 b.seed, .float .f64 b.fin, b.dl.val, b.pl.val, b.ll.val, b.il.val]
  have hT : TwoC w w.heap.size (w.heap.size + 1) a b ((w.alloc (.cells #[.int .i64 a.seed, .float .f64 a.fin, a.dl.val, a.pl.val, a.ll.val, a.il.val] 28)).alloc (.cells #[.int .i64 b.seed, .float .f64 b.fin, b.dl.val, b.pl.val, b.ll.val, b.il.val] 28)) := ⟨hb, hX, hY, Mdl.At.below h hb, Mdl.At.below h' hb⟩
  have HT0 := hide hT
  have hla := L06.light_any a _ hT.a
  have hlb := fun W (hW : b.At W) => L06.light_any b W hW
  have hpa := fun W (hW : a.At W) => put_any a W hW
  have hpb := fun W (hW : b.At W) => put_any b W hW
  rw [q] at hla
  simp only [q'] at hlb
  simp only [show chkE a = 15 from chk_no hc] at hpa
  generalize chkE b = E at *
  generalize putR a = X at *
  generalize putR b = Y at *
  clear hc
  clear h h' hX hY hb hT
  obtain ⟨sa, fa, ⟨adA, adc, adl⟩, ⟨apA, apc, apl⟩, ⟨alA, alc, all⟩, ⟨aiA, aic, ail⟩⟩ := a
  obtain ⟨sb, fb, ⟨bdA, bdc, bdl⟩, ⟨bpA, bpc, bpl⟩, ⟨blA, blc, bll⟩, ⟨biA, bic, bil⟩⟩ := b
  simp only [Sl.val, Mdl.val] at *
  go_enter Try.func12, Try.ntmps12
  go_wp2_with fail
  refine hla.mono ?_
  rintro e w1 ⟨rfl, hb1⟩
  have HT1 := hide (TwoC.out _ _ _ _ _ _ _ HT0.out hb1)
  clear hb1 HT0 hla
  have k0 := HT1.out.x.cell 0
  have j0 := HT1.out.y.cell 0
  have k1 := HT1.out.x.cell 1
  have j1 := HT1.out.y.cell 1
  have k2 := HT1.out.x.cell 2
  have j2 := HT1.out.y.cell 2
  have k3 := HT1.out.x.cell 3
  have j3 := HT1.out.y.cell 3
  have k4 := HT1.out.x.cell 4
  have j4 := HT1.out.y.cell 4
  have k5 := HT1.out.x.cell 5
  have j5 := HT1.out.y.cell 5
  simp only [Sl.val, List.getElem?_toArray, List.getElem?_cons_zero, List.getElem?_cons_succ] at k0 k1 k2 k3 k4 k5 j0 j1 j2 j3 j4 j5
  go_wp2_with fail
  refine (hlb _ HT1.out.a').mono ?_
  rintro e w2 ⟨rfl, hb2⟩
  have HT2 := hide (TwoC.out _ _ _ _ _ _ _ HT1.out hb2)
  clear hlb hb2 HT1 k0 k1 k2 k3 k4 k5 j0 j1 j2 j3 j4 j5
  have k0 := HT2.out.x.cell 0
  have j0 := HT2.out.y.cell 0
  have k1 := HT2.out.x.cell 1
  have j1 := HT2.out.y.cell 1
  have k2 := HT2.out.x.cell 2
  have j2 := HT2.out.y.cell 2
  have k3 := HT2.out.x.cell 3
  have j3 := HT2.out.y.cell 3
  have k4 := HT2.out.x.cell 4
  have j4 := HT2.out.y.cell 4
  have k5 := HT2.out.x.cell 5
  have j5 := HT2.out.y.cell 5
  simp only [Sl.val, List.getElem?_toArray, List.getElem?_cons_zero, List.getElem?_cons_succ] at k0 k1 k2 k3 k4 k5 j0 j1 j2 j3 j4 j5
  go_wp2_with fail
  refine (hpa _ HT2.out.a).mono ?_
  rintro e w3 ⟨rfl, hb3⟩
  have HT3 := hide (TwoC.out _ _ _ _ _ _ _ HT2.out hb3)
  clear hpa hb3 HT2 k0 k1 k2 k3 k4 k5 j0 j1 j2 j3 j4 j5
  have k0 := HT3.out.x.cell 0
  have j0 := HT3.out.y.cell 0
  have k1 := HT3.out.x.cell 1
  have j1 := HT3.out.y.cell 1
  have k2 := HT3.out.x.cell 2
  have j2 := HT3.out.y.cell 2
  have k3 := HT3.out.x.cell 3
  have j3 := HT3.out.y.cell 3
  have k4 := HT3.out.x.cell 4
  have j4 := HT3.out.y.cell 4
  have k5 := HT3.out.x.cell 5
  have j5 := HT3.out.y.cell 5
  simp only [Sl.val, List.getElem?_toArray, List.getElem?_cons_zero, List.getElem?_cons_succ] at k0 k1 k2 k3 k4 k5 j0 j1 j2 j3 j4 j5
  go_wp2_with fail
  refine (hpb _ HT3.out.a').mono ?_
  rintro e w4 ⟨rfl, hb4⟩
  have HT4 := hide (TwoC.out _ _ _ _ _ _ _ HT3.out hb4)
  clear hpb hb4 HT3 k0 k1 k2 k3 k4 k5 j0 j1 j2 j3 j4 j5
  have k0 := HT4.out.x.cell 0
  have j0 := HT4.out.y.cell 0
  have k1 := HT4.out.x.cell 1
  have j1 := HT4.out.y.cell 1
  have k2 := HT4.out.x.cell 2
  have j2 := HT4.out.y.cell 2
  have k3 := HT4.out.x.cell 3
  have j3 := HT4.out.y.cell 3
  have k4 := HT4.out.x.cell 4
  have j4 := HT4.out.y.cell 4
  have k5 := HT4.out.x.cell 5
  have j5 := HT4.out.y.cell 5
  simp only [Sl.val, List.getElem?_toArray, List.getElem?_cons_zero, List.getElem?_cons_succ] at k0 k1 k2 k3 k4 k5 j0 j1 j2 j3 j4 j5
  clear k0 k1 k2 k3 k4 k5 j0 j1 j2 j3 j4 j5
  go_wp2_with (go_at_call 23; refine (awake06 _).mono ?_; rintro e wA ⟨rfl, hbA⟩)
  go_ret
  exact ⟨by simp, below_after HT4.out.bel hbA⟩
set_option maxHeartbeats 2000000 in
theorem apart_bad2 (a b : Mdl) (w : World) (h : a.At w) (h' : b.At w) (q : L06.lightB a = true) (q' : L06.lightB b = true) (hc : chkB a = true) (hc' : chkB b = false) : Calls Try.prog 12 #[a.val, b.val] w fun e w' => e = .returned (.bool true) ∧ Below w.heap.size w w' := by
  obtain ⟨hX, hY, hb⟩ := two_boxes w 28 #[.int .i64 a.seed, .float .f64 a.fin, a.dl.val, a.pl.val, a.ll.val, a.il.val] #[.int .i64 b.seed, .float .f64 b.fin, b.dl.val, b.pl.val, b.ll.val, b.il.val]
  have hT : TwoC w w.heap.size (w.heap.size + 1) a b ((w.alloc (.cells #[.int .i64 a.seed, .float .f64 a.fin, a.dl.val, a.pl.val, a.ll.val, a.il.val] 28)).alloc (.cells #[.int .i64 b.seed, .float .f64 b.fin, b.dl.val, b.pl.val, b.ll.val, b.il.val] 28)) := ⟨hb, hX, hY, Mdl.At.below h hb, Mdl.At.below h' hb⟩
  have HT0 := hide hT
  have hla := L06.light_any a _ hT.a
  have hlb := fun W (hW : b.At W) => L06.light_any b W hW
  have hpa := fun W (hW : a.At W) => put_any a W hW
  have hpb := fun W (hW : b.At W) => put_any b W hW
  rw [q] at hla
  simp only [q'] at hlb
  simp only [show chkE a = 0 by unfold chkE; rw [if_pos hc]] at hpa
  simp only [show chkE b = 15 from chk_no hc'] at hpb
  generalize putR a = X at *
  generalize putR b = Y at *
  clear hc hc'
  clear h h' hX hY hb hT
  obtain ⟨sa, fa, ⟨adA, adc, adl⟩, ⟨apA, apc, apl⟩, ⟨alA, alc, all⟩, ⟨aiA, aic, ail⟩⟩ := a
  obtain ⟨sb, fb, ⟨bdA, bdc, bdl⟩, ⟨bpA, bpc, bpl⟩, ⟨blA, blc, bll⟩, ⟨biA, bic, bil⟩⟩ := b
  simp only [Sl.val, Mdl.val] at *
  go_enter Try.func12, Try.ntmps12
  go_wp2_with fail
  refine hla.mono ?_
  rintro e w1 ⟨rfl, hb1⟩
  have HT1 := hide (TwoC.out _ _ _ _ _ _ _ HT0.out hb1)
  clear hb1 HT0 hla
  have k0 := HT1.out.x.cell 0
  have j0 := HT1.out.y.cell 0
  have k1 := HT1.out.x.cell 1
  have j1 := HT1.out.y.cell 1
  have k2 := HT1.out.x.cell 2
  have j2 := HT1.out.y.cell 2
  have k3 := HT1.out.x.cell 3
  have j3 := HT1.out.y.cell 3
  have k4 := HT1.out.x.cell 4
  have j4 := HT1.out.y.cell 4
  have k5 := HT1.out.x.cell 5
  have j5 := HT1.out.y.cell 5
  simp only [Sl.val, List.getElem?_toArray, List.getElem?_cons_zero, List.getElem?_cons_succ] at k0 k1 k2 k3 k4 k5 j0 j1 j2 j3 j4 j5
  go_wp2_with fail
  refine (hlb _ HT1.out.a').mono ?_
  rintro e w2 ⟨rfl, hb2⟩
  have HT2 := hide (TwoC.out _ _ _ _ _ _ _ HT1.out hb2)
  clear hlb hb2 HT1 k0 k1 k2 k3 k4 k5 j0 j1 j2 j3 j4 j5
  have k0 := HT2.out.x.cell 0
  have j0 := HT2.out.y.cell 0
  have k1 := HT2.out.x.cell 1
  have j1 := HT2.out.y.cell 1
  have k2 := HT2.out.x.cell 2
  have j2 := HT2.out.y.cell 2
  have k3 := HT2.out.x.cell 3
  have j3 := HT2.out.y.cell 3
  have k4 := HT2.out.x.cell 4
  have j4 := HT2.out.y.cell 4
  have k5 := HT2.out.x.cell 5
  have j5 := HT2.out.y.cell 5
  simp only [Sl.val, List.getElem?_toArray, List.getElem?_cons_zero, List.getElem?_cons_succ] at k0 k1 k2 k3 k4 k5 j0 j1 j2 j3 j4 j5
  go_wp2_with fail
  refine (hpa _ HT2.out.a).mono ?_
  rintro e w3 ⟨rfl, hb3⟩
  have HT3 := hide (TwoC.out _ _ _ _ _ _ _ HT2.out hb3)
  clear hpa hb3 HT2 k0 k1 k2 k3 k4 k5 j0 j1 j2 j3 j4 j5
  have k0 := HT3.out.x.cell 0
  have j0 := HT3.out.y.cell 0
  have k1 := HT3.out.x.cell 1
  have j1 := HT3.out.y.cell 1
  have k2 := HT3.out.x.cell 2
  have j2 := HT3.out.y.cell 2
  have k3 := HT3.out.x.cell 3
  have j3 := HT3.out.y.cell 3
  have k4 := HT3.out.x.cell 4
  have j4 := HT3.out.y.cell 4
  have k5 := HT3.out.x.cell 5
  have j5 := HT3.out.y.cell 5
  simp only [Sl.val, List.getElem?_toArray, List.getElem?_cons_zero, List.getElem?_cons_succ] at k0 k1 k2 k3 k4 k5 j0 j1 j2 j3 j4 j5
  go_wp2_with fail
  refine (hpb _ HT3.out.a').mono ?_
  rintro e w4 ⟨rfl, hb4⟩
  have HT4 := hide (TwoC.out _ _ _ _ _ _ _ HT3.out hb4)
  clear hpb hb4 HT3 k0 k1 k2 k3 k4 k5 j0 j1 j2 j3 j4 j5
  have k0 := HT4.out.x.cell 0
  have j0 := HT4.out.y.cell 0
  have k1 := HT4.out.x.cell 1
  have j1 := HT4.out.y.cell 1
  have k2 := HT4.out.x.cell 2
  have j2 := HT4.out.y.cell 2
  have k3 := HT4.out.x.cell 3
  have j3 := HT4.out.y.cell 3
  have k4 := HT4.out.x.cell 4
  have j4 := HT4.out.y.cell 4
  have k5 := HT4.out.x.cell 5
  have j5 := HT4.out.y.cell 5
  simp only [Sl.val, List.getElem?_toArray, List.getElem?_cons_zero, List.getElem?_cons_succ] at k0 k1 k2 k3 k4 k5 j0 j1 j2 j3 j4 j5
  clear k0 k1 k2 k3 k4 k5 j0 j1 j2 j3 j4 j5
  go_wp2_with (go_at_call 23; refine (awake06 _).mono ?_; rintro e wA ⟨rfl, hbA⟩)
  go_ret
  exact ⟨by simp, below_after HT4.out.bel hbA⟩
set_option maxHeartbeats 2000000 in
theorem apart_good (a b : Mdl) (w : World) (h : a.At w) (h' : b.At w) (q : L06.lightB a = true) (q' : L06.lightB b = true) (hc : chkB a = true) (hc' : chkB b = true) : Calls Try.prog 12 #[a.val, b.val] w fun e w' => e = .returned (.bool true) ∧ Below w.heap.size w w' := by
  obtain ⟨hX, hY, hb⟩ := two_boxes w 28 #[.int .i64 a.seed, .float .f64 a.fin, a.dl.val, a.pl.val, a.ll.val, a.il.val] #[.int .i64 b.seed, .float .f64 b.fin, b.dl.val, b.pl.val, b.ll.val, b.il.val]
  have hT : TwoC w w.heap.size (w.heap.size + 1) a b ((w.alloc (.cells #[.int .i64 a.seed, .float .f64 a.fin, a.dl.val, a.pl.val, a.ll.val, a.il.val] 28)).alloc (.cells #[.int .i64 b.seed, .float .f64 b.fin, b.dl.val, b.pl.val, b.ll.val, b.il.val] 28)) := ⟨hb, hX, hY, Mdl.At.below h hb, Mdl.At.below h' hb⟩
  have HT0 := hide hT
  have hla := L06.light_any a _ hT.a
  have hlb := fun W (hW : b.At W) => L06.light_any b W hW
  have hpa := fun W (hW : a.At W) => put_any a W hW
  have hpb := fun W (hW : b.At W) => put_any b W hW
  rw [q] at hla
  simp only [q'] at hlb
  simp only [show chkE a = 0 by unfold chkE; rw [if_pos hc], show putR a = putS (modOf a) by unfold putR; rw [if_pos hc]] at hpa
  simp only [show chkE b = 0 by unfold chkE; rw [if_pos hc'], show putR b = putS (modOf b) by unfold putR; rw [if_pos hc']] at hpb
  have hxy : (((putS (modOf a)).toList == (putS (modOf b)).toList) == sameB a b) = true := by rw [apart_eq h h' hc hc', beq_self_eq_true]
  have hsm := fun W (hW : a.At W) (hW' : b.At W) => rsame_any a b W hW hW'
  generalize sameB a b = S at *
  generalize putS (modOf a) = X at *
  generalize putS (modOf b) = Y at *
  clear hc hc'
  clear h h' hX hY hb hT
  obtain ⟨sa, fa, ⟨adA, adc, adl⟩, ⟨apA, apc, apl⟩, ⟨alA, alc, all⟩, ⟨aiA, aic, ail⟩⟩ := a
  obtain ⟨sb, fb, ⟨bdA, bdc, bdl⟩, ⟨bpA, bpc, bpl⟩, ⟨blA, blc, bll⟩, ⟨biA, bic, bil⟩⟩ := b
  simp only [Sl.val, Mdl.val] at *
  go_enter Try.func12, Try.ntmps12
  go_wp2_with fail
  refine hla.mono ?_
  rintro e w1 ⟨rfl, hb1⟩
  have HT1 := hide (TwoC.out _ _ _ _ _ _ _ HT0.out hb1)
  clear hb1 HT0 hla
  have k0 := HT1.out.x.cell 0
  have j0 := HT1.out.y.cell 0
  have k1 := HT1.out.x.cell 1
  have j1 := HT1.out.y.cell 1
  have k2 := HT1.out.x.cell 2
  have j2 := HT1.out.y.cell 2
  have k3 := HT1.out.x.cell 3
  have j3 := HT1.out.y.cell 3
  have k4 := HT1.out.x.cell 4
  have j4 := HT1.out.y.cell 4
  have k5 := HT1.out.x.cell 5
  have j5 := HT1.out.y.cell 5
  simp only [Sl.val, List.getElem?_toArray, List.getElem?_cons_zero, List.getElem?_cons_succ] at k0 k1 k2 k3 k4 k5 j0 j1 j2 j3 j4 j5
  go_wp2_with fail
  refine (hlb _ HT1.out.a').mono ?_
  rintro e w2 ⟨rfl, hb2⟩
  have HT2 := hide (TwoC.out _ _ _ _ _ _ _ HT1.out hb2)
  clear hlb hb2 HT1 k0 k1 k2 k3 k4 k5 j0 j1 j2 j3 j4 j5
  have k0 := HT2.out.x.cell 0
  have j0 := HT2.out.y.cell 0
  have k1 := HT2.out.x.cell 1
  have j1 := HT2.out.y.cell 1
  have k2 := HT2.out.x.cell 2
  have j2 := HT2.out.y.cell 2
  have k3 := HT2.out.x.cell 3
  have j3 := HT2.out.y.cell 3
  have k4 := HT2.out.x.cell 4
  have j4 := HT2.out.y.cell 4
  have k5 := HT2.out.x.cell 5
  have j5 := HT2.out.y.cell 5
  simp only [Sl.val, List.getElem?_toArray, List.getElem?_cons_zero, List.getElem?_cons_succ] at k0 k1 k2 k3 k4 k5 j0 j1 j2 j3 j4 j5
  go_wp2_with fail
  refine (hpa _ HT2.out.a).mono ?_
  rintro e w3 ⟨rfl, hb3⟩
  have HT3 := hide (TwoC.out _ _ _ _ _ _ _ HT2.out hb3)
  clear hpa hb3 HT2 k0 k1 k2 k3 k4 k5 j0 j1 j2 j3 j4 j5
  have k0 := HT3.out.x.cell 0
  have j0 := HT3.out.y.cell 0
  have k1 := HT3.out.x.cell 1
  have j1 := HT3.out.y.cell 1
  have k2 := HT3.out.x.cell 2
  have j2 := HT3.out.y.cell 2
  have k3 := HT3.out.x.cell 3
  have j3 := HT3.out.y.cell 3
  have k4 := HT3.out.x.cell 4
  have j4 := HT3.out.y.cell 4
  have k5 := HT3.out.x.cell 5
  have j5 := HT3.out.y.cell 5
  simp only [Sl.val, List.getElem?_toArray, List.getElem?_cons_zero, List.getElem?_cons_succ] at k0 k1 k2 k3 k4 k5 j0 j1 j2 j3 j4 j5
  go_wp2_with fail
  refine (hpb _ HT3.out.a').mono ?_
  rintro e w4 ⟨rfl, hb4⟩
  have HT4 := hide (TwoC.out _ _ _ _ _ _ _ HT3.out hb4)
  clear hpb hb4 HT3 k0 k1 k2 k3 k4 k5 j0 j1 j2 j3 j4 j5
  have k0 := HT4.out.x.cell 0
  have j0 := HT4.out.y.cell 0
  have k1 := HT4.out.x.cell 1
  have j1 := HT4.out.y.cell 1
  have k2 := HT4.out.x.cell 2
  have j2 := HT4.out.y.cell 2
  have k3 := HT4.out.x.cell 3
  have j3 := HT4.out.y.cell 3
  have k4 := HT4.out.x.cell 4
  have j4 := HT4.out.y.cell 4
  have k5 := HT4.out.x.cell 5
  have j5 := HT4.out.y.cell 5
  simp only [Sl.val, List.getElem?_toArray, List.getElem?_cons_zero, List.getElem?_cons_succ] at k0 k1 k2 k3 k4 k5 j0 j1 j2 j3 j4 j5
  go_wp2_with fail
  refine (awake06 _).mono ?_
  rintro e w5 ⟨rfl, hb5⟩
  have HT5 := hide (TwoC.out _ _ _ _ _ _ _ HT4.out hb5)
  clear hb5 HT4 k0 k1 k2 k3 k4 k5 j0 j1 j2 j3 j4 j5
  have k0 := HT5.out.x.cell 0
  have j0 := HT5.out.y.cell 0
  have k1 := HT5.out.x.cell 1
  have j1 := HT5.out.y.cell 1
  have k2 := HT5.out.x.cell 2
  have j2 := HT5.out.y.cell 2
  have k3 := HT5.out.x.cell 3
  have j3 := HT5.out.y.cell 3
  have k4 := HT5.out.x.cell 4
  have j4 := HT5.out.y.cell 4
  have k5 := HT5.out.x.cell 5
  have j5 := HT5.out.y.cell 5
  simp only [Sl.val, List.getElem?_toArray, List.getElem?_cons_zero, List.getElem?_cons_succ] at k0 k1 k2 k3 k4 k5 j0 j1 j2 j3 j4 j5
  go_wp2_with fail
  refine (hsm _ HT5.out.a HT5.out.a').mono ?_
  rintro e w6 ⟨rfl, hb6⟩
  clear hsm k0 k1 k2 k3 k4 k5 j0 j1 j2 j3 j4 j5
  go_wp2_with fail
  go_ret
  exact ⟨by simp [hxy], below_after HT5.out.bel hb6⟩
theorem apart_walk (a b : Mdl) (w : World) (h : a.At w) (h' : b.At w) : Calls Try.prog 12 #[a.val, b.val] w fun e w' => e = .returned (.bool true) ∧ Below w.heap.size w w' := by
  cases q : L06.lightB a
  · exact apart_one a b w h h' q
  · cases q' : L06.lightB b
    · exact apart_two a b w h h' q q'
    · cases hc : chkB a
      · exact apart_bad1 a b w h h' q q' hc
      · cases hc' : chkB b
        · exact apart_bad2 a b w h h' q q' hc hc'
        · exact apart_good a b w h h' q q' hc hc'
end Go.Proofs.Ytegegljpmelomaa
