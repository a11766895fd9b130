/- The walk of modelio.Put: every model's bytes, or that it is none. No condition. -/
import Derived.Test.YtegegljpmelomaaMioL
import Derived.Test.YtegegljpmelomaaRChk
import Derived.Laws.EntriesVeiled
set_option linter.unusedVariables false
set_option linter.unusedSimpArgs false
set_option maxRecDepth 20000
namespace Go.Proofs.Ytegegljpmelomaa
open Go.RowKit Go.Deep
attribute [local go_sem] run_store_float

theorem flat_len {α : Type} (f : α → List Nat) (c : Nat) : ∀ (L : List α), (∀ x ∈ L, (f x).length ≤ c) → (L.flatMap f).length ≤ L.length * c
  | [], _ => by simp
  | x :: L, h => by
    have h1 := h x (by simp)
    have h2 := flat_len f c L fun y hy => h y (by simp [hy])
    rw [List.flatMap_cons, List.length_append, List.length_cons, Nat.succ_mul]
    omega
theorem layL_len {α : Type} (f : α → List Nat) (c n : Nat) (L : List α) (hn : L.length ≤ n) (h : ∀ x ∈ L, (f x).length ≤ c) : (wsB (Mio.layL f L)).length ≤ 8 * (1 + n * c) := by
  have := flat_len f c L h
  have h2 : L.length * c ≤ n * c := Nat.mul_le_mul_right c hn
  rw [wsB_len, Mio.layL, List.length_cons]
  omega
/-- A model that may be is of no great size. -/
structure Fits (m : Mdl) : Prop where
  dl : m.dl.L.length ≤ 8
  pl : m.pl.L.length ≤ 4
  ps : ∀ p ∈ m.pl.L, p.L.length ≤ 48
  ll : m.ll.L.length ≤ 6
  ls : ∀ x ∈ m.ll.L, x.2.L.length ≤ 8
  il : m.il.L.length ≤ 16
theorem chk_fits {m : Mdl} (h : chkB m = true) : Fits m := by
  rw [chkB_eq] at h
  simp only [Bool.and_eq_true, List.all_eq_true] at h
  obtain ⟨⟨⟨⟨⟨hc, _⟩, _⟩, hp⟩, hl⟩, _⟩ := h
  unfold countsB at hc
  have hc' := of_decide_eq_true hc
  obtain ⟨_, h2, _, h4, _, h6, h7⟩ := hc'
  refine ⟨h6, h4, fun p hx => ?_, h2, fun x hx => ?_, h7⟩
  · have := hp p hx
    unfold progB at this
    rw [Bool.and_eq_true] at this
    exact (of_decide_eq_true this.2).2
  · have := hl x hx
    unfold lpB at this
    exact (of_decide_eq_true this).2.2
structure Sizes (m : Mdl) : Prop where
  dl : (wsB (Mio.layL Mio.layF m.dl.L)).length ≤ 72
  pl : (wsB (Mio.layL layPr m.pl.L)).length ≤ 6184
  ll : (wsB (Mio.layL layLp2 m.ll.L)).length ≤ 488
  il : (wsB (Mio.layL Mio.layIni m.il.L)).length ≤ 392
theorem Fits.sizes {m : Mdl} (h : Fits m) : Sizes m := by
  refine ⟨layL_len _ 1 8 _ h.dl (fun _ _ => Nat.le_refl _), layL_len _ 193 4 _ h.pl (fun p hp => ?_), layL_len _ 10 6 _ h.ll (fun x hx => ?_), layL_len _ 3 16 _ h.il (fun _ _ => Nat.le_refl _)⟩
  · have h1 := flat_len Mio.layIns 4 p.L fun _ _ => Nat.le_refl _
    have h2 := h.ps p hp
    unfold layPr Mio.layL
    rw [List.length_cons]
    omega
  · have h1 := flat_len Mio.layI 1 x.2.L fun _ _ => Nat.le_refl _
    have h2 := h.ls x hx
    unfold layLp2 Mio.layLP Mio.layL
    rw [List.length_cons, List.length_cons]
    simp only
    omega
theorem flat_map {α β : Type} (f : β → List Nat) (g : α → β) : ∀ L : List α, (L.map g).flatMap f = L.flatMap fun x => f (g x)
  | [] => rfl
  | x :: L => by rw [List.map_cons, List.flatMap_cons, List.flatMap_cons, flat_map f g L]
theorem put_bytes (m : Mdl) : bs (((((([] ++ wsB ([m.seed].map Mio.ofI)) ++ wsB (Mio.layF m.fin)) ++ wsB (Mio.layL Mio.layF m.dl.L)) ++ wsB (Mio.layL layPr m.pl.L)) ++ wsB (Mio.layL layLp2 m.ll.L)) ++ wsB (Mio.layL Mio.layIni m.il.L)) = putS (modOf m) := by
  unfold putS strW
  have e1 : Mio.layL (Mio.layL Mio.layIns) (m.pl.L.map (·.L)) = Mio.layL layPr m.pl.L := by
    unfold Mio.layL
    rw [List.length_map, flat_map]
    rfl
  have e2 : Mio.layL Mio.layLP (m.ll.L.map fun x => (x.1, x.2.L)) = Mio.layL layLp2 m.ll.L := by
    unfold Mio.layL
    rw [List.length_map, flat_map]
    rfl
  congr 1
  simp only [← wsB_app, List.nil_append]
  congr 1
  unfold Mio.layM modOf
  simp only [e1, e2, List.append_assoc]
  rfl
def putR (m : Mdl) : ByteArray := if chkB m then putS (modOf m) else ⟨#[]⟩
theorem put_bad (m : Mdl) (w : World) (h : m.At w) (hc : chkB m = false) : Calls Try.prog 24 #[m.val] w fun e w' => e = .returned (.tuple #[.string ⟨#[]⟩, .int .i64 15]) ∧ Below w.heap.size w w' := by
  have hb0 : Below w.heap.size w (w.alloc (.cells #[.int .i64 m.seed, .float .f64 m.fin, m.dl.val, m.pl.val, m.ll.val, m.il.val] 28)) := (Below.refl _ _).alloc (Nat.le_refl _) _
  have hk := check_any m _ (h.below hb0)
  rw [chk_no hc] at hk
  clear h hc
  obtain ⟨seed, fin, ⟨dA, dc, dl⟩, ⟨pA, pc, pl⟩, ⟨lA, lc, ll⟩, ⟨iA, ic, il⟩⟩ := m
  simp only [Sl.val, Mdl.val] at *
  have HB := hide hb0
  clear hb0
  go_enter Try.func24, Try.ntmps24
  go_wp2_with fail
  refine hk.mono ?_
  rintro e w1 ⟨rfl, hb1⟩
  go_wp2_with fail
  go_ret2
  exact ⟨rfl, below_after HB.out hb1⟩
theorem I64_seed {m : Mdl} {w : World} (h : m.At w) : I64 m.seed := h.1
set_option maxHeartbeats 1000000 in
theorem put_good (m : Mdl) (w : World) (h : m.At w) (hc : chkB m = true) : Calls Try.prog 24 #[m.val] w fun e w' => e = .returned (.tuple #[.string (putS (modOf m)), .int .i64 0]) ∧ Below w.heap.size w w' := by
  have hb0 : Below w.heap.size w (w.alloc (.cells #[.int .i64 m.seed, .float .f64 m.fin, m.dl.val, m.pl.val, m.ll.val, m.il.val] 28)) := (Below.refl _ _).alloc (Nat.le_refl _) _
  have hX := Blk.new w 28 #[.int .i64 m.seed, .float .f64 m.fin, m.dl.val, m.pl.val, m.ll.val, m.il.val]
  have hk := check_any m _ (h.below hb0)
  rw [show chkE m = 0 by unfold chkE; rw [if_pos hc]] at hk
  have HZ := hide (chk_fits hc).sizes
  have HBY := hide (put_bytes m)
  have HM := hide (h.below hb0)
  have b1 := h.1
  have b2 := h.2.1
  obtain ⟨seed, fin, ⟨dA, dc, dl⟩, ⟨pA, pc, pl⟩, ⟨lA, lc, ll⟩, ⟨iA, ic, il⟩⟩ := m
  clear h hc
  simp only [Sl.val, Mdl.val] at *
  generalize putS (modOf ⟨seed, fin, ⟨dA, dc, dl⟩, ⟨pA, pc, pl⟩, ⟨lA, lc, ll⟩, ⟨iA, ic, il⟩⟩) = R at *
  have HB := hide hb0
  have HX := hide hX
  clear hb0 hX
  go_enter Try.func24, Try.ntmps24
  go_wp2_with fail
  refine hk.mono ?_
  rintro e w1 ⟨rfl, hb1⟩
  have HM1 := hide (HM.out.below hb1)
  have HB1 := hide (below_after HB.out hb1)
  have HX1 := hide (HX.out.below hb1 HX.out.lt)
  clear hk hb1 HM HB HX
  go_wp2_with fail
  have hbW : Below w1.heap.size w1 ((w1.alloc (.cells #[.func (.func 46) #[] #[]] 67)).alloc (.cells #[.func (.func 48) #[] #[]] 68)) := ((Below.refl _ _).alloc (Nat.le_refl _) _).alloc (by simp) _
  have hX := HX1.out.below hbW HX1.out.lt
  have hM := HM1.out.below hbW
  have hbT := below_after HB1.out hbW
  have hgI : ((w1.alloc (.cells #[.func (.func 46) #[] #[]] 67)).alloc (.cells #[.func (.func 48) #[] #[]] 68)).cell? ⟨w1.heap.size, 0, none⟩ = some (.func (.func 46) #[] #[]) := ((Blk.new w1 67 #[.func (.func 46) #[] #[]]).alloc _).cell 0
  have hgW : ((w1.alloc (.cells #[.func (.func 46) #[] #[]] 67)).alloc (.cells #[.func (.func 48) #[] #[]] 68)).cell? ⟨w1.heap.size + 1, 0, none⟩ = some (.func (.func 48) #[] #[]) := by
    simp
  clear hbW HM1 HB1 HX1
  generalize (w1.alloc (.cells #[.func (.func 46) #[] #[]] 67)).alloc (.cells #[.func (.func 48) #[] #[]] 68) = W at *
  generalize w1.heap.size + 1 = gw at *
  generalize w1.heap.size = gi at *
  have HX := hide hX
  have HT := hide hbT
  have HM := hide hM
  have HI := hide hgI
  have HW := hide hgW
  have HC := hide (show ∀ X, Below W.heap.size W X → (X.cell? ⟨w.heap.size, 0, none⟩ = some (.int .i64 seed) ∧ X.cell? ⟨w.heap.size, 1, none⟩ = some (.float .f64 fin)) from fun X hb => ⟨(HX.out.below hb HX.out.lt).cell 0, (HX.out.below hb HX.out.lt).cell 1⟩)
  have hp0 := PutTo.start W (Below.refl W.heap.size W).drew
  clear hX hM hbT hgI hgW w1
  refine wp_region_tree (fun X => X.cell? ⟨w.heap.size, 0, none⟩ = some (.int .i64 seed) ∧ X.cell? ⟨w.heap.size, 1, none⟩ = some (.float .f64 fin)) [0, 1, 4, 5] 6 4 (by kernel_rfl) (by kernel_rfl) (HC.out _ (Below.refl _ _).drew) ?_
  simp only [List.filterMap_cons, List.filterMap_nil, List.getElem?_cons_succ, List.getElem?_cons_zero]
  repeat (refine head_step ?_ (by rfl) ?_ (fun _ _ _ h => h) ?_; rotate_left; (intro w' hs; obtain ⟨z0, z1⟩ := hs; go_simp; (try with_reducible rfl)); (try simp only [Act.put, List.setIfInBounds_toArray, List.set_cons_zero, List.set_cons_succ]))
  refine head_nil ?_
  refine tree_one 2 (by kernel_rfl) rfl ?_
  refine midc_step _ (W.drew.alloc (.cells #[.int .i64 seed] 3)) (by rfl) (by go_simp; try (first | rfl | exact ⟨rfl, rfl⟩)) (HC.out _ ((Below.refl _ _).drew.alloc (Nat.le_refl _) _)) ?_
  simp only [Act.put, List.setIfInBounds_toArray, List.set_cons_zero, List.set_cons_succ]
  refine midc_nil ?_
  refine tree_one 3 (by kernel_rfl) rfl ?_
  refine midc_call (g := 47) (args := #[.slice none 0 0, .slice (some ⟨W.heap.size, 0, none⟩) 1 1]) (w' := W.drew.alloc (.cells #[.int .i64 seed] 3)) (by rfl) (by go_simp) ((ints_new W (.slice none 0 0) [] 3 [seed] W.drew W.heap.size (by simp) hp0 (by simpa using b1) 1 rfl #[.int .i64 seed] rfl (by decide)).mono ?_)
  rintro e wA ⟨vA, rfl, hpA, hxA⟩
  refine ⟨_, rfl, HC.out _ hpA.bel, ?_⟩
  simp only [Act.put, List.setIfInBounds_toArray, List.set_cons_zero, List.set_cons_succ]
  refine midc_nil ?_
  refine tree_list _ 6 (by decide) rfl (by kernel_rfl) rfl ?_
  have hL1 : ([] ++ wsB ([seed].map Mio.ofI)).length ≤ 8 := by rw [List.nil_append, wsB_len]; exact Nat.le_refl _
  generalize [] ++ wsB ([seed].map Mio.ofI) = L1 at *
  have hc := float_put W vA L1 fin wA hpA b2 (by omega)
  clear hp0 hpA hxA HC
  go_wp2_with fail
  refine hc.mono ?_
  rintro e wB ⟨vB, rfl, hpB, _⟩
  have hL2 : (L1 ++ wsB (Mio.layF fin)).length ≤ 16 := by rw [List.length_append, wsB_len]; simp only [Mio.layF, List.length_singleton]; omega
  generalize L1 ++ wsB (Mio.layF fin) = L2 at *
  have hc := list_fl W vB L2 ⟨dA, dc, dl⟩ wB hpB HM.out.2.2.1 (by have := HZ.out.dl; simp only at this ⊢; omega)
  simp only [Sl.val] at hc
  have x2 := (HX.out.below hpB.bel HX.out.lt).cell 2
  simp only [List.getElem?_toArray, List.getElem?_cons_zero, List.getElem?_cons_succ] at x2
  clear hL1 hpB
  go_wp2_with fail
  refine hc.mono ?_
  rintro e wC ⟨vC, rfl, hpC, _⟩
  clear x2
  have hL3 : (L2 ++ wsB (Mio.layL Mio.layF dl)).length ≤ 88 := by rw [List.length_append]; have := HZ.out.dl; simp only at this; omega
  generalize L2 ++ wsB (Mio.layL Mio.layF dl) = L3 at *
  have hc := list_prog W vC L3 ⟨pA, pc, pl⟩ wC hpC HM.out.2.2.2.1 (by have := HZ.out.pl; simp only at this ⊢; omega) gi HI.out
  simp only [Sl.val] at hc
  have x3 := (HX.out.below hpC.bel HX.out.lt).cell 3
  simp only [List.getElem?_toArray, List.getElem?_cons_zero, List.getElem?_cons_succ] at x3
  clear hL2 hpC
  go_wp2_with fail
  refine hc.mono ?_
  rintro e wD ⟨vD, rfl, hpD, _⟩
  clear x3
  have hL4 : (L3 ++ wsB (Mio.layL layPr pl)).length ≤ 6272 := by rw [List.length_append]; have := HZ.out.pl; simp only at this; omega
  generalize L3 ++ wsB (Mio.layL layPr pl) = L4 at *
  have hc := list_lp W vD L4 ⟨lA, lc, ll⟩ wD hpD HM.out.2.2.2.2.1 (by have := HZ.out.ll; simp only at this ⊢; omega) gw HW.out
  simp only [Sl.val] at hc
  have x4 := (HX.out.below hpD.bel HX.out.lt).cell 4
  simp only [List.getElem?_toArray, List.getElem?_cons_zero, List.getElem?_cons_succ] at x4
  clear hL3 hpD
  go_wp2_with fail
  refine hc.mono ?_
  rintro e wE ⟨vE, rfl, hpE, _⟩
  clear x4
  have hL5 : (L4 ++ wsB (Mio.layL layLp2 ll)).length ≤ 6760 := by rw [List.length_append]; have := HZ.out.ll; simp only at this; omega
  generalize L4 ++ wsB (Mio.layL layLp2 ll) = L5 at *
  have hc := list_init W vE L5 ⟨iA, ic, il⟩ wE hpE HM.out.2.2.2.2.2 (by have := HZ.out.il; simp only at this ⊢; omega)
  simp only [Sl.val] at hc
  have x5 := (HX.out.below hpE.bel HX.out.lt).cell 5
  simp only [List.getElem?_toArray, List.getElem?_cons_zero, List.getElem?_cons_succ] at x5
  clear hL4 hpE
  go_wp2_with fail
  refine hc.mono ?_
  rintro e wF ⟨vF, rfl, hpF, _⟩
  clear x5
  have hs := own_string hpF.own
  rw [show bs (L5 ++ wsB (Mio.layL Mio.layIni il)) = R from HBY.out] at hs
  have HE := hide (HT.out.trans (hpF.bel.mono HT.out.size))
  clear hpF hL5 HM HI HW HX HT HZ HBY
  go_wp2_with fail
  go_ret2
  exact ⟨rfl, HE.out⟩
theorem put_any (m : Mdl) (w : World) (h : m.At w) : Calls Try.prog 24 #[m.val] w fun e w' => e = .returned (.tuple #[.string (putR m), .int .i64 (chkE m)]) ∧ Below w.heap.size w w' := by
  unfold putR chkE
  by_cases hc : chkB m = true
  · rw [if_pos hc, if_pos hc]
    exact put_good m w h hc
  · rw [if_neg hc, if_neg hc]
    exact put_bad m w h (by simpa using hc)
end Go.Proofs.Ytegegljpmelomaa
