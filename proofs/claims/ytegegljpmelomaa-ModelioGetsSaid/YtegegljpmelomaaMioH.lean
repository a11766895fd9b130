/- The walk of modelio.Get: what any bytes are. No condition but that the bytes are a string of the machine. Printed by wip/tools/miog.py. -/
import Derived.Test.YtegegljpmelomaaMioG
set_option linter.unusedVariables false
set_option linter.unusedSimpArgs false
set_option maxRecDepth 20000
namespace Go.Proofs.Ytegegljpmelomaa
open Go.RowKit Go.Deep
attribute [local go_sem] run_store_float

/-- Behind the seed and the end. -/
def GetC (w W : World) (g : Nat) (s : ByteArray) (v : Value) (wx : World) : Prop :=
  ∃ (gm : Nat) (n : Int) (f : Nat), v = .pointer (some ⟨gm, 0, none⟩) ∧ W.heap.size ≤ gm ∧ gm < wx.heap.size ∧ I64 n ∧ f < 18446744073709551616 ∧ Blk wx gm 28 #[.int .i64 n, .float .f64 f, .slice none 0 0, .slice none 0 0, .slice none 0 0, .slice none 0 0] ∧ W.grownBy wx (some g) ∧ RdAt wx g s (sF (sI (.ok (wordsOf s)))) ∧
    (∀ y r, goR (.ok (wordsOf s)) Mio.pI = .ok (y, r) → n = y) ∧ ∀ y r, goR (sI (.ok (wordsOf s))) Mio.pF = .ok (y, r) → f = y
theorem getC_of {w W : World} {g : Nat} {s : ByteArray} {wx wy : World} {gm : Nat} {n : Int} {f : Nat} (h : (I64 n ∧ f < 18446744073709551616) ∧ (∀ y r, goR (.ok (wordsOf s)) Mio.pI = .ok (y, r) → n = y) ∧ ∀ y r, goR (sI (.ok (wordsOf s))) Mio.pF = .ok (y, r) → f = y)
    (hge : W.heap.size ≤ gm) (hgl : g < W.heap.size) (hX : Blk wx gm 28 #[.int .i64 0, .float .f64 0, .slice none 0 0, .slice none 0 0, .slice none 0 0, .slice none 0 0]) (hg : W.grownBy wx (some g)) (hr : RdAt wx g s (sF (sI (.ok (wordsOf s)))))
    (hy : wy = (((((wx.setCell ⟨gm, 0, none⟩ (.int .i64 n)).setCell ⟨gm, 1, none⟩ (.float .f64 f)).setCell ⟨gm, 2, none⟩ (.slice none 0 0)).setCell ⟨gm, 3, none⟩ (.slice none 0 0)).setCell ⟨gm, 4, none⟩ (.slice none 0 0)).setCell ⟨gm, 5, none⟩ (.slice none 0 0)) : GetC w W g s (.pointer (some ⟨gm, 0, none⟩)) wy := by
  subst hy
  have hne : g ≠ gm := by omega
  have hX2 := (((((hX.set_ 0 (.int .i64 n)).set_ 1 (.float .f64 f)).set_ 2 (.slice none 0 0)).set_ 3 (.slice none 0 0)).set_ 4 (.slice none 0 0)).set_ 5 (.slice none 0 0)
  refine ⟨gm, n, f, rfl, hge, by simpa [World.setCell] using hX.lt, h.1.1, h.1.2, by simpa using hX2, ?_, ?_, h.2.1, h.2.2⟩
  · exact only_setCell (only_setCell (only_setCell (only_setCell (only_setCell (only_setCell hg (.inr hge) _) (.inr hge) _) (.inr hge) _) (.inr hge) _) (.inr hge) _) (.inr hge) _
  · exact hr.kept ((Below.heap_setCell _ _ _ _ hne).trans ((Below.heap_setCell _ _ _ _ hne).trans ((Below.heap_setCell _ _ _ _ hne).trans ((Below.heap_setCell _ _ _ _ hne).trans ((Below.heap_setCell _ _ _ _ hne).trans (Below.heap_setCell _ _ _ _ hne))))))
theorem getC_new {w W : World} {g : Nat} {s : ByteArray} {wx : World} {n : Int} {f : Nat} (h : (I64 n ∧ f < 18446744073709551616) ∧ (∀ y r, goR (.ok (wordsOf s)) Mio.pI = .ok (y, r) → n = y) ∧ ∀ y r, goR (sI (.ok (wordsOf s))) Mio.pF = .ok (y, r) → f = y)
    (hge : W.heap.size ≤ wx.heap.size) (hg : W.grownBy wx (some g)) (hr : RdAt wx g s (sF (sI (.ok (wordsOf s))))) : GetC w W g s (.pointer (some ⟨wx.heap.size, 0, none⟩)) (wx.alloc (.cells #[.int .i64 n, .float .f64 f, .slice none 0 0, .slice none 0 0, .slice none 0 0, .slice none 0 0] 28)) :=
  ⟨wx.heap.size, n, f, rfl, hge, by simp, h.1.1, h.1.2, Blk.new wx _ _, grown_below hg ((Below.refl _ _).alloc (Nat.le_refl _) _), hr.below ((Below.refl _ _).alloc (Nat.le_refl _) _), h.2.1, h.2.2⟩
theorem six_far (w : World) (b : Nat) (v0 v1 v2 v3 v4 v5 : Value) {k i : Nat} (hne : k ≠ b) : ((((((w.setCell ⟨b, 0, none⟩ v0).setCell ⟨b, 1, none⟩ v1).setCell ⟨b, 2, none⟩ v2).setCell ⟨b, 3, none⟩ v3).setCell ⟨b, 4, none⟩ v4).setCell ⟨b, 5, none⟩ v5).drew.cell? ⟨k, i, none⟩ = w.cell? ⟨k, i, none⟩ := by
  have h : ((((((w.setCell ⟨b, 0, none⟩ v0).setCell ⟨b, 1, none⟩ v1).setCell ⟨b, 2, none⟩ v2).setCell ⟨b, 3, none⟩ v3).setCell ⟨b, 4, none⟩ v4).setCell ⟨b, 5, none⟩ v5).heap[k]? = w.heap[k]? :=
    (Below.heap_setCell _ _ _ _ hne).trans ((Below.heap_setCell _ _ _ _ hne).trans ((Below.heap_setCell _ _ _ _ hne).trans ((Below.heap_setCell _ _ _ _ hne).trans ((Below.heap_setCell _ _ _ _ hne).trans (Below.heap_setCell _ _ _ _ hne)))))
  show World.cell? _ _ = _
  unfold World.cell?
  simp only [World.drew]
  rw [h]
set_option maxHeartbeats 4000000 in
theorem get_any (s : ByteArray) (w : World) (hs : s.size ≤ 9223372036854775807) : Calls Try.prog 26 #[.string s] w (GotRd w s) := by
  have HGOT := hide (show ∀ m w', m.At w' → modOf m = getM s → Below w.heap.size w w' → GotRd w s (.returned (.tuple #[m.val, .int .i64 (getE s)])) w' from fun m w' a b c => ⟨m, rfl, a, b, c⟩)
  generalize GotRd w s = Post at *
  go_enter Try.func26, Try.ntmps26
  go_wp2_with fail
  obtain ⟨hb0, hz, hO, hr0, hgr0, hgi0⟩ := get_boxes w s ((((w.alloc (.cells #[.int .i64 0, .float .f64 0, .slice none 0 0, .slice none 0 0, .slice none 0 0, .slice none 0 0] 28)).alloc (.cells #[.string s, .int .i64 0, .int .i64 0] 83)).alloc (.cells #[.pointer (some ⟨w.heap.size + 1, 0, none⟩)] 81)).alloc (.cells #[.func (.func 61) #[] #[.pointer (some ⟨w.heap.size + 1 + 1, 0, none⟩)]] 85)) rfl
  generalize (((w.alloc (.cells #[.int .i64 0, .float .f64 0, .slice none 0 0, .slice none 0 0, .slice none 0 0, .slice none 0 0] 28)).alloc (.cells #[.string s, .int .i64 0, .int .i64 0] 83)).alloc (.cells #[.pointer (some ⟨w.heap.size + 1, 0, none⟩)] 81)).alloc (.cells #[.func (.func 61) #[] #[.pointer (some ⟨w.heap.size + 1 + 1, 0, none⟩)]] 85) = W at *
  have hgE : w.heap.size + 1 ≠ w.heap.size + 1 + 1 := by omega
  have N1 := hide (show w.heap.size < w.heap.size + 1 ∧ w.heap.size + 1 < w.heap.size + 1 + 1 ∧ w.heap.size + 1 + 1 < w.heap.size + 1 + 1 + 1 ∧ w.heap.size + 1 + 1 + 1 < W.heap.size by omega)
  clear hgE hz
  generalize w.heap.size + 1 + 1 + 1 = gi at *
  generalize w.heap.size + 1 + 1 = gr at *
  generalize w.heap.size + 1 = g at *
  have HB0 := hide hb0
  have HO := hide hO
  have HR0 := hide (RdAt.below hr0 (Below.refl W.heap.size W).drew)
  have HGR0 := hide hgr0
  have HGI0 := hide hgi0
  have HLT := hide (show g < W.heap.size from hr0.lt)
  have HC := hide (show ∀ X, World.grownBy W.drew X (some g) → X.cell? ⟨gr, 0, none⟩ = some (.pointer (some ⟨g, 0, none⟩)) from fun X hg => keepg hg hgr0 (by have := N1.out; simp only; omega))
  clear hb0 hO hr0 hgr0 hgi0
  go_cut [6] (fun v wx => GetC w W g s v wx)
  case first =>
    have HMN := hide (fun (wx : World) (n : Int) (f : Nat) h hge hg hr => getC_new (w := w) (W := W) (g := g) (s := s) (wx := wx) (n := n) (f := f) h hge hg hr)
    have HM := hide (fun (wx : World) (gm : Nat) (n : Int) (f : Nat) h hge hX hg hr => getC_of (w := w) (W := W) (g := g) (s := s) (wx := wx) (gm := gm) (n := n) (f := f) h hge HLT.out hX hg hr rfl)
    refine wp_region_tree (fun X => X.cell? ⟨gr, 0, none⟩ = some (.pointer (some ⟨g, 0, none⟩))) [0, 2] 6 5 (by kernel_rfl) (by kernel_rfl) (HC.out _ (World.grownBy.refl _ _)) ?_
    simp only [List.filterMap_cons, List.filterMap_nil, List.getElem?_cons_succ, List.getElem?_cons_zero]
    repeat (refine head_step ?_ (by rfl) ?_ (fun _ _ _ h => h) ?_; rotate_left; (intro w' hs; have z0 := hs; go_simp; (try with_reducible rfl)); (try simp only [Act.put, List.setIfInBounds_toArray, List.set_cons_zero, List.set_cons_succ]))
    refine head_nil ?_
    refine tree_two 1 5 (by kernel_rfl) rfl rfl ?_ ?_
    · refine midc_call (g := 62) (args := #[.pointer (some ⟨g, 0, none⟩)]) (w' := W.drew) (by rfl) (by go_simp) ((int_rd hs (HR0.out)).mono ?_)
      rintro e w1 ⟨n, rfl, i1, hg1, hr1, c1⟩
      have hh1 := grown_trans_g (World.grownBy.refl _ _) hg1
      refine ⟨_, rfl, HC.out _ hh1, ?_⟩
      simp only [Act.put, List.setIfInBounds_toArray, List.set_cons_zero, List.set_cons_succ]
      refine midc_nil ?_
      refine tree_two 3 5 (by kernel_rfl) rfl rfl ?_ ?_
      · refine midc_call (g := 63) (args := #[.pointer (some ⟨g, 0, none⟩)]) (w' := w1) (by rfl) (by go_simp) ((float_rd hs (hr1)).mono ?_)
        rintro e w2 ⟨f, rfl, i2, hg2, hr2, c2⟩
        have hh2 := grown_trans_g (hh1) hg2
        refine ⟨_, rfl, HC.out _ hh2, ?_⟩
        simp only [Act.put, List.setIfInBounds_toArray, List.set_cons_zero, List.set_cons_succ]
        refine midc_nil ?_
        refine tree_two 4 5 (by kernel_rfl) rfl rfl ?_ ?_
        · refine midc_step (.agg #[.int .i64 n, .float .f64 f, .slice none 0 0, .slice none 0 0, .slice none 0 0, .slice none 0 0]) (w2) (by rfl) (by go_simp; try (first | rfl | exact ⟨rfl, rfl⟩)) (HC.out _ hh2) ?_
          simp only [Act.put, List.setIfInBounds_toArray, List.set_cons_zero, List.set_cons_succ]
          refine midc_nil ?_
          refine tree_one 5 (by kernel_rfl) rfl ?_
          refine midc_step _ (w2.alloc (.cells #[.int .i64 0, .float .f64 0, .slice none 0 0, .slice none 0 0, .slice none 0 0, .slice none 0 0] 28)) (by rfl) (by go_simp; try (first | rfl | exact ⟨rfl, rfl⟩)) (HC.out _ (grown_below (hh2) ((Below.refl _ _).alloc (Nat.le_refl _) _))) ?_
          simp only [Act.put, List.setIfInBounds_toArray, List.set_cons_zero, List.set_cons_succ]
          refine midc_nil ?_
          refine tree_list _ 6 (by decide) rfl (by kernel_rfl) rfl ?_
          have hX : Blk (w2.alloc (.cells #[.int .i64 0, .float .f64 0, .slice none 0 0, .slice none 0 0, .slice none 0 0, .slice none 0 0] 28)) (w2.heap.size) 28 #[.int .i64 0, .float .f64 0, .slice none 0 0, .slice none 0 0, .slice none 0 0, .slice none 0 0] := Blk.new w2 _ _
          have r0 := hX.cell 0
          have q0 := hX.frozen 0
          have r1 := hX.cell 1
          have q1 := hX.frozen 1
          have r2 := hX.cell 2
          have q2 := hX.frozen 2
          have r3 := hX.cell 3
          have q3 := hX.frozen 3
          have r4 := hX.cell 4
          have q4 := hX.frozen 4
          have r5 := hX.cell 5
          have q5 := hX.frozen 5
          simp only [List.getElem?_toArray, List.getElem?_cons_zero, List.getElem?_cons_succ] at r0 r1 r2 r3 r4 r5
          have HGR0 := hide (show World.grownBy W w2 (some g) from grown_trans_g (only_drew (World.grownBy.refl W (some g))) hh2)
          have HRD0 := hide hr2
          have HXX := hide hX
          have HGR := hide (show World.grownBy W (w2.alloc (.cells #[.int .i64 0, .float .f64 0, .slice none 0 0, .slice none 0 0, .slice none 0 0, .slice none 0 0] 28)) (some g) from grown_below (grown_trans_g (only_drew (World.grownBy.refl W (some g))) hh2) ((Below.refl _ _).alloc (Nat.le_refl _) _))
          have HRD2 := hide (show RdAt (w2.alloc (.cells #[.int .i64 0, .float .f64 0, .slice none 0 0, .slice none 0 0, .slice none 0 0, .slice none 0 0] 28)) g s (sF (sI (.ok (wordsOf s)))) from RdAt.below hr2 ((Below.refl _ _).alloc (Nat.le_refl _) _))
          have HGE := hide (show W.heap.size ≤ w2.heap.size from hh2.size)
          have H12 := hide (And.intro (And.intro i1 i2) (And.intro c1 c2))
          clear hX i1 i2 c1 c2 hg1 hr1 hh1 hg2 hr2 hh2
          go_wp2_with fail
          go_meet
          exact HMN.out _ _ _ H12.out HGE.out HGR0.out HRD0.out
        · refine midc_step _ (w2.alloc (.cells #[.int .i64 0, .float .f64 0, .slice none 0 0, .slice none 0 0, .slice none 0 0, .slice none 0 0] 28)) (by rfl) (by go_simp; try (first | rfl | exact ⟨rfl, rfl⟩)) (HC.out _ (grown_below (hh2) ((Below.refl _ _).alloc (Nat.le_refl _) _))) ?_
          simp only [Act.put, List.setIfInBounds_toArray, List.set_cons_zero, List.set_cons_succ]
          refine midc_nil ?_
          refine tree_one 4 (by kernel_rfl) rfl ?_
          refine midc_step (.agg #[.int .i64 n, .float .f64 f, .slice none 0 0, .slice none 0 0, .slice none 0 0, .slice none 0 0]) (w2.alloc (.cells #[.int .i64 0, .float .f64 0, .slice none 0 0, .slice none 0 0, .slice none 0 0, .slice none 0 0] 28)) (by rfl) (by go_simp; try (first | rfl | exact ⟨rfl, rfl⟩)) (HC.out _ (grown_below (hh2) ((Below.refl _ _).alloc (Nat.le_refl _) _))) ?_
          simp only [Act.put, List.setIfInBounds_toArray, List.set_cons_zero, List.set_cons_succ]
          refine midc_nil ?_
          refine tree_list _ 6 (by decide) rfl (by kernel_rfl) rfl ?_
          have hX : Blk (w2.alloc (.cells #[.int .i64 0, .float .f64 0, .slice none 0 0, .slice none 0 0, .slice none 0 0, .slice none 0 0] 28)) (w2.heap.size) 28 #[.int .i64 0, .float .f64 0, .slice none 0 0, .slice none 0 0, .slice none 0 0, .slice none 0 0] := Blk.new w2 _ _
          have r0 := hX.cell 0
          have q0 := hX.frozen 0
          have r1 := hX.cell 1
          have q1 := hX.frozen 1
          have r2 := hX.cell 2
          have q2 := hX.frozen 2
          have r3 := hX.cell 3
          have q3 := hX.frozen 3
          have r4 := hX.cell 4
          have q4 := hX.frozen 4
          have r5 := hX.cell 5
          have q5 := hX.frozen 5
          simp only [List.getElem?_toArray, List.getElem?_cons_zero, List.getElem?_cons_succ] at r0 r1 r2 r3 r4 r5
          have HGR0 := hide (show World.grownBy W w2 (some g) from grown_trans_g (only_drew (World.grownBy.refl W (some g))) hh2)
          have HRD0 := hide hr2
          have HXX := hide hX
          have HGR := hide (show World.grownBy W (w2.alloc (.cells #[.int .i64 0, .float .f64 0, .slice none 0 0, .slice none 0 0, .slice none 0 0, .slice none 0 0] 28)) (some g) from grown_below (grown_trans_g (only_drew (World.grownBy.refl W (some g))) hh2) ((Below.refl _ _).alloc (Nat.le_refl _) _))
          have HRD2 := hide (show RdAt (w2.alloc (.cells #[.int .i64 0, .float .f64 0, .slice none 0 0, .slice none 0 0, .slice none 0 0, .slice none 0 0] 28)) g s (sF (sI (.ok (wordsOf s)))) from RdAt.below hr2 ((Below.refl _ _).alloc (Nat.le_refl _) _))
          have HGE := hide (show W.heap.size ≤ w2.heap.size from hh2.size)
          have H12 := hide (And.intro (And.intro i1 i2) (And.intro c1 c2))
          clear hX i1 i2 c1 c2 hg1 hr1 hh1 hg2 hr2 hh2
          go_wp2_with fail
          go_meet
          exact HMN.out _ _ _ H12.out HGE.out HGR0.out HRD0.out
      · refine midc_step _ (w1.alloc (.cells #[.int .i64 0, .float .f64 0, .slice none 0 0, .slice none 0 0, .slice none 0 0, .slice none 0 0] 28)) (by rfl) (by go_simp; try (first | rfl | exact ⟨rfl, rfl⟩)) (HC.out _ (grown_below (hh1) ((Below.refl _ _).alloc (Nat.le_refl _) _))) ?_
        simp only [Act.put, List.setIfInBounds_toArray, List.set_cons_zero, List.set_cons_succ]
        refine midc_nil ?_
        have hX0 := Blk.new w1 28 #[.int .i64 0, .float .f64 0, .slice none 0 0, .slice none 0 0, .slice none 0 0, .slice none 0 0]
        refine tree_one 3 (by kernel_rfl) rfl ?_
        refine midc_call (g := 63) (args := #[.pointer (some ⟨g, 0, none⟩)]) (w' := w1.alloc (.cells #[.int .i64 0, .float .f64 0, .slice none 0 0, .slice none 0 0, .slice none 0 0, .slice none 0 0] 28)) (by rfl) (by go_simp) ((float_rd hs (RdAt.below hr1 ((Below.refl _ _).alloc (Nat.le_refl _) _))).mono ?_)
        rintro e w2 ⟨f, rfl, i2, hg2, hr2, c2⟩
        have hh2 := grown_trans_g (grown_below (hh1) ((Below.refl _ _).alloc (Nat.le_refl _) _)) hg2
        refine ⟨_, rfl, HC.out _ hh2, ?_⟩
        simp only [Act.put, List.setIfInBounds_toArray, List.set_cons_zero, List.set_cons_succ]
        refine midc_nil ?_
        refine tree_one 4 (by kernel_rfl) rfl ?_
        refine midc_step (.agg #[.int .i64 n, .float .f64 f, .slice none 0 0, .slice none 0 0, .slice none 0 0, .slice none 0 0]) (w2) (by rfl) (by go_simp; try (first | rfl | exact ⟨rfl, rfl⟩)) (HC.out _ hh2) ?_
        simp only [Act.put, List.setIfInBounds_toArray, List.set_cons_zero, List.set_cons_succ]
        refine midc_nil ?_
        refine tree_list _ 6 (by decide) rfl (by kernel_rfl) rfl ?_
        have hX : Blk (w2) (w1.heap.size) 28 #[.int .i64 0, .float .f64 0, .slice none 0 0, .slice none 0 0, .slice none 0 0, .slice none 0 0] := Blk.grown (row := some g) hX0 hg2 (fun e => by have h1 := hh1.size; have h2 := HLT.out; injection e with e; have h1 : W.heap.size ≤ w1.heap.size := h1; omega)
        have r0 := hX.cell 0
        have q0 := hX.frozen 0
        have r1 := hX.cell 1
        have q1 := hX.frozen 1
        have r2 := hX.cell 2
        have q2 := hX.frozen 2
        have r3 := hX.cell 3
        have q3 := hX.frozen 3
        have r4 := hX.cell 4
        have q4 := hX.frozen 4
        have r5 := hX.cell 5
        have q5 := hX.frozen 5
        simp only [List.getElem?_toArray, List.getElem?_cons_zero, List.getElem?_cons_succ] at r0 r1 r2 r3 r4 r5
        have HXX := hide hX
        have HGR := hide (show World.grownBy W (w2) (some g) from grown_trans_g (only_drew (World.grownBy.refl W (some g))) hh2)
        have HRD2 := hide (show RdAt (w2) g s (sF (sI (.ok (wordsOf s)))) from hr2)
        have HGE := hide (show W.heap.size ≤ w1.heap.size from hh1.size)
        have H12 := hide (And.intro (And.intro i1 i2) (And.intro c1 c2))
        clear hX i1 i2 c1 c2 hg1 hr1 hh1 hg2 hr2 hh2 hX0
        go_wp2_with fail
        go_meet
        exact HM.out _ _ _ _ H12.out HGE.out HXX.out HGR.out HRD2.out
    · refine midc_step _ (W.drew.alloc (.cells #[.int .i64 0, .float .f64 0, .slice none 0 0, .slice none 0 0, .slice none 0 0, .slice none 0 0] 28)) (by rfl) (by go_simp; try (first | rfl | exact ⟨rfl, rfl⟩)) (HC.out _ (grown_below (World.grownBy.refl _ _) ((Below.refl _ _).alloc (Nat.le_refl _) _))) ?_
      simp only [Act.put, List.setIfInBounds_toArray, List.set_cons_zero, List.set_cons_succ]
      refine midc_nil ?_
      have hX0 := Blk.new W.drew 28 #[.int .i64 0, .float .f64 0, .slice none 0 0, .slice none 0 0, .slice none 0 0, .slice none 0 0]
      refine tree_one 1 (by kernel_rfl) rfl ?_
      refine midc_call (g := 62) (args := #[.pointer (some ⟨g, 0, none⟩)]) (w' := W.drew.alloc (.cells #[.int .i64 0, .float .f64 0, .slice none 0 0, .slice none 0 0, .slice none 0 0, .slice none 0 0] 28)) (by rfl) (by go_simp) ((int_rd hs (RdAt.below HR0.out ((Below.refl _ _).alloc (Nat.le_refl _) _))).mono ?_)
      rintro e w1 ⟨n, rfl, i1, hg1, hr1, c1⟩
      have hh1 := grown_trans_g (grown_below (World.grownBy.refl _ _) ((Below.refl _ _).alloc (Nat.le_refl _) _)) hg1
      refine ⟨_, rfl, HC.out _ hh1, ?_⟩
      simp only [Act.put, List.setIfInBounds_toArray, List.set_cons_zero, List.set_cons_succ]
      refine midc_nil ?_
      refine tree_one 3 (by kernel_rfl) rfl ?_
      refine midc_call (g := 63) (args := #[.pointer (some ⟨g, 0, none⟩)]) (w' := w1) (by rfl) (by go_simp) ((float_rd hs (hr1)).mono ?_)
      rintro e w2 ⟨f, rfl, i2, hg2, hr2, c2⟩
      have hh2 := grown_trans_g (hh1) hg2
      refine ⟨_, rfl, HC.out _ hh2, ?_⟩
      simp only [Act.put, List.setIfInBounds_toArray, List.set_cons_zero, List.set_cons_succ]
      refine midc_nil ?_
      refine tree_one 4 (by kernel_rfl) rfl ?_
      refine midc_step (.agg #[.int .i64 n, .float .f64 f, .slice none 0 0, .slice none 0 0, .slice none 0 0, .slice none 0 0]) (w2) (by rfl) (by go_simp; try (first | rfl | exact ⟨rfl, rfl⟩)) (HC.out _ hh2) ?_
      simp only [Act.put, List.setIfInBounds_toArray, List.set_cons_zero, List.set_cons_succ]
      refine midc_nil ?_
      refine tree_list _ 6 (by decide) rfl (by kernel_rfl) rfl ?_
      have hX : Blk (w2) (W.heap.size) 28 #[.int .i64 0, .float .f64 0, .slice none 0 0, .slice none 0 0, .slice none 0 0, .slice none 0 0] := (Blk.grown (row := some g) hX0 hg1 (fun e => by have := HLT.out; injection e with e; have e : W.heap.size = g := e; omega)).grown hg2 (fun e => by have := HLT.out; injection e with e; have e : W.heap.size = g := e; omega)
      have r0 := hX.cell 0
      have q0 := hX.frozen 0
      have r1 := hX.cell 1
      have q1 := hX.frozen 1
      have r2 := hX.cell 2
      have q2 := hX.frozen 2
      have r3 := hX.cell 3
      have q3 := hX.frozen 3
      have r4 := hX.cell 4
      have q4 := hX.frozen 4
      have r5 := hX.cell 5
      have q5 := hX.frozen 5
      simp only [List.getElem?_toArray, List.getElem?_cons_zero, List.getElem?_cons_succ] at r0 r1 r2 r3 r4 r5
      have HXX := hide hX
      have HGR := hide (show World.grownBy W (w2) (some g) from grown_trans_g (only_drew (World.grownBy.refl W (some g))) hh2)
      have HRD2 := hide (show RdAt (w2) g s (sF (sI (.ok (wordsOf s)))) from hr2)
      have HGE := hide (show W.heap.size ≤ W.heap.size from Nat.le_refl _)
      have H12 := hide (And.intro (And.intro i1 i2) (And.intro c1 c2))
      clear hX i1 i2 c1 c2 hg1 hr1 hh1 hg2 hr2 hh2 hX0
      go_wp2_with fail
      go_meet
      exact HM.out _ _ _ _ H12.out HGE.out HXX.out HGR.out HRD2.out
  case rest =>
    obtain ⟨gm, n, f, rfl, hge, hgl, i1, i2, hX, hgw, hrd, c1, c2⟩ := hcut
    have HN := hide (show GetN w wc g gm from ⟨by have := N1.out; omega, Nat.lt_of_lt_of_le HLT.out hgw.size, by have := HB0.out.size; omega, hgl, by have := HLT.out; omega⟩)
    have HS := hide (show GetS w wc g gm s (sF (sI (.ok (wordsOf s)))) n f (.slice none 0 0) (.slice none 0 0) (.slice none 0 0) (.slice none 0 0) wc from ⟨HB0.out.grown hgw HB0.out.size (fun k hk => by injection hk with hk; have := N1.out; omega), Nat.le_refl _, hrd, hX, fun _ _ _ _ => rfl⟩)
    have HGR := hide (keepg hgw HGR0.out (by have := N1.out; simp only; omega))
    have HGI := hide (keepg hgw HGI0.out (by have := N1.out; simp only; omega))
    have HOO := hide (HO.out.grown hgw (fun e => by injection e with e; have := N1.out; omega))
    have HNF := hide (And.intro i1 i2)
    have HCN := hide (And.intro c1 c2)
    have HLE := hide (show w.heap.size < g ∧ w.heap.size < gr by have := N1.out; omega)
    have HDI := hide (show gr ≠ g ∧ gr ≠ gm ∧ gi ≠ g ∧ gi ≠ gm ∧ w.heap.size ≠ g ∧ w.heap.size ≠ gm ∧ gr < wc.heap.size ∧ gi < wc.heap.size ∧ w.heap.size < wc.heap.size by have := N1.out; have := hgw.size; omega)
    clear hge hgl i1 i2 hX hgw hrd c1 c2 N1 HB0 HO HR0 HGR0 HGI0 HLT HC W
    have x0 := HS.out.cell HGR.out HDI.out.1 HDI.out.2.1
    have hcall := items_fl hs HS.out.rd
    go_wp2_with fail
    refine hcall.mono ?_
    rintro e wA ⟨⟨dA, dc, dl⟩, rfl, ho, hoks, hg, hr, Dc⟩
    simp only [Sl.val] at ho hoks
    have HD := hide (Rw.low keep_fl (x := ⟨dA, dc, dl⟩) ⟨ho, hoks⟩ HS.out.siz)
    have HCND := hide Dc
    have HSA := hide (HS.out.read HN.out hg hr)
    have y0 := HSA.out.ou.cell 2
    have z0 := HSA.out.ou.frozen 2
    simp only [List.getElem?_toArray, List.getElem?_cons_zero, List.getElem?_cons_succ] at y0
    clear hcall ho hoks hg hr Dc x0 HS
    simp only [Sl.val]
    go_upto_region 5 with fail
    clear y0 z0
    have HS := hide (HSA.out.put HN.out 2 (.slice dA dl.length dc) rfl (.slice dA dl.length dc) (.slice none 0 0) (.slice none 0 0) (.slice none 0 0) rfl)
    have HD := hide (HD.out.set (p := ⟨gm, 2, none⟩) keep_fl HN.out.m2 (.slice dA dl.length dc))
    clear HSA
    generalize wA.setCell ⟨gm, 2, none⟩ (.slice dA dl.length dc) = wB at *
    have x0 := HS.out.cell HGR.out HDI.out.1 HDI.out.2.1
    have x1 := HS.out.cell HGI.out HDI.out.2.2.1 HDI.out.2.2.2.1
    have hcall := items_prog hs HS.out.rd gr x0 HDI.out.1 gi x1 HDI.out.2.2.1
    go_wp2_with fail
    refine hcall.mono ?_
    rintro e wA ⟨⟨pA, pc, pl⟩, rfl, ho, hoks, hg, hr, Pc⟩
    simp only [Sl.val] at ho hoks
    have HP := hide (Rw.low keep_pr (x := ⟨pA, pc, pl⟩) ⟨ho, hoks⟩ HS.out.siz)
    have HCNP := hide Pc
    have HD := hide (HD.out.g keep_fl hg HN.out.g2)
    have HSA := hide (HS.out.read HN.out hg hr)
    have y0 := HSA.out.ou.cell 3
    have z0 := HSA.out.ou.frozen 3
    simp only [List.getElem?_toArray, List.getElem?_cons_zero, List.getElem?_cons_succ] at y0
    clear hcall ho hoks hg hr Pc x0 x1 HS
    simp only [Sl.val]
    go_upto_region 6 with fail
    clear y0 z0
    have HS := hide (HSA.out.put HN.out 3 (.slice pA pl.length pc) rfl (.slice dA dl.length dc) (.slice pA pl.length pc) (.slice none 0 0) (.slice none 0 0) rfl)
    have HD := hide (HD.out.set (p := ⟨gm, 3, none⟩) keep_fl HN.out.m2 (.slice pA pl.length pc))
    have HP := hide (HP.out.set (p := ⟨gm, 3, none⟩) keep_pr HN.out.m2 (.slice pA pl.length pc))
    clear HSA
    generalize wA.setCell ⟨gm, 3, none⟩ (.slice pA pl.length pc) = wC at *
    have x0 := HS.out.cell HGR.out HDI.out.1 HDI.out.2.1
    have hcall := items_lp hs HS.out.rd gr x0 HDI.out.1
    go_wp2_with fail
    refine hcall.mono ?_
    rintro e wA ⟨⟨lA, lc, ll⟩, rfl, ho, hoks, hg, hr, Lc⟩
    simp only [Sl.val] at ho hoks
    have HL := hide (Rw.low keep_lp (x := ⟨lA, lc, ll⟩) ⟨ho, hoks⟩ HS.out.siz)
    have HCNL := hide Lc
    have HD := hide (HD.out.g keep_fl hg HN.out.g2)
    have HP := hide (HP.out.g keep_pr hg HN.out.g2)
    have HSA := hide (HS.out.read HN.out hg hr)
    have y0 := HSA.out.ou.cell 4
    have z0 := HSA.out.ou.frozen 4
    simp only [List.getElem?_toArray, List.getElem?_cons_zero, List.getElem?_cons_succ] at y0
    clear hcall ho hoks hg hr Lc x0 HS
    simp only [Sl.val]
    go_upto_region 7 with fail
    clear y0 z0
    have HS := hide (HSA.out.put HN.out 4 (.slice lA ll.length lc) rfl (.slice dA dl.length dc) (.slice pA pl.length pc) (.slice lA ll.length lc) (.slice none 0 0) rfl)
    have HD := hide (HD.out.set (p := ⟨gm, 4, none⟩) keep_fl HN.out.m2 (.slice lA ll.length lc))
    have HP := hide (HP.out.set (p := ⟨gm, 4, none⟩) keep_pr HN.out.m2 (.slice lA ll.length lc))
    have HL := hide (HL.out.set (p := ⟨gm, 4, none⟩) keep_lp HN.out.m2 (.slice lA ll.length lc))
    clear HSA
    generalize wA.setCell ⟨gm, 4, none⟩ (.slice lA ll.length lc) = wD at *
    have x0 := HS.out.cell HGR.out HDI.out.1 HDI.out.2.1
    have hcall := items_init hs HS.out.rd gr x0 HDI.out.1
    go_wp2_with fail
    refine hcall.mono ?_
    rintro e wA ⟨⟨iA, ic, il⟩, rfl, ho, hoks, hg, hr, Ic⟩
    simp only [Sl.val] at ho hoks
    have HI := hide (Rw.low keep_ini (x := ⟨iA, ic, il⟩) ⟨ho, hoks⟩ HS.out.siz)
    have HCNI := hide Ic
    have HD := hide (HD.out.g keep_fl hg HN.out.g2)
    have HP := hide (HP.out.g keep_pr hg HN.out.g2)
    have HL := hide (HL.out.g keep_lp hg HN.out.g2)
    have HSA := hide (HS.out.read HN.out hg hr)
    have y0 := HSA.out.ou.cell 5
    have z0 := HSA.out.ou.frozen 5
    simp only [List.getElem?_toArray, List.getElem?_cons_zero, List.getElem?_cons_succ] at y0
    clear hcall ho hoks hg hr Ic x0 HS
    simp only [Sl.val]
    go_upto_region 8 with fail
    clear y0 z0
    have HS := hide (HSA.out.put HN.out 5 (.slice iA il.length ic) rfl (.slice dA dl.length dc) (.slice pA pl.length pc) (.slice lA ll.length lc) (.slice iA il.length ic) rfl)
    have HD := hide (HD.out.set (p := ⟨gm, 5, none⟩) keep_fl HN.out.m2 (.slice iA il.length ic))
    have HP := hide (HP.out.set (p := ⟨gm, 5, none⟩) keep_pr HN.out.m2 (.slice iA il.length ic))
    have HL := hide (HL.out.set (p := ⟨gm, 5, none⟩) keep_lp HN.out.m2 (.slice iA il.length ic))
    have HI := hide (HI.out.set (p := ⟨gm, 5, none⟩) keep_ini HN.out.m2 (.slice iA il.length ic))
    clear HSA
    generalize wA.setCell ⟨gm, 5, none⟩ (.slice iA il.length ic) = wE at *
    have HNE := hide (show w.heap.size < g ∧ w.heap.size < gr from HLE.out)
    have hR4 : Rows4 wc.heap.size (⟨n, f, ⟨dA, dc, dl⟩, ⟨pA, pc, pl⟩, ⟨lA, lc, ll⟩, ⟨iA, ic, il⟩⟩ : Mdl) wE := ⟨HD.out, HP.out, HL.out, HI.out⟩
    have HR4 := hide hR4
    have HPM := hide (mod_aft (wordsOf s))
    have HCM := hide (mod_con HCN.out.1 HCN.out.2 (fun y r e => (List.map_id dl).symm.trans (HCND.out y r e)) HCNP.out HCNL.out (fun y r e => (List.map_id il).symm.trans (HCNI.out y r e)))
    have HLO := hide HS.out.lo
    have HOE := hide (show Blk wE w.heap.size 28 #[.int .i64 0, .float .f64 0, .slice none 0 0, .slice none 0 0, .slice none 0 0, .slice none 0 0] from (HS.out.kp _ HDI.out.2.2.2.2.2.2.2.2 HDI.out.2.2.2.2.1 HDI.out.2.2.2.2.2.1).trans HOO.out)
    have HMM := hide (And.intro HS.out.ou HN.out)
    have x0 := HS.out.cell HGR.out HDI.out.1 HDI.out.2.1
    have hrd : RdAt wE g s (sN (sL (sP (sD (sF (sI (.ok (wordsOf s)))))))) := HS.out.rd
    clear hR4 HS HD HP HL HI HCND HCNP HCNL HCNI HCN HGR HGI HOO
    generalize hst : sN (sL (sP (sD (sF (sI (.ok (wordsOf s))))))) = st6 at *
    cases st6 with
    | error er =>
      obtain ⟨he, q, hX⟩ := hrd
      have HGE := hide (get_err HPM.out)
      have d2 := hX.cell 2
      simp only [List.getElem?_toArray, List.getElem?_cons_zero, List.getElem?_cons_succ] at d2
      have hO := HOE.out
      have r0 := hO.cell 0
      have q0 := hO.frozen 0
      have r1 := hO.cell 1
      have q1 := hO.frozen 1
      have r2 := hO.cell 2
      have q2 := hO.frozen 2
      have r3 := hO.cell 3
      have q3 := hO.frozen 3
      have r4 := hO.cell 4
      have q4 := hO.frozen 4
      have r5 := hO.cell 5
      have q5 := hO.frozen 5
      simp only [List.getElem?_toArray, List.getElem?_cons_zero, List.getElem?_cons_succ] at r0 r1 r2 r3 r4 r5
      clear hO
      clear hst hX HR4 HCM HMM HPM
      go_wp2_with fail
      have nb1 : ¬ g = w.heap.size := by have := HNE.out; omega
      have nb2 : ¬ gr = w.heap.size := by have := HNE.out; omega
      have nb3 : ¬ w.heap.size = g := by have := HNE.out; omega
      have nb4 : ¬ w.heap.size = gr := by have := HNE.out; omega
      go_region
      go_wp2_with fail
      refine bodyPost_ret (v := .tuple #[.agg #[.int .i64 0, .float .f64 0, .slice none 0 0, .slice none 0 0, .slice none 0 0, .slice none 0 0], .int .i64 er]) (by simp [results, Try.results26, go_sem, r0, r1, r2, r3, r4, r5]) rfl ?_
      have hfin := fun W9 hb9 => HGOT.out noMdl W9 (noMdl_at W9) (noMdl_mod.trans HGE.out.2.symm) hb9
      rw [HGE.out.1] at hfin
      exact hfin _ ((((((((HLO.out).setCell (Nat.le_refl _) _).setCell (Nat.le_refl _) _).setCell (Nat.le_refl _) _).setCell (Nat.le_refl _) _).setCell (Nat.le_refl _) _).setCell (Nat.le_refl _) _).drew)
    | ok ws =>
      obtain ⟨k, rfl, hk8, hX⟩ := hrd
      have d1 := hX.cell 1
      have d2 := hX.cell 2
      simp only [List.getElem?_toArray, List.getElem?_cons_zero, List.getElem?_cons_succ] at d1 d2
      have hsz : s.size ≤ 9223372036854775807 := hs
      by_cases hlt : 8 * k < s.size
      · have HGE := hide (get_long HPM.out hlt)
        generalize 8 * k = q at *
        have kI : (q : Int) < (s.size : Int) := by omega
        have hO := HOE.out
        have r0 := hO.cell 0
        have q0 := hO.frozen 0
        have r1 := hO.cell 1
        have q1 := hO.frozen 1
        have r2 := hO.cell 2
        have q2 := hO.frozen 2
        have r3 := hO.cell 3
        have q3 := hO.frozen 3
        have r4 := hO.cell 4
        have q4 := hO.frozen 4
        have r5 := hO.cell 5
        have q5 := hO.frozen 5
        simp only [List.getElem?_toArray, List.getElem?_cons_zero, List.getElem?_cons_succ] at r0 r1 r2 r3 r4 r5
        clear hO
        clear hst hX HR4 HCM HMM HPM hk8
        go_wp2_with fail
        refine bodyPost_ret (v := .tuple #[.agg #[.int .i64 0, .float .f64 0, .slice none 0 0, .slice none 0 0, .slice none 0 0, .slice none 0 0], .int .i64 6]) (by simp [results, Try.results26, go_sem, r0, r1, r2, r3, r4, r5]) rfl ?_
        have hfin := fun W9 hb9 => HGOT.out noMdl W9 (noMdl_at W9) (noMdl_mod.trans HGE.out.2.symm) hb9
        rw [HGE.out.1] at hfin
        exact hfin _ (((((((HLO.out).setCell (Nat.le_refl _) _).setCell (Nat.le_refl _) _).setCell (Nat.le_refl _) _).setCell (Nat.le_refl _) _).setCell (Nat.le_refl _) _).setCell (Nat.le_refl _) _)
      · have HGE := hide (get_whole HPM.out HCM.out hk8 hlt)
        generalize 8 * k = q at *
        have kI : ¬ (q : Int) < (s.size : Int) := by omega
        have hAT := HR4.out.at_ HNF.out.1 HNF.out.2
        have hchk := check_any (⟨n, f, ⟨dA, dc, dl⟩, ⟨pA, pc, pl⟩, ⟨lA, lc, ll⟩, ⟨iA, ic, il⟩⟩ : Mdl) wE hAT
        have HMD := hide (chk_mod (⟨n, f, ⟨dA, dc, dl⟩, ⟨pA, pc, pl⟩, ⟨lA, lc, ll⟩, ⟨iA, ic, il⟩⟩ : Mdl))
        have m0 := HMM.out.1.cell 0
        have m1 := HMM.out.1.cell 1
        have m2 := HMM.out.1.cell 2
        have m3 := HMM.out.1.cell 3
        have m4 := HMM.out.1.cell 4
        have m5 := HMM.out.1.cell 5
        simp only [List.getElem?_toArray, List.getElem?_cons_zero, List.getElem?_cons_succ] at m0 m1 m2 m3 m4 m5
        by_cases hc : chkB (⟨n, f, ⟨dA, dc, dl⟩, ⟨pA, pc, pl⟩, ⟨lA, lc, ll⟩, ⟨iA, ic, il⟩⟩ : Mdl) = true
        · rw [show chkE (⟨n, f, ⟨dA, dc, dl⟩, ⟨pA, pc, pl⟩, ⟨lA, lc, ll⟩, ⟨iA, ic, il⟩⟩ : Mdl) = 0 by unfold chkE; rw [if_pos hc]] at hchk
          have HG3 := hide (show getE s = 0 ∧ getM s = modOf (⟨n, f, ⟨dA, dc, dl⟩, ⟨pA, pc, pl⟩, ⟨lA, lc, ll⟩, ⟨iA, ic, il⟩⟩ : Mdl) by
            have h1 := HMD.out.symm.trans hc
            have h2 := HGE.out
            rw [show (⟨n, f, dl, pl.map fun x => x.L, ll.map fun x => (x.1, x.2.L), il⟩ : Mio.Mod) = modOf (⟨n, f, ⟨dA, dc, dl⟩, ⟨pA, pc, pl⟩, ⟨lA, lc, ll⟩, ⟨iA, ic, il⟩⟩ : Mdl) from rfl, if_pos h1, if_pos h1] at h2
            exact h2)
          simp only [Mdl.val, Sl.val] at hchk
          clear hst hX hk8 HCM HPM HGE hc hAT HMD
          go_wp2_with fail
          refine hchk.mono ?_
          rintro e w9 ⟨rfl, hb9⟩
          have HB9 := hide (below_after HLO.out hb9)
          have HR9 := hide (show Rows4 wc.heap.size (⟨n, f, ⟨dA, dc, dl⟩, ⟨pA, pc, pl⟩, ⟨lA, lc, ll⟩, ⟨iA, ic, il⟩⟩ : Mdl) w9 from HR4.out.g (only_of_below hb9 (some g)) HN.out.g2)
          have hM9 := HMM.out.1.below hb9 HMM.out.1.lt
          clear m0 m1 m2 m3 m4 m5
          have m0 := hM9.cell 0
          have m1 := hM9.cell 1
          have m2 := hM9.cell 2
          have m3 := hM9.cell 3
          have m4 := hM9.cell 4
          have m5 := hM9.cell 5
          simp only [List.getElem?_toArray, List.getElem?_cons_zero, List.getElem?_cons_succ] at m0 m1 m2 m3 m4 m5
          have hO := HOE.out.below hb9 HOE.out.lt
          have r0 := hO.cell 0
          have q0 := hO.frozen 0
          have r1 := hO.cell 1
          have q1 := hO.frozen 1
          have r2 := hO.cell 2
          have q2 := hO.frozen 2
          have r3 := hO.cell 3
          have q3 := hO.frozen 3
          have r4 := hO.cell 4
          have q4 := hO.frozen 4
          have r5 := hO.cell 5
          have q5 := hO.frozen 5
          simp only [List.getElem?_toArray, List.getElem?_cons_zero, List.getElem?_cons_succ] at r0 r1 r2 r3 r4 r5
          clear hO
          clear hb9 hM9 x0 d1 d2 hchk
          go_wp2_with fail
          refine bodyPost_ret (v := .tuple #[.agg #[.int .i64 n, .float .f64 f, .slice dA dl.length dc, .slice pA pl.length pc, .slice lA ll.length lc, .slice iA il.length ic], .int .i64 0]) (by simp [results, Try.results26, go_sem, r0, r1, r2, r3, r4, r5]) rfl ?_
          have hlt9 : w.heap.size < wc.heap.size := HDI.out.2.2.2.2.2.2.2.2
          have hfin := fun W9 hat9 hb9 => HGOT.out (⟨n, f, ⟨dA, dc, dl⟩, ⟨pA, pc, pl⟩, ⟨lA, lc, ll⟩, ⟨iA, ic, il⟩⟩ : Mdl) W9 hat9 HG3.out.2.symm hb9
          rw [HG3.out.1] at hfin
          exact hfin _ (((((((HR9.out.set (p := ⟨w.heap.size, 0, none⟩) hlt9 _).set (p := ⟨w.heap.size, 1, none⟩) hlt9 _).set (p := ⟨w.heap.size, 2, none⟩) hlt9 _).set (p := ⟨w.heap.size, 3, none⟩) hlt9 _).set (p := ⟨w.heap.size, 4, none⟩) hlt9 _).set (p := ⟨w.heap.size, 5, none⟩) hlt9 _).at_ HNF.out.1 HNF.out.2) (((((((HB9.out).setCell (Nat.le_refl _) _).setCell (Nat.le_refl _) _).setCell (Nat.le_refl _) _).setCell (Nat.le_refl _) _).setCell (Nat.le_refl _) _).setCell (Nat.le_refl _) _)
        · rw [show chkE (⟨n, f, ⟨dA, dc, dl⟩, ⟨pA, pc, pl⟩, ⟨lA, lc, ll⟩, ⟨iA, ic, il⟩⟩ : Mdl) = 15 by unfold chkE; rw [if_neg hc]] at hchk
          have HGE := hide (show getE s = 15 ∧ getM s = emptyM by
            have h1 : ¬ chkM (modOf (⟨n, f, ⟨dA, dc, dl⟩, ⟨pA, pc, pl⟩, ⟨lA, lc, ll⟩, ⟨iA, ic, il⟩⟩ : Mdl)) = true := fun h => hc (HMD.out.trans h)
            have h2 := HGE.out
            rw [show (⟨n, f, dl, pl.map fun x => x.L, ll.map fun x => (x.1, x.2.L), il⟩ : Mio.Mod) = modOf (⟨n, f, ⟨dA, dc, dl⟩, ⟨pA, pc, pl⟩, ⟨lA, lc, ll⟩, ⟨iA, ic, il⟩⟩ : Mdl) from rfl, if_neg h1, if_neg h1] at h2
            exact h2)
          simp only [Mdl.val, Sl.val] at hchk
          clear hst hX hk8 HCM HPM hc hAT HMD
          go_wp2_with fail
          refine hchk.mono ?_
          rintro e w9 ⟨rfl, hb9⟩
          have HB9 := hide (below_after HLO.out hb9)
          clear m0 m1 m2 m3 m4 m5
          have hO := HOE.out.below hb9 HOE.out.lt
          have r0 := hO.cell 0
          have q0 := hO.frozen 0
          have r1 := hO.cell 1
          have q1 := hO.frozen 1
          have r2 := hO.cell 2
          have q2 := hO.frozen 2
          have r3 := hO.cell 3
          have q3 := hO.frozen 3
          have r4 := hO.cell 4
          have q4 := hO.frozen 4
          have r5 := hO.cell 5
          have q5 := hO.frozen 5
          simp only [List.getElem?_toArray, List.getElem?_cons_zero, List.getElem?_cons_succ] at r0 r1 r2 r3 r4 r5
          clear hO
          clear hb9 x0 d1 d2 hchk
          go_wp2_with fail
          refine bodyPost_ret (v := .tuple #[.agg #[.int .i64 0, .float .f64 0, .slice none 0 0, .slice none 0 0, .slice none 0 0, .slice none 0 0], .int .i64 15]) (by simp [results, Try.results26, go_sem, r0, r1, r2, r3, r4, r5]) rfl ?_
          have hfin := fun W9 hb9 => HGOT.out noMdl W9 (noMdl_at W9) (noMdl_mod.trans HGE.out.2.symm) hb9
          rw [HGE.out.1] at hfin
          exact hfin _ (((((((HB9.out).setCell (Nat.le_refl _) _).setCell (Nat.le_refl _) _).setCell (Nat.le_refl _) _).setCell (Nat.le_refl _) _).setCell (Nat.le_refl _) _).setCell (Nat.le_refl _) _)
end Go.Proofs.Ytegegljpmelomaa
