/- The law ModelSame walked. No condition. -/
import Derived.Test.YtegegljpmelomaaLaw05
import Derived.Test.YtegegljpmelomaaQuietC
set_option linter.unusedVariables false
set_option maxRecDepth 20000
namespace Go.Proofs.Ytegegljpmelomaa
open Go.RowKit Go.Deep

attribute [local go_sem] run_store_float
theorem fsame_comm (a b : Nat) : fsame a b = fsame b a := by
  unfold fsame
  rw [Bool.and_comm, show decide (a = b) = decide (b = a) from by rw [Bool.eq_iff_iff]; simp [eq_comm]]
theorem eqL_comm {α : Type} {f : α → α → Bool} (hf : ∀ x y, f x y = f y x) : ∀ (a b : List α), eqL f a b = eqL f b a := by
  intro a b
  unfold eqL
  rw [show decide (a.length = b.length) = decide (b.length = a.length) from by rw [Bool.eq_iff_iff]; simp [eq_comm]]
  congr 1
  induction a generalizing b with
  | nil => cases b <;> rfl
  | cons x a ih =>
    cases b with
    | nil => rfl
    | cons y b =>
      simp only [List.zip_cons_cons, List.all_cons]
      rw [hf x y, ih b]
theorem deceq_comm {α : Type} [DecidableEq α] (x y : α) : decide (x = y) = decide (y = x) := by rw [Bool.eq_iff_iff]; simp [eq_comm]
theorem initSame_comm (x y : Init3) : initSame x y = initSame y x := by
  unfold initSame
  rw [fsame_comm, deceq_comm x.2.1, deceq_comm x.2.2]
theorem progSame_comm (x y : Sl Ins4) : progSame x y = progSame y x := eqL_comm (fun x y => deceq_comm x y) _ _
theorem lpSame_comm (x y : LP2) : lpSame x y = lpSame y x := by
  unfold lpSame
  rw [eqL_comm (fun x y => deceq_comm x y) x.2.L, deceq_comm x.1]
theorem sameB_comm (m m' : Mdl) : sameB m m' = sameB m' m := by
  unfold sameB
  rw [fsame_comm, eqL_comm fsame_comm m.dl.L, eqL_comm initSame_comm m.il.L, eqL_comm progSame_comm m.pl.L, eqL_comm lpSame_comm m.ll.L, deceq_comm m.seed]
/-- What the worlds of this law are like. -/
def SameC (w : World) (m m' : Mdl) (W : World) : Prop :=
  Below w.heap.size w W ∧ Blk W w.heap.size 28 #[.int .i64 m.seed, .float .f64 m.fin, m.dl.val, m.pl.val, m.ll.val, m.il.val] ∧
    Blk W (w.heap.size + 1) 28 #[.int .i64 m'.seed, .float .f64 m'.fin, m'.dl.val, m'.pl.val, m'.ll.val, m'.il.val] ∧ m.At W ∧ m'.At W
theorem SameC.out (w : World) (m m' : Mdl) : Outlives (SameC w m m') := fun _ _ h hb => ⟨below_after h.1 hb, h.2.1.below hb h.2.1.lt, h.2.2.1.below hb h.2.2.1.lt, h.2.2.2.1.below hb, h.2.2.2.2.below hb⟩
theorem SameC.start (w : World) (m m' : Mdl) (h : m.At w) (h' : m'.At w) : SameC w m m' (World.drew ((w.alloc (.cells #[.int .i64 m.seed, .float .f64 m.fin, m.dl.val, m.pl.val, m.ll.val, m.il.val] 28)).alloc (.cells #[.int .i64 m'.seed, .float .f64 m'.fin, m'.dl.val, m'.pl.val, m'.ll.val, m'.il.val] 28))) := by
  obtain ⟨hX, hY, hb⟩ := two_boxes w 28 #[.int .i64 m.seed, .float .f64 m.fin, m.dl.val, m.pl.val, m.ll.val, m.il.val] #[.int .i64 m'.seed, .float .f64 m'.fin, m'.dl.val, m'.pl.val, m'.ll.val, m'.il.val]
  exact ⟨hb.drew, hX.drew, hY.drew, Mdl.At.below h hb.drew, Mdl.At.below h' hb.drew⟩
set_option maxHeartbeats 800000 in
theorem samel_one (m m' : Mdl) (w : World) (h : m.At w) (h' : m'.At w) (q : L05.lightB m = false) : Calls Try.prog 5 #[m.val, m'.val] w fun e w' => e = .returned (.bool true) ∧ Below w.heap.size w w' := by
  have hli := fun w (h : m.At w) => L05.light_any m w h
  have hli' := fun w (h : m'.At w) => L05.light_any m' w h
  have hs := fun w (h : m.At w) (h' : m'.At w) => same_any m m' w h h'
  have hs2 := fun w (h : m.At w) (h' : m'.At w) => same_any m' m w h' h
  have hs3 := fun w (h : m.At w) => same_any m m w h h
  have hr := fun w (h : m.At w) (h' : m'.At w) => rsame_any m m' w h h'
  simp only [q] at hli
  clear hli'
  simp only [sameB_comm m' m] at hs2
  simp only [sameB_self] at hs3
  generalize sameB m m' = S at *
  clear q
  obtain ⟨p, hp⟩ : ∃ p : World → Prop, p = SameC w m m' := ⟨_, rfl⟩
  have hO : Outlives p := by rw [hp]; exact SameC.out w m m'
  have hb : ∀ i : Wo p, Below w.heap.size w i.W := fun i => (show SameC w m m' i.W from hp ▸ i.ok).1
  have hA : ∀ i : Wo p, m.At i.W := fun i => (show SameC w m m' i.W from hp ▸ i.ok).2.2.2.1
  have hA' : ∀ i : Wo p, m'.At i.W := fun i => (show SameC w m m' i.W from hp ▸ i.ok).2.2.2.2
  have hX : ∀ i : Wo p, Blk i.W w.heap.size _ _ := fun i => (show SameC w m m' i.W from hp ▸ i.ok).2.1
  have hY : ∀ i : Wo p, Blk i.W (w.heap.size + 1) _ _ := fun i => (show SameC w m m' i.W from hp ▸ i.ok).2.2.1
  have h0 : p (World.drew ((w.alloc (.cells #[.int .i64 m.seed, .float .f64 m.fin, m.dl.val, m.pl.val, m.ll.val, m.il.val] 28)).alloc (.cells #[.int .i64 m'.seed, .float .f64 m'.fin, m'.dl.val, m'.pl.val, m'.ll.val, m'.il.val] 28))) := by
    rw [hp]
    exact SameC.start w m m' h h'
  clear hp h h'
  obtain ⟨seed, fin, ⟨dA, dc, dl⟩, ⟨pA, pc, pl⟩, ⟨lA, lc, ll⟩, ⟨iA, ic, il⟩⟩ := m
  obtain ⟨seed', fin', ⟨dA', dc', dl'⟩, ⟨pA', pc', pl'⟩, ⟨lA', lc', ll'⟩, ⟨iA', ic', il'⟩⟩ := m'
  simp only [Sl.val, Mdl.val] at *
  have k0 := fun i => (hX i).cell 0
  have j0 := fun i => (hY i).cell 0
  have k1 := fun i => (hX i).cell 1
  have j1 := fun i => (hY i).cell 1
  have k2 := fun i => (hX i).cell 2
  have j2 := fun i => (hY i).cell 2
  have k3 := fun i => (hX i).cell 3
  have j3 := fun i => (hY i).cell 3
  have k4 := fun i => (hX i).cell 4
  have j4 := fun i => (hY i).cell 4
  have k5 := fun i => (hX i).cell 5
  have j5 := fun i => (hY i).cell 5
  have HX := hide hX
  have HY := hide hY
  have HB := hide hb
  have HA := hide hA
  have HA' := hide hA'
  have HO := hide hO
  have H0 := hide h0
  have hne : Nonempty (Wo p) := ⟨⟨_, h0⟩⟩
  clear hX hY hb hA hA' hO h0
  go_enter Try.func5, Try.ntmps5
  go_wp2_with fail
  refine wp_region_quietC (by kernel_rfl) (by kernel_rfl) H0.out ?_
  repeat (go_big_quiet_step (first
    | (go_at_call 13; exact Calls.quietC HO.out (awake05 _))
    | (go_at_call 14; exact Calls.quietC HO.out (hli _ (HA.out _)))))
  refine wpQuiet_nil ?_
  intro _ hw'
  obtain ⟨i, rfl⟩ := hw'
  go_wp2
  go_ret
  exact ⟨ret_bool (by simp), HB.out i⟩
set_option maxHeartbeats 800000 in
theorem samel_two (m m' : Mdl) (w : World) (h : m.At w) (h' : m'.At w) (q : L05.lightB m = true) (q' : L05.lightB m' = false) : Calls Try.prog 5 #[m.val, m'.val] w fun e w' => e = .returned (.bool true) ∧ Below w.heap.size w w' := by
  have hli := fun w (h : m.At w) => L05.light_any m w h
  have hli' := fun w (h : m'.At w) => L05.light_any m' w h
  have hs := fun w (h : m.At w) (h' : m'.At w) => same_any m m' w h h'
  have hs2 := fun w (h : m.At w) (h' : m'.At w) => same_any m' m w h' h
  have hs3 := fun w (h : m.At w) => same_any m m w h h
  have hr := fun w (h : m.At w) (h' : m'.At w) => rsame_any m m' w h h'
  simp only [q] at hli
  simp only [q'] at hli'
  simp only [sameB_comm m' m] at hs2
  simp only [sameB_self] at hs3
  generalize sameB m m' = S at *
  clear q q'
  obtain ⟨p, hp⟩ : ∃ p : World → Prop, p = SameC w m m' := ⟨_, rfl⟩
  have hO : Outlives p := by rw [hp]; exact SameC.out w m m'
  have hb : ∀ i : Wo p, Below w.heap.size w i.W := fun i => (show SameC w m m' i.W from hp ▸ i.ok).1
  have hA : ∀ i : Wo p, m.At i.W := fun i => (show SameC w m m' i.W from hp ▸ i.ok).2.2.2.1
  have hA' : ∀ i : Wo p, m'.At i.W := fun i => (show SameC w m m' i.W from hp ▸ i.ok).2.2.2.2
  have hX : ∀ i : Wo p, Blk i.W w.heap.size _ _ := fun i => (show SameC w m m' i.W from hp ▸ i.ok).2.1
  have hY : ∀ i : Wo p, Blk i.W (w.heap.size + 1) _ _ := fun i => (show SameC w m m' i.W from hp ▸ i.ok).2.2.1
  have h0 : p (World.drew ((w.alloc (.cells #[.int .i64 m.seed, .float .f64 m.fin, m.dl.val, m.pl.val, m.ll.val, m.il.val] 28)).alloc (.cells #[.int .i64 m'.seed, .float .f64 m'.fin, m'.dl.val, m'.pl.val, m'.ll.val, m'.il.val] 28))) := by
    rw [hp]
    exact SameC.start w m m' h h'
  clear hp h h'
  obtain ⟨seed, fin, ⟨dA, dc, dl⟩, ⟨pA, pc, pl⟩, ⟨lA, lc, ll⟩, ⟨iA, ic, il⟩⟩ := m
  obtain ⟨seed', fin', ⟨dA', dc', dl'⟩, ⟨pA', pc', pl'⟩, ⟨lA', lc', ll'⟩, ⟨iA', ic', il'⟩⟩ := m'
  simp only [Sl.val, Mdl.val] at *
  have k0 := fun i => (hX i).cell 0
  have j0 := fun i => (hY i).cell 0
  have k1 := fun i => (hX i).cell 1
  have j1 := fun i => (hY i).cell 1
  have k2 := fun i => (hX i).cell 2
  have j2 := fun i => (hY i).cell 2
  have k3 := fun i => (hX i).cell 3
  have j3 := fun i => (hY i).cell 3
  have k4 := fun i => (hX i).cell 4
  have j4 := fun i => (hY i).cell 4
  have k5 := fun i => (hX i).cell 5
  have j5 := fun i => (hY i).cell 5
  have HX := hide hX
  have HY := hide hY
  have HB := hide hb
  have HA := hide hA
  have HA' := hide hA'
  have HO := hide hO
  have H0 := hide h0
  have hne : Nonempty (Wo p) := ⟨⟨_, h0⟩⟩
  clear hX hY hb hA hA' hO h0
  go_enter Try.func5, Try.ntmps5
  go_wp2_with fail
  refine wp_region_quietC (by kernel_rfl) (by kernel_rfl) H0.out ?_
  repeat (go_big_quiet_step (first
    | (go_at_call 13; exact Calls.quietC HO.out (awake05 _))
    | (go_at_call 14; with_reducible exact Calls.quietC HO.out (hli _ (HA.out _)))
    | (go_at_call 14; with_reducible exact Calls.quietC HO.out (hli' _ (HA'.out _)))))
  refine wpQuiet_nil ?_
  intro _ hw'
  obtain ⟨i, rfl⟩ := hw'
  go_wp2
  go_ret
  exact ⟨ret_bool (by simp), HB.out i⟩
set_option maxHeartbeats 800000 in
theorem samel_all (m m' : Mdl) (w : World) (h : m.At w) (h' : m'.At w) (q : L05.lightB m = true) (q' : L05.lightB m' = true) : Calls Try.prog 5 #[m.val, m'.val] w fun e w' => e = .returned (.bool true) ∧ Below w.heap.size w w' := by
  have hli := fun w (h : m.At w) => L05.light_any m w h
  have hli' := fun w (h : m'.At w) => L05.light_any m' w h
  have hs := fun w (h : m.At w) (h' : m'.At w) => same_any m m' w h h'
  have hs2 := fun w (h : m.At w) (h' : m'.At w) => same_any m' m w h' h
  have hs3 := fun w (h : m.At w) => same_any m m w h h
  have hr := fun w (h : m.At w) (h' : m'.At w) => rsame_any m m' w h h'
  simp only [q] at hli
  simp only [q'] at hli'
  simp only [sameB_comm m' m] at hs2
  simp only [sameB_self] at hs3
  generalize sameB m m' = S at *
  clear q q'
  obtain ⟨p, hp⟩ : ∃ p : World → Prop, p = SameC w m m' := ⟨_, rfl⟩
  have hO : Outlives p := by rw [hp]; exact SameC.out w m m'
  have hb : ∀ i : Wo p, Below w.heap.size w i.W := fun i => (show SameC w m m' i.W from hp ▸ i.ok).1
  have hA : ∀ i : Wo p, m.At i.W := fun i => (show SameC w m m' i.W from hp ▸ i.ok).2.2.2.1
  have hA' : ∀ i : Wo p, m'.At i.W := fun i => (show SameC w m m' i.W from hp ▸ i.ok).2.2.2.2
  have hX : ∀ i : Wo p, Blk i.W w.heap.size _ _ := fun i => (show SameC w m m' i.W from hp ▸ i.ok).2.1
  have hY : ∀ i : Wo p, Blk i.W (w.heap.size + 1) _ _ := fun i => (show SameC w m m' i.W from hp ▸ i.ok).2.2.1
  have h0 : p (World.drew ((w.alloc (.cells #[.int .i64 m.seed, .float .f64 m.fin, m.dl.val, m.pl.val, m.ll.val, m.il.val] 28)).alloc (.cells #[.int .i64 m'.seed, .float .f64 m'.fin, m'.dl.val, m'.pl.val, m'.ll.val, m'.il.val] 28))) := by
    rw [hp]
    exact SameC.start w m m' h h'
  clear hp h h'
  obtain ⟨seed, fin, ⟨dA, dc, dl⟩, ⟨pA, pc, pl⟩, ⟨lA, lc, ll⟩, ⟨iA, ic, il⟩⟩ := m
  obtain ⟨seed', fin', ⟨dA', dc', dl'⟩, ⟨pA', pc', pl'⟩, ⟨lA', lc', ll'⟩, ⟨iA', ic', il'⟩⟩ := m'
  simp only [Sl.val, Mdl.val] at *
  have k0 := fun i => (hX i).cell 0
  have j0 := fun i => (hY i).cell 0
  have k1 := fun i => (hX i).cell 1
  have j1 := fun i => (hY i).cell 1
  have k2 := fun i => (hX i).cell 2
  have j2 := fun i => (hY i).cell 2
  have k3 := fun i => (hX i).cell 3
  have j3 := fun i => (hY i).cell 3
  have k4 := fun i => (hX i).cell 4
  have j4 := fun i => (hY i).cell 4
  have k5 := fun i => (hX i).cell 5
  have j5 := fun i => (hY i).cell 5
  have HX := hide hX
  have HY := hide hY
  have HB := hide hb
  have HA := hide hA
  have HA' := hide hA'
  have HO := hide hO
  have H0 := hide h0
  have hne : Nonempty (Wo p) := ⟨⟨_, h0⟩⟩
  clear hX hY hb hA hA' hO h0
  go_enter Try.func5, Try.ntmps5
  go_wp2_with fail
  refine wp_region_quietC (by kernel_rfl) (by kernel_rfl) H0.out ?_
  repeat (go_big_quiet_step (first
    | (go_at_call 13; exact Calls.quietC HO.out (awake05 _))
    | (go_at_call 14; with_reducible exact Calls.quietC HO.out (hli _ (HA.out _)))
    | (go_at_call 14; with_reducible exact Calls.quietC HO.out (hli' _ (HA'.out _)))
    | (go_at_call 19; with_reducible exact Calls.quietC HO.out (hs _ (HA.out _) (HA'.out _)))
    | (go_at_call 19; with_reducible exact Calls.quietC HO.out (hs2 _ (HA.out _) (HA'.out _)))
    | (go_at_call 19; with_reducible exact Calls.quietC HO.out (hs3 _ (HA.out _)))
    | (go_at_call 20; exact Calls.quietC HO.out (hr _ (HA.out _) (HA'.out _)))))
  refine wpQuiet_nil ?_
  intro _ hw'
  obtain ⟨i, rfl⟩ := hw'
  go_wp2
  go_ret
  exact ⟨ret_bool (by simp), HB.out i⟩
theorem samel_walk (m m' : Mdl) (w : World) (h : m.At w) (h' : m'.At w) : Calls Try.prog 5 #[m.val, m'.val] w fun e w' => e = .returned (.bool true) ∧ Below w.heap.size w w' := by
  cases q : L05.lightB m
  · exact samel_one m m' w h h' q
  · cases q' : L05.lightB m'
    · exact samel_two m m' w h h' q q'
    · exact samel_all m m' w h h' q q'
end Go.Proofs.Ytegegljpmelomaa
