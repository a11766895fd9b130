/- The laws of model: what must come at any rate, which models may be, which instructions, which are the same. No condition. -/
import Derived.Test.YtegegljpmelomaaRSame2
import Derived.Test.YtegegljpmelomaaLight05
import Derived.Laws.StructEq
import Derived.Test.YtegegljpmelomaaAllocs
set_option linter.unusedVariables false
set_option maxRecDepth 20000
namespace Go.Proofs.Ytegegljpmelomaa
open Go.RowKit Go.Deep

attribute [local go_sem] run_store_float
/-- The model that must be right at any rate, its delays being d, laid at block h. -/
def awM (g h d : Nat) : Mdl := ⟨0, 4621819117588971520, ⟨some ⟨h, 0, none⟩, 1, [d]⟩, ⟨some ⟨g + 1 + 1, 0, none⟩, 1, [⟨some ⟨g + 1, 0, none⟩, 1, [(0, 0, 0, 0)]⟩]⟩, ⟨some ⟨g + 1 + 1 + 1, 0, none⟩, 1, [(0, ⟨none, 0, []⟩)]⟩, ⟨none, 0, []⟩⟩
theorem rowD_one {α : Type} {d : Dec α} {size : Nat} {w : World} {a : Addr} {x : α} (h : d w a x) : RowD d size w (some a) [x] := by
  intro i y hy
  have : i = 0 := by
    rcases i with _ | i
    · rfl
    · simp at hy
  subst this
  refine ⟨a, rfl, ?_⟩
  rw [Nat.zero_mul]
  have e : a.add 0 = a := by unfold Addr.add; simp
  rw [e]
  simp at hy
  rw [← hy]
  exact h
theorem rowD_nil {α : Type} {d : Dec α} {size : Nat} {w : World} {A : Option Addr} : RowD d size w A [] := by
  intro i y hy
  simp at hy
theorem awM_at {g h d : Nat} {w : World} (hd : d < 18446744073709551616) (h0 : Blk w h 22 #[.float .f64 d]) (h1 : Blk w (g + 1) 34 #[.int .i64 0, .int .i64 0, .int .i64 0, .int .i64 0])
    (h2 : Blk w (g + 1 + 1) 38 #[.slice (some ⟨g + 1, 0, none⟩) 1 1]) (h3 : Blk w (g + 1 + 1 + 1) 41 #[.int .i64 0, .slice none 0 0]) : (awM g h d).At w := by
  have i0 : I64 0 := by decide
  have n1 : 1 ≤ 9223372036854775807 := by decide
  exact ⟨i0, show 4621819117588971520 < 18446744073709551616 by decide, ⟨rowD_one ⟨h0.cell 0, hd⟩, Nat.le_refl _, n1⟩, ⟨rowD_one ⟨h2.cell 0, ⟨rowD_one ⟨h1.cell 0, h1.cell 1, h1.cell 2, h1.cell 3, i0, i0, i0, i0⟩, Nat.le_refl _, n1⟩⟩, Nat.le_refl _, n1⟩, ⟨rowD_one ⟨h3.cell 0, h3.cell 1, i0, rowD_nil, Nat.le_refl _, Nat.zero_le _⟩, Nat.le_refl _, n1⟩, ⟨rowD_nil, Nat.le_refl _, Nat.zero_le _⟩⟩
theorem awM_good (g h : Nat) : chkE (awM g h 4607182418800017408) = 0 := by
  have : chkB (awM g h 4607182418800017408) = true := by
    show (true && !decide (isNan 4621819117588971520) && [4607182418800017408].all posB && true && true && true) = true
    decide
  unfold chkE
  rw [this]
  rfl
theorem awM_bad (g h : Nat) : chkE (awM g h 0) = 15 := by
  have : chkB (awM g h 0) = false := by
    rw [chkB_eq]
    have : (awM g h 0).dl.L.all posB = false := by
      show [0].all posB = false
      decide
    rw [this]
    simp
  unfold chkE
  rw [this]
  rfl
theorem eqL_self {α : Type} {f : α → α → Bool} (hf : ∀ x, f x x = true) (L : List α) : eqL f L L = true := by
  unfold eqL
  rw [decide_eq_true rfl, Bool.true_and, List.all_eq_true]
  intro p hp
  obtain ⟨i, hi, h⟩ := List.getElem_of_mem hp
  rw [List.getElem_zip] at h
  rw [← h]
  exact hf _
theorem initSame_self (x : Init3) : initSame x x = true := by simp [initSame, fsame_eq]
theorem progSame_self (x : Sl Ins4) : progSame x x = true := eqL_self (by simp) _
theorem lpSame_self (x : LP2) : lpSame x x = true := by
  unfold lpSame
  rw [eqL_self (by simp)]
  simp
theorem sameB_self (m : Mdl) : sameB m m = true := by
  unfold sameB
  rw [fsame_eq, eqL_self fsame_eq, eqL_self initSame_self, eqL_self progSame_self, eqL_self lpSame_self]
  simp
theorem rcheck_any (m : Mdl) (w : World) (h : m.At w) : Calls Try.prog 16 #[m.val] w fun e w' => e = .returned (.int .i64 (chkE m)) ∧ Below w.heap.size w w' := by
  by_cases hn : isNan m.fin
  · exact rcheck_bad m w h (.inr hn)
  · cases hc : countsB m
    · exact rcheck_bad m w h (.inl hc)
    · exact rcheck_good m w h hc hn
theorem awake05 (w : World) : Calls Try.prog 13 #[] w fun e w' => e = .returned (.bool true) ∧ Below w.heap.size w w' := by
  go_enter Try.func13, Try.ntmps13
  go_wp2_with fail
  have hb := allocs_below [(#[.float .f64 4607182418800017408], 22), (#[.int .i64 0, .int .i64 0, .int .i64 0, .int .i64 0], 34), (#[.slice (some ⟨w.heap.size + 1, 0, none⟩) 1 1], 38), (#[.int .i64 0, .slice none 0 0], 41), (#[.int .i64 0, .float .f64 4621819117588971520, .slice (some ⟨w.heap.size, 0, none⟩) 1 1, .slice (some ⟨w.heap.size + 1 + 1, 0, none⟩) 1 1, .slice (some ⟨w.heap.size + 1 + 1 + 1, 0, none⟩) 1 1, .slice none 0 0], 28)] w
  have hB := allocs_blk [(#[.float .f64 4607182418800017408], 22), (#[.int .i64 0, .int .i64 0, .int .i64 0, .int .i64 0], 34), (#[.slice (some ⟨w.heap.size + 1, 0, none⟩) 1 1], 38), (#[.int .i64 0, .slice none 0 0], 41), (#[.int .i64 0, .float .f64 4621819117588971520, .slice (some ⟨w.heap.size, 0, none⟩) 1 1, .slice (some ⟨w.heap.size + 1 + 1, 0, none⟩) 1 1, .slice (some ⟨w.heap.size + 1 + 1 + 1, 0, none⟩) 1 1, .slice none 0 0], 28)] w
  have hz := allocs_size [(#[.float .f64 4607182418800017408], 22), (#[.int .i64 0, .int .i64 0, .int .i64 0, .int .i64 0], 34), (#[.slice (some ⟨w.heap.size + 1, 0, none⟩) 1 1], 38), (#[.int .i64 0, .slice none 0 0], 41), (#[.int .i64 0, .float .f64 4621819117588971520, .slice (some ⟨w.heap.size, 0, none⟩) 1 1, .slice (some ⟨w.heap.size + 1 + 1, 0, none⟩) 1 1, .slice (some ⟨w.heap.size + 1 + 1 + 1, 0, none⟩) 1 1, .slice none 0 0], 28)] w
  have b0 := hB 0 _ rfl
  have b1 := hB 1 _ rfl
  have b2 := hB 2 _ rfl
  have b3 := hB 3 _ rfl
  have b4 := hB 4 _ rfl
  clear hB hz
  refine (check_any (awM w.heap.size w.heap.size 4607182418800017408) (allocs w [(#[.float .f64 4607182418800017408], 22), (#[.int .i64 0, .int .i64 0, .int .i64 0, .int .i64 0], 34), (#[.slice (some ⟨w.heap.size + 1, 0, none⟩) 1 1], 38), (#[.int .i64 0, .slice none 0 0], 41), (#[.int .i64 0, .float .f64 4621819117588971520, .slice (some ⟨w.heap.size, 0, none⟩) 1 1, .slice (some ⟨w.heap.size + 1 + 1, 0, none⟩) 1 1, .slice (some ⟨w.heap.size + 1 + 1 + 1, 0, none⟩) 1 1, .slice none 0 0], 28)]) (awM_at (by decide) b0 b1 b2 b3)).mono ?_
  rw [awM_good]
  rintro e w2 ⟨rfl, hb2⟩
  have b1 := b1.below hb2 b1.lt
  have b2 := b2.below hb2 b2.lt
  have b3 := b3.below hb2 b3.lt
  have b4 := b4.below hb2 b4.lt
  have hb := below_after hb hb2
  clear hb2 b0
  have b4 : Blk w2 (w.heap.size + 1 + 1 + 1 + 1) 28 _ := b4
  have hlt2 := b4.lt
  have b4 := b4.alloc (.cells #[.float .f64 0] 22)
  have b1 := b1.alloc (.cells #[.float .f64 0] 22)
  have b2 := b2.alloc (.cells #[.float .f64 0] 22)
  have b3 := b3.alloc (.cells #[.float .f64 0] 22)
  have b0 := Blk.new w2 22 #[.float .f64 0]
  have hb := hb.alloc hb.size (.cells #[.float .f64 0] 22)
  have c2 := b4.cell 2
  have f2 := b4.frozen 2
  have hg := b4.lt
  have hg1 := hb.size
  have e4 := b4.set_ 2 (.slice (some ⟨w2.heap.size, 0, none⟩) 1 1)
  have e0 := b0.far (p := ⟨w.heap.size + 1 + 1 + 1 + 1, 2, none⟩) (by simp only; omega) (.slice (some ⟨w2.heap.size, 0, none⟩) 1 1)
  have e1 := b1.far (p := ⟨w.heap.size + 1 + 1 + 1 + 1, 2, none⟩) (by simp only; omega) (.slice (some ⟨w2.heap.size, 0, none⟩) 1 1)
  have e2 := b2.far (p := ⟨w.heap.size + 1 + 1 + 1 + 1, 2, none⟩) (by simp only; omega) (.slice (some ⟨w2.heap.size, 0, none⟩) 1 1)
  have e3 := b3.far (p := ⟨w.heap.size + 1 + 1 + 1 + 1, 2, none⟩) (by simp only; omega) (.slice (some ⟨w2.heap.size, 0, none⟩) 1 1)
  have hb3 := hb.setCell (p := ⟨w.heap.size + 1 + 1 + 1 + 1, 2, none⟩) (by simp only; omega) (.slice (some ⟨w2.heap.size, 0, none⟩) 1 1)
  have k0 := e4.cell 0
  have k1 := e4.cell 1
  have k2 := e4.cell 2
  have k3 := e4.cell 3
  have k4 := e4.cell 4
  have k5 := e4.cell 5
  clear hg hg1 hlt2 b0 b1 b2 b3 b4
  go_wp2_with fail
  refine (check_any (awM w.heap.size w2.heap.size 0) _ (awM_at (by decide) e0 e1 e2 e3)).mono ?_
  rw [awM_bad]
  rintro e w3 ⟨rfl, hb4⟩
  clear c2 f2 k0 k1 k2 k3 k4 k5
  have e0 := e0.below hb4 e0.lt
  have e1 := e1.below hb4 e1.lt
  have e2 := e2.below hb4 e2.lt
  have e3 := e3.below hb4 e3.lt
  have e4 := e4.below hb4 e4.lt
  have hb := below_after hb3 hb4
  clear hb3 hb4
  have k0 := e4.cell 0
  have k1 := e4.cell 1
  have k2 := e4.cell 2
  have k3 := e4.cell 3
  have k4 := e4.cell 4
  have k5 := e4.cell 5
  go_wp2_with fail
  refine (ins_any _ _ _ _ _ _).mono ?_
  rw [show insB 9 1 0 0 1 = true from rfl]
  rintro e w4 ⟨rfl, hb5⟩
  have e0 := e0.below hb5 e0.lt
  have e1 := e1.below hb5 e1.lt
  have e2 := e2.below hb5 e2.lt
  have e3 := e3.below hb5 e3.lt
  have e4 := e4.below hb5 e4.lt
  have hb := below_after hb hb5
  clear hb5 k0 k1 k2 k3 k4 k5
  have k0 := e4.cell 0
  have k1 := e4.cell 1
  have k2 := e4.cell 2
  have k3 := e4.cell 3
  have k4 := e4.cell 4
  have k5 := e4.cell 5
  go_wp2_with fail
  have hat := awM_at (h := w2.heap.size) (d := 0) (by decide) e0 e1 e2 e3
  refine (same_any (awM w.heap.size w2.heap.size 0) (awM w.heap.size w2.heap.size 0) _ hat hat).mono ?_
  rw [sameB_self]
  rintro e w5 ⟨rfl, hb6⟩
  clear k0 k1 k2 k3 k4 k5
  go_wp2_with fail
  go_ret
  exact ⟨rfl, below_after hb hb6⟩

theorem insl_walk (op a b c len : Int) (w : World) : Calls Try.prog 4 #[.agg #[.int .i64 op, .int .i64 a, .int .i64 b, .int .i64 c], .int .i64 len] w fun e w' => e = .returned (.bool true) ∧ Below w.heap.size w w' := by
  have hX := Blk.new w 34 #[.int .i64 op, .int .i64 a, .int .i64 b, .int .i64 c]
  have hb : Below w.heap.size w (w.alloc (.cells #[.int .i64 op, .int .i64 a, .int .i64 b, .int .i64 c] 34)) := (Below.refl _ _).alloc (Nat.le_refl _) _
  go_enter Try.func4, Try.ntmps4
  go_wp2_with fail
  generalize w.alloc (.cells #[.int .i64 op, .int .i64 a, .int .i64 b, .int .i64 c] 34) = w1 at *
  have k0 := hX.cell 0
  have k1 := hX.cell 1
  have k2 := hX.cell 2
  have k3 := hX.cell 3
  have hb' : Below w.heap.size w w1.drew := hb.drew
  clear hX hb
  go_region_held3 (fun w' => w'.cell? ⟨w.heap.size, 0, none⟩ = some (.int .i64 op) ∧ w'.cell? ⟨w.heap.size, 1, none⟩ = some (.int .i64 a) ∧ w'.cell? ⟨w.heap.size, 2, none⟩ = some (.int .i64 b) ∧ w'.cell? ⟨w.heap.size, 3, none⟩ = some (.int .i64 c))
    (first
      | go_keep
      | (go_split_ands; exact ⟨keepc hbA (by assumption), keepc hbA (by assumption), keepc hbA (by assumption), keepc hbA (by assumption)⟩)
      | (go_split_ands; exact ⟨keepc hbP (by assumption), keepc hbP (by assumption), keepc hbP (by assumption), keepc hbP (by assumption)⟩)
      | (go_split_ands; exact ⟨keepc hbR (by assumption), keepc hbR (by assumption), keepc hbR (by assumption), keepc hbR (by assumption)⟩))
    (first
      | (go_at_call 13; refine (awake05 _).mono ?_; rintro e wA ⟨rfl, hbA⟩; obtain ⟨hcA, hfA⟩ := bcell hbA)
      | (go_at_call 17; refine (ins_any _ _ _ _ _ _).mono ?_; rintro e wP ⟨rfl, hbP⟩; obtain ⟨hcP, hfP⟩ := bcell hbP)
      | (go_at_call 18; refine (rins_any _ _ _ _ _ _).mono ?_; rintro e wR ⟨rfl, hbR⟩; obtain ⟨hcR, hfR⟩ := bcell hbR))
  go_wp2
  go_ret
  exact ⟨ret_bool (by simp), below_after (below_after (below_after hb' hbA) hbP) hbR⟩
set_option maxHeartbeats 800000 in
theorem checks_walk (m : Mdl) (w : World) (h : m.At w) : Calls Try.prog 3 #[m.val] w fun e w' => e = .returned (.bool true) ∧ Below w.heap.size w w' := by
  have hli := fun w (h : m.At w) => L05.light_any m w h
  have hch := fun w (h : m.At w) => check_any m w h
  have hrc := fun w (h : m.At w) => rcheck_any m w h
  obtain ⟨seed, fin, ⟨dA, dc, dl⟩, ⟨pA, pc, pl⟩, ⟨lA, lc, ll⟩, ⟨iA, ic, il⟩⟩ := m
  have hX := Blk.new w 28 #[.int .i64 seed, .float .f64 fin, .slice dA dl.length dc, .slice pA pl.length pc, .slice lA ll.length lc, .slice iA il.length ic]
  have hb : Below w.heap.size w (w.alloc (.cells #[.int .i64 seed, .float .f64 fin, .slice dA dl.length dc, .slice pA pl.length pc, .slice lA ll.length lc, .slice iA il.length ic] 28)) := (Below.refl _ _).alloc (Nat.le_refl _) _
  have h := h.below hb
  simp only [Sl.val, Mdl.val] at *
  cases hq : L05.lightB ⟨seed, fin, ⟨dA, dc, dl⟩, ⟨pA, pc, pl⟩, ⟨lA, lc, ll⟩, ⟨iA, ic, il⟩⟩
  · simp only [hq] at hli
    go_enter Try.func3, Try.ntmps3
    go_wp2_with fail
    generalize w.alloc (.cells #[.int .i64 seed, .float .f64 fin, .slice dA dl.length dc, .slice pA pl.length pc, .slice lA ll.length lc, .slice iA il.length ic] 28) = w1 at *
    have k0 := hX.cell 0
    have k1 := hX.cell 1
    have k2 := hX.cell 2
    have k3 := hX.cell 3
    have k4 := hX.cell 4
    have k5 := hX.cell 5
    have hb' : Below w.heap.size w w1.drew := hb.drew
    have h' : Mdl.At w1.drew ⟨seed, fin, ⟨dA, dc, dl⟩, ⟨pA, pc, pl⟩, ⟨lA, lc, ll⟩, ⟨iA, ic, il⟩⟩ := h
    clear hX hb hch hrc hq
    go_region_with (first
      | (go_at_call 13; refine (awake05 _).mono ?_; rintro e wA ⟨rfl, hbA⟩; have kA0 := keepc hbA k0; have kA1 := keepc hbA k1; have kA2 := keepc hbA k2; have kA3 := keepc hbA k3; have kA4 := keepc hbA k4; have kA5 := keepc hbA k5)
      | (go_at_call 14; refine (hli _ (h'.below hbA)).mono ?_; rintro e wL ⟨rfl, hbL⟩))
    all_goals
      go_wp2
      go_ret
      exact ⟨rfl, below_after (below_after hb' hbA) hbL⟩
  · simp only [hq] at hli
    generalize chkE ⟨seed, fin, ⟨dA, dc, dl⟩, ⟨pA, pc, pl⟩, ⟨lA, lc, ll⟩, ⟨iA, ic, il⟩⟩ = E at *
    go_enter Try.func3, Try.ntmps3
    go_wp2_with fail
    generalize w.alloc (.cells #[.int .i64 seed, .float .f64 fin, .slice dA dl.length dc, .slice pA pl.length pc, .slice lA ll.length lc, .slice iA il.length ic] 28) = w1 at *
    have k0 := hX.cell 0
    have k1 := hX.cell 1
    have k2 := hX.cell 2
    have k3 := hX.cell 3
    have k4 := hX.cell 4
    have k5 := hX.cell 5
    have hb' : Below w.heap.size w w1.drew := hb.drew
    have h' : Mdl.At w1.drew ⟨seed, fin, ⟨dA, dc, dl⟩, ⟨pA, pc, pl⟩, ⟨lA, lc, ll⟩, ⟨iA, ic, il⟩⟩ := h
    clear hX hb
    go_region_held3 (fun w' => w'.cell? ⟨w.heap.size, 0, none⟩ = some (.int .i64 seed) ∧ w'.cell? ⟨w.heap.size, 1, none⟩ = some (.float .f64 fin) ∧ w'.cell? ⟨w.heap.size, 2, none⟩ = some (.slice dA dl.length dc) ∧ w'.cell? ⟨w.heap.size, 3, none⟩ = some (.slice pA pl.length pc) ∧ w'.cell? ⟨w.heap.size, 4, none⟩ = some (.slice lA ll.length lc) ∧ w'.cell? ⟨w.heap.size, 5, none⟩ = some (.slice iA il.length ic) ∧ Mdl.At w' ⟨seed, fin, ⟨dA, dc, dl⟩, ⟨pA, pc, pl⟩, ⟨lA, lc, ll⟩, ⟨iA, ic, il⟩⟩)
      (first
        | (go_split_ands; exact ⟨by assumption, by assumption, by assumption, by assumption, by assumption, by assumption, by assumption⟩)
        | (go_split_ands; exact ⟨keepc hbR (by assumption), keepc hbR (by assumption), keepc hbR (by assumption), keepc hbR (by assumption), keepc hbR (by assumption), keepc hbR (by assumption), Mdl.At.below (by assumption) hbR⟩)
        | (go_split_ands; exact ⟨keepc hbC (by assumption), keepc hbC (by assumption), keepc hbC (by assumption), keepc hbC (by assumption), keepc hbC (by assumption), keepc hbC (by assumption), Mdl.At.below (by assumption) hbC⟩)
        | (go_split_ands; exact ⟨keepc hbL (by assumption), keepc hbL (by assumption), keepc hbL (by assumption), keepc hbL (by assumption), keepc hbL (by assumption), keepc hbL (by assumption), Mdl.At.below (by assumption) hbL⟩)
        | (go_split_ands; exact ⟨keepc hbA (by assumption), keepc hbA (by assumption), keepc hbA (by assumption), keepc hbA (by assumption), keepc hbA (by assumption), keepc hbA (by assumption), Mdl.At.below (by assumption) hbA⟩))
      (first
        | (go_at_call 13; refine (awake05 _).mono ?_; rintro e wA ⟨rfl, hbA⟩; obtain ⟨hcA, hfA⟩ := bcell hbA)
        | (go_at_call 14; go_split_ands; refine (hli _ (by assumption)).mono ?_; rintro e wL ⟨rfl, hbL⟩; obtain ⟨hcL, hfL⟩ := bcell hbL)
        | (go_at_call 15; go_split_ands; refine (hch _ (by assumption)).mono ?_; rintro e wC ⟨rfl, hbC⟩; obtain ⟨hcC, hfC⟩ := bcell hbC)
        | (go_at_call 16; go_split_ands; refine (hrc _ (by assumption)).mono ?_; rintro e wR ⟨rfl, hbR⟩; obtain ⟨hcR, hfR⟩ := bcell hbR))
    go_wp2
    go_ret
    exact ⟨ret_bool (by simp), below_after (below_after (below_after (below_after hb' hbA) hbL) hbC) hbR⟩
end Go.Proofs.Ytegegljpmelomaa
