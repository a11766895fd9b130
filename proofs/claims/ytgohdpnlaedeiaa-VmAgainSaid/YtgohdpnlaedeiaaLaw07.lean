/- The walks of law07's awake and few; what holds of every output, plainly. No condition. -/
import Derived.Test.YtgohdpnlaedeiaaRv6
set_option linter.unusedVariables false
set_option linter.unusedSimpArgs false
set_option maxRecDepth 20000
namespace Go.Proofs.Ytgohdpnlaedeiaa
open Go.RowKit Go.Deep

/-- A row that was made out of a list. -/
theorem made_row {α : Type} {d : Dec α} {enc : α → List Value} {ok : World → α → Prop} {e : TypeId} {size g : Nat} (hsz : 0 < size) (hlen : ∀ x, (enc x).length = size) (hm : Makes d enc ok) {w : World} {L : List α} (hB : Blk w g e (L.flatMap enc).toArray) (hok : ∀ x ∈ L, ok w x) (hl : L.length ≤ 9223372036854775807) :
    (⟨some ⟨g, 0, none⟩, L.length, L⟩ : Sl α).At d size w := by
  refine ⟨fun i x hx => ⟨_, rfl, ?_⟩, Nat.le_refl _, hl⟩
  have hadd : (⟨g, 0, none⟩ : Addr).add (i * size) = ⟨g, i * size, none⟩ := by unfold Addr.add; split <;> simp_all
  rw [hadd]
  refine hm w g (i * size) x (hok x (List.mem_of_getElem? hx)) fun r u hu => ?_
  have hr : r < size := by
    have := (List.getElem?_eq_some_iff.1 hu).1
    rwa [hlen] at this
  refine (hB.cell _).trans ?_
  rw [List.getElem?_toArray, flatMap_at enc size hsz hlen L i r x hx hr]
  exact hu
theorem made_prog {w : World} {g : Nat} (L : List Ins4) (hB : Blk w g 39 (L.flatMap encIns).toArray) (hok : ∀ x ∈ L, I64 x.1 ∧ I64 x.2.1 ∧ I64 x.2.2.1 ∧ I64 x.2.2.2) (hl : L.length ≤ 9223372036854775807) : (⟨some ⟨g, 0, none⟩, L.length, L⟩ : Sl Ins4).At InsAt 4 w :=
  made_row (ok := fun _ x => I64 x.1 ∧ I64 x.2.1 ∧ I64 x.2.2.1 ∧ I64 x.2.2.2) (enc := encIns) (by decide) (fun _ => rfl) makes_ins hB hok hl
theorem made_ints {w : World} {g : Nat} (L : List Int) (hB : Blk w g 3 (L.flatMap encInt).toArray) (hok : ∀ x ∈ L, I64 x) (hl : L.length ≤ 9223372036854775807) : (⟨some ⟨g, 0, none⟩, L.length, L⟩ : Sl Int).At IntAt 1 w :=
  made_row (ok := fun _ x => I64 x) (enc := encInt) (by decide) (fun _ => rfl) makes_int hB hok hl
def P1 : List Ins4 := [(13, 4, 5, 0), (3, 4, 4, 0), (14, 5, 4, 0)]
def P2 : List Ins4 := [(9, 0, 0, 0)]
set_option maxHeartbeats 4000000 in
theorem awake07 (w : World) : Calls Try.prog 9 #[] w fun e w' => e = .returned (.bool true) ∧ Below w.heap.size w w' := by
  have hB1 := Blk.new w 39 #[.int .i64 13, .int .i64 4, .int .i64 5, .int .i64 0, .int .i64 3, .int .i64 4, .int .i64 4, .int .i64 0, .int .i64 14, .int .i64 5, .int .i64 4, .int .i64 0]
  have hb : Below w.heap.size w (w.alloc (.cells #[.int .i64 13, .int .i64 4, .int .i64 5, .int .i64 0, .int .i64 3, .int .i64 4, .int .i64 4, .int .i64 0, .int .i64 14, .int .i64 5, .int .i64 4, .int .i64 0] 39)) := (Below.refl _ _).alloc (Nat.le_refl _) _
  go_enter Try.func9, Try.ntmps9
  go_upto_region 2 with fail
  generalize w.alloc _ = w1 at *
  generalize hg1 : w.heap.size = g1 at *
  have hB2 := Blk.new w1 3 #[.int .i64 3]
  have hb2 := hb.alloc (by rw [← hg1]; rw [← hg1] at hb; exact hb.size) (.cells #[.int .i64 3] 3)
  replace hB1 := hB1.alloc (.cells #[.int .i64 3] 3)
  go_wp2_with fail
  generalize w1.alloc (.cells #[.int .i64 3] 3) = w2 at *
  generalize w1.heap.size = g2 at *
  have hp : (⟨some ⟨g1, 0, none⟩, 3, P1⟩ : Sl Ins4).At InsAt 4 w2 := made_prog P1 hB1 (by decide) (by decide)
  have hi : (⟨⟨some ⟨g2, 0, none⟩, 1, [3]⟩, 4, 0, 1, 0, 0⟩ : Inp).At w2 := ⟨made_ints [3] hB2 (by decide) (by decide), (show I64 (4 : Int) by decide), (show I64 (0 : Int) by decide), (show I64 (1 : Int) by decide), (show I64 (0 : Int) by decide), (show I64 (0 : Int) by decide)⟩
  have e1 : vmay P1 1 = 0 := by decide +kernel
  have e2 : outV P1 [3] 4 0 1 0 0 = ([7], [], 0, 0) := by decide +kernel
  have hr : Calls Try.prog 10 #[.slice (some ⟨g1, 0, none⟩) 3 3, .agg #[.slice (some ⟨g2, 0, none⟩) 1 1, .int .i64 4, .int .i64 0, .int .i64 1, .int .i64 0, .int .i64 0]] w2 (RunTo w2 (vmay P1 1) (outV P1 [3] 4 0 1 0 0)) := run_any w2 ⟨some ⟨g1, 0, none⟩, 3, P1⟩ ⟨⟨some ⟨g2, 0, none⟩, 1, [3]⟩, 4, 0, 1, 0, 0⟩ hp hi
  rw [e1, e2] at hr
  clear e1 e2
  have HR := hide hr
  clear hr hp hi hB1 hB2
  refine HR.out.mono ?_
  rintro e w3 ⟨v, rfl, ⟨A, c, A', c', rfl, ho, _⟩, h3⟩
  clear HR
  have hbw := hb2.trans (h3.mono (by rw [← hg1] at hb2; rw [← hg1]; exact hb2.size))
  have hg3 : g1 ≤ w3.heap.size := by rw [← hg1] at hbw ⊢; exact hbw.size
  -- the first output's word
  obtain ⟨g, hgA⟩ : ∃ g, A = some ⟨g, 0, none⟩ := by
    obtain ⟨sl, hv, hL, _, hf⟩ := ho.form
    obtain ⟨g, hA, _⟩ := hf (by simp)
    refine ⟨g, ?_⟩
    unfold Sl.val at hv
    injection hv with hv
    rw [hv, hA]
  subst hgA
  have hc7 : w3.cell? ⟨g, 0, none⟩ = some (.int .i64 7) := by
    unfold OwnR at ho
    exact ho.cellAt 0 (by decide)
  have hglt := cell_lt hc7
  clear ho h3 hb hb2
  have HB := hide hbw
  have hX1 := Blk.new w3 30 #[.slice (some ⟨g, 0, none⟩) 1 c, .slice A' 0 c', .int .i64 0, .int .i64 0]
  clear hbw
  have hb3 := HB.out.alloc hg3 (.cells #[.slice (some ⟨g, 0, none⟩) 1 c, .slice A' 0 c', .int .i64 0, .int .i64 0] 30)
  have hc8 := (World.cell?_alloc_lt w3 (.cells #[.slice (some ⟨g, 0, none⟩) 1 c, .slice A' 0 c', .int .i64 0, .int .i64 0] 30) ⟨g, 0, none⟩ hglt).trans hc7
  clear HB hc7 hglt
  go_upto_region 3 with fail
  generalize w3.alloc _ = w4 at *
  generalize w3.heap.size = x1 at *
  -- the second run
  have hB2 := Blk.new w4 39 #[.int .i64 9, .int .i64 0, .int .i64 0, .int .i64 0]
  have hb4 := hb3.alloc (by have := hX1.lt; omega) (.cells #[.int .i64 9, .int .i64 0, .int .i64 0, .int .i64 0] 39)
  have hX2 := hX1.alloc (.cells #[.int .i64 9, .int .i64 0, .int .i64 0, .int .i64 0] 39)
  have hc9 := (World.cell?_alloc_lt w4 (.cells #[.int .i64 9, .int .i64 0, .int .i64 0, .int .i64 0] 39) ⟨g, 0, none⟩ (cell_lt hc8)).trans hc8
  clear hb3 hX1 hc8
  go_wp2_with fail
  generalize w4.alloc (.cells #[.int .i64 9, .int .i64 0, .int .i64 0, .int .i64 0] 39) = w5 at *
  generalize w4.heap.size = g3 at *
  have hp : (⟨some ⟨g3, 0, none⟩, 1, P2⟩ : Sl Ins4).At InsAt 4 w5 := made_prog P2 hB2 (by decide) (by decide)
  have hi : (⟨⟨none, 0, []⟩, 0, 0, 0, 0, 0⟩ : Inp).At w5 := ⟨⟨fun i x hx => by simp at hx, Nat.le_refl _, by decide⟩, (show I64 (0 : Int) by decide), (show I64 (0 : Int) by decide), (show I64 (0 : Int) by decide), (show I64 (0 : Int) by decide), (show I64 (0 : Int) by decide)⟩
  have e1 : vmay P2 0 = 0 := by decide +kernel
  have e2 : outV P2 [] 0 0 0 0 0 = ([], [], 0, 1) := by decide +kernel
  have hr : Calls Try.prog 10 #[.slice (some ⟨g3, 0, none⟩) 1 1, .agg #[.slice none 0 0, .int .i64 0, .int .i64 0, .int .i64 0, .int .i64 0, .int .i64 0]] w5 (RunTo w5 (vmay P2 0) (outV P2 [] 0 0 0 0 0)) := run_any w5 ⟨some ⟨g3, 0, none⟩, 1, P2⟩ ⟨⟨none, 0, []⟩, 0, 0, 0, 0, 0⟩ hp hi
  rw [e1, e2] at hr
  have HR := hide hr
  clear hr hp hi hB2 e1 e2
  refine HR.out.mono ?_
  rintro e w6 ⟨v, rfl, ⟨B1, d1, B2, d2, rfl, _, _⟩, h6⟩
  clear HR
  have hb6 := hb4.trans (h6.mono (by have := hX2.lt; omega))
  have hX6 := hX2.below h6 hX2.lt
  have hc10 := (h6.cell (cell_lt hc9)).trans hc9
  have hg6 : g1 ≤ w6.heap.size := by have := hX6.lt; omega
  clear hb4 hX2 hc9 h6
  have hY := Blk.new w6 30 #[.slice B1 0 d1, .slice B2 0 d2, .int .i64 0, .int .i64 1]
  have hb7 := hb6.alloc hg6 (.cells #[.slice B1 0 d1, .slice B2 0 d2, .int .i64 0, .int .i64 1] 30)
  have hX7 := hX6.alloc (.cells #[.slice B1 0 d1, .slice B2 0 d2, .int .i64 0, .int .i64 1] 30)
  have hc11 := (World.cell?_alloc_lt w6 (.cells #[.slice B1 0 d1, .slice B2 0 d2, .int .i64 0, .int .i64 1] 30) ⟨g, 0, none⟩ (cell_lt hc10)).trans hc10
  clear hb6 hX6 hc10
  go_upto_region 4 with fail
  generalize w6.alloc _ = w7 at *
  generalize w6.heap.size = y1 at *
  -- the third run
  have hp : (⟨none, 0, []⟩ : Sl Ins4).At InsAt 4 w7 := ⟨fun i x hx => by simp at hx, Nat.le_refl _, by decide⟩
  have hi : (⟨⟨none, 0, []⟩, 0, 0, 0, 0, 0⟩ : Inp).At w7 := ⟨⟨fun i x hx => by simp at hx, Nat.le_refl _, by decide⟩, (show I64 (0 : Int) by decide), (show I64 (0 : Int) by decide), (show I64 (0 : Int) by decide), (show I64 (0 : Int) by decide), (show I64 (0 : Int) by decide)⟩
  have e1 : vmay [] 0 = 15 := by decide +kernel
  have e2 : outV [] [] 0 0 0 0 0 = ([], [], 0, 0) := by decide +kernel
  have hr : Calls Try.prog 10 #[.slice none 0 0, .agg #[.slice none 0 0, .int .i64 0, .int .i64 0, .int .i64 0, .int .i64 0, .int .i64 0]] w7 (RunTo w7 (vmay [] 0) (outV [] [] 0 0 0 0 0)) := run_any w7 ⟨none, 0, []⟩ ⟨⟨none, 0, []⟩, 0, 0, 0, 0, 0⟩ hp hi
  rw [e1, e2] at hr
  have HR := hide hr
  clear hr hp hi e1 e2
  go_wp2_with fail
  refine HR.out.mono ?_
  rintro e w8 ⟨v, rfl, ⟨C1, k1, C2, k2, rfl, _, _⟩, h8⟩
  clear HR
  have hY8 := hY.below h8 hY.lt
  have hX8 := hX7.below h8 hX7.lt
  have hc12 := (h8.cell (cell_lt hc11)).trans hc11
  have hb8 := hb7.trans (h8.mono (by have := hX7.lt; omega))
  have hg8 : g1 ≤ w8.heap.size := by have := hX8.lt; omega
  have hb9 := hb8.alloc hg8 (.cells #[.slice C1 0 k1, .slice C2 0 k2, .int .i64 0, .int .i64 0] 30)
  have hX9 := hX8.alloc (.cells #[.slice C1 0 k1, .slice C2 0 k2, .int .i64 0, .int .i64 0] 30)
  have hY9 := hY8.alloc (.cells #[.slice C1 0 k1, .slice C2 0 k2, .int .i64 0, .int .i64 0] 30)
  have hc13 := (World.cell?_alloc_lt w8 (.cells #[.slice C1 0 k1, .slice C2 0 k2, .int .i64 0, .int .i64 0] 30) ⟨g, 0, none⟩ (cell_lt hc12)).trans hc12
  have HB := hide hb9
  clear hY hX7 hc11 hb7 h8 hY8 hX8 hc12 hb8 hb9
  go_upto_region 5 with fail
  generalize w8.alloc _ = w9 at *
  have z0 := hX9.cell 0
  have z1 := hY9.cell 3
  simp only [List.getElem?_toArray, List.getElem?_cons_zero, List.getElem?_cons_succ] at z0 z1
  clear hX9 hY9
  go_wp2_with fail
  go_ret
  exact ⟨rfl, by rw [hg1]; exact HB.out⟩
theorem few_any (w : World) (p : Sl Ins4) (i : Inp) (hp : p.L.length ≤ p.c) (hc : p.c ≤ 9223372036854775807) : Calls Try.prog 8 #[p.val, i.val] w fun e w' => e = .returned (.bool (decide (p.L.length ≤ 100) && decide (i.wd.L.length ≤ 60))) ∧ Below w.heap.size w w' := by
  obtain ⟨⟨wA, wc, wL⟩, pay, me, lps, seed, dice⟩ := i
  obtain ⟨pA, pc, pL⟩ := p
  simp only at hp hc ⊢
  have hX := Blk.new w 25 #[.slice wA wL.length wc, .int .i64 pay, .int .i64 me, .int .i64 lps, .int .i64 seed, .int .i64 dice]
  have hb : Below w.heap.size w (w.alloc (.cells #[.slice wA wL.length wc, .int .i64 pay, .int .i64 me, .int .i64 lps, .int .i64 seed, .int .i64 dice] 25)) := (Below.refl _ _).alloc (Nat.le_refl _) _
  have x0 := hX.cell 0
  simp only [List.getElem?_toArray, List.getElem?_cons_zero] at x0
  have HB := hide hb
  unfold Inp.val Inp.cells Sl.val
  clear hX hb
  simp only
  by_cases h1 : pL.length ≤ 100
  · have d1 : decide ((pL.length : Int) ≤ 100) = true := decide_eq_true (by omega)
    rw [decide_eq_true h1, Bool.true_and]
    by_cases h2 : wL.length ≤ 60
    · have d2 : decide ((wL.length : Int) ≤ 60) = true := decide_eq_true (by omega)
      rw [decide_eq_true h2]
      clear h1 h2
      go_enter Try.func8, Try.ntmps8
      go_wp2_with fail
      go_ret
      exact ⟨rfl, HB.out⟩
    · have d2 : decide ((wL.length : Int) ≤ 60) = false := decide_eq_false (by omega)
      rw [decide_eq_false h2]
      clear h1 h2
      go_enter Try.func8, Try.ntmps8
      go_wp2_with fail
      go_ret
      exact ⟨rfl, HB.out⟩
  · have d1 : decide ((pL.length : Int) ≤ 100) = false := decide_eq_false (by omega)
    rw [decide_eq_false h1, Bool.false_and]
    clear h1
    go_enter Try.func8, Try.ntmps8
    go_wp2_with fail
    go_ret
    exact ⟨rfl, HB.out⟩
end Go.Proofs.Ytgohdpnlaedeiaa
