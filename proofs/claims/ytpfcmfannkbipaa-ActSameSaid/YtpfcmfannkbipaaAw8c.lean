/- The walk of law08's awake, to its end. No condition. -/
import Derived.Test.YtpfcmfannkbipaaAw8b
import Derived.Deep.RegionHeld3
import Derived.Deep.DeepCutAuto
set_option linter.unusedVariables false
set_option linter.unusedSimpArgs false
set_option maxRecDepth 20000
namespace Go.Proofs.Ytpfcmfannkbipaa
open Go.RowKit Go.Deep

attribute [local go_sem] run_store_float
def AwC (w : World) (x y z u : Value) (W : World) : Prop := ∃ gx g c g' c' : Nat, x = .pointer (some ⟨gx, 0, none⟩) ∧ y = .slice (some ⟨g', 0, none⟩) 1 c' ∧ z = .int .i64 0 ∧ u = .int .i64 0 ∧
  Blk W gx 61 #[.slice (some ⟨g, 0, none⟩) 1 c, .int .i64 1, .int .i64 0] ∧ (1 ≤ c ∧ c ≤ 9223372036854775807 ∧ W.cell? ⟨g, 0, none⟩ = some (.int .i64 3)) ∧ (1 ≤ c' ∧ c' ≤ 9223372036854775807 ∧ EvC W g' smS) ∧ Below w.heap.size w W
theorem awC_late {w wR : World} {g c g' c' : Nat} (hb : Below w.heap.size w wR) (h1 : 1 ≤ c ∧ c ≤ 9223372036854775807 ∧ wR.cell? ⟨g, 0, none⟩ = some (.int .i64 3)) (h2 : 1 ≤ c' ∧ c' ≤ 9223372036854775807 ∧ EvC wR g' smS) :
    AwC w (.pointer (some ⟨wR.heap.size, 0, none⟩)) (.slice (some ⟨g', 0, none⟩) 1 c') (.int .i64 0) (.int .i64 0) (wR.alloc (.cells #[.slice (some ⟨g, 0, none⟩) 1 c, .int .i64 1, .int .i64 0] 61)) := by
  have ha := (Below.refl wR.heap.size wR).alloc (Nat.le_refl _) (.cells #[.slice (some ⟨g, 0, none⟩) 1 c, .int .i64 1, .int .i64 0] 61)
  exact ⟨_, g, c, g', c', rfl, rfl, rfl, rfl, Blk.new _ _ _, ⟨h1.1, h1.2.1, keepc ha h1.2.2⟩, ⟨h2.1, h2.2.1, h2.2.2.keep ha⟩, below_after hb ha⟩
theorem awC_first {w wR : World} {gx g c g' c' : Nat} {cs : Array Value} (hcs : cs.size = 3) (hX : Blk wR gx 61 cs) (hg : w.heap.size ≤ gx) (hb : Below w.heap.size w wR) (h1 : 1 ≤ c ∧ c ≤ 9223372036854775807 ∧ wR.cell? ⟨g, 0, none⟩ = some (.int .i64 3)) (h2 : 1 ≤ c' ∧ c' ≤ 9223372036854775807 ∧ EvC wR g' smS) (n1 : gx ≠ g) (n2 : gx ≠ g') :
    AwC w (.pointer (some ⟨gx, 0, none⟩)) (.slice (some ⟨g', 0, none⟩) 1 c') (.int .i64 0) (.int .i64 0) (((wR.setCell ⟨gx, 0, none⟩ (.slice (some ⟨g, 0, none⟩) 1 c)).setCell ⟨gx, 1, none⟩ (.int .i64 1)).setCell ⟨gx, 2, none⟩ (.int .i64 0)) := by
  refine ⟨gx, g, c, g', c', rfl, rfl, rfl, rfl, ?_, ⟨h1.1, h1.2.1, (far3 n1).trans h1.2.2⟩, ⟨h2.1, h2.2.1, ?_⟩, ((hb.setCell hg _).setCell hg _).setCell hg _⟩
  · have := ((hX.set_ 0 (.slice (some ⟨g, 0, none⟩) 1 c)).set_ 1 (.int .i64 1)).set_ 2 (.int .i64 0)
    obtain ⟨l⟩ := cs
    match l, hcs with
    | [c0, c1, c2], _ => simpa using this
  · obtain ⟨e0, e1, e2, e3, e4⟩ := h2.2.2
    exact ⟨(far3 n2).trans e0, (far3 n2).trans e1, (far3 n2).trans e2, (far3 n2).trans e3, (far3 n2).trans e4⟩
set_option maxHeartbeats 4000000 in
theorem awake08 (w : World) : Calls Try.prog 40 #[] w fun e w' => e = .returned (.bool true) ∧ Below w.heap.size w w' := by
  go_enter Try.func40, Try.ntmps40
  go_wp2_with fail
  refine (small_any _).mono ?_
  rintro e w1 ⟨rfl, hA1, hb1⟩
  go_wp2_with fail
  refine (sm_begin _ _ hA1).mono ?_
  rintro e w2 ⟨gl, cl, rfl, l1, l2, l3, hb2⟩
  clear hA1
  go_wp2_with fail
  refine (small_any _).mono ?_
  rintro e w3 ⟨rfl, hA3, hb3⟩
  go_wp2_with fail
  refine (sm_fst _ _ hA3).mono ?_
  rintro e w4 ⟨gs, cs, rfl, s1, s2, s3, hb4⟩
  clear hA3
  replace l3 := (l3.keep hb3).keep hb4
  have hb := below_after (below_after (below_after hb1 hb2) hb3) hb4
  clear hb1 hb2 hb3 hb4
  have ha := (Below.refl w4.heap.size w4).alloc (Nat.le_refl _) (.cells #[.slice (some ⟨gs, 0, none⟩) 1 cs, .int .i64 0, .int .i64 0] 61)
  have hX := Blk.new w4 61 #[.slice (some ⟨gs, 0, none⟩) 1 cs, .int .i64 0, .int .i64 0]
  replace l3 := l3.keep ha
  replace s3 := keepc ha s3
  replace hb := below_after hb ha
  clear ha
  go_upto_region 5 with fail
  generalize w4.alloc _ = W at *
  generalize w4.heap.size = gx0 at *
  have hD : Below W.heap.size W W.drew := (Below.refl _ _).drew
  obtain ⟨l30, l31, l32, l33, l34⟩ := l3
  have HSS : Hid (∀ W', Below W.heap.size W W' → (W'.cell? ⟨gx0, 0, none⟩ = some (.slice (some ⟨gs, 0, none⟩) 1 cs) ∧ W'.cell? ⟨gx0, 1, none⟩ = some (.int .i64 0) ∧ W'.cell? ⟨gx0, 2, none⟩ = some (.int .i64 0) ∧
      W'.cell? ⟨gl, 0, none⟩ = some (.float .f64 4607182418800017408) ∧ W'.cell? ⟨gl, 1, none⟩ = some (.int .i64 (-1)) ∧ W'.cell? ⟨gl, 2, none⟩ = some (.int .i64 0) ∧ W'.cell? ⟨gl, 3, none⟩ = some (.int .i64 0) ∧ W'.cell? ⟨gl, 4, none⟩ = some (.int .i64 2) ∧ W'.cell? ⟨gs, 0, none⟩ = some (.int .i64 1) ∧ Below W.heap.size W W')) :=
    hide fun W' h => ⟨keepc h (hX.cell 0), keepc h (hX.cell 1), keepc h (hX.cell 2), keepc h l30, keepc h l31, keepc h l32, keepc h l33, keepc h l34, keepc h s3, h⟩
  have HB := hide hb
  have HW := hide hb.size
  clear hb hX l30 l31 l32 l33 l34 s3
  obtain ⟨c0, c1, c2, c3, c4, c5, c6, c7, c8, _⟩ := HSS.out W (Below.refl _ _)
  go_cut [5, 6, 7, 8] (fun x y z u wx => AwC w x y z u wx)
  case first =>
    go_region_held3 (fun W' => W'.cell? ⟨gx0, 0, none⟩ = some (.slice (some ⟨gs, 0, none⟩) 1 cs) ∧ W'.cell? ⟨gx0, 1, none⟩ = some (.int .i64 0) ∧ W'.cell? ⟨gx0, 2, none⟩ = some (.int .i64 0) ∧
      W'.cell? ⟨gl, 0, none⟩ = some (.float .f64 4607182418800017408) ∧ W'.cell? ⟨gl, 1, none⟩ = some (.int .i64 (-1)) ∧ W'.cell? ⟨gl, 2, none⟩ = some (.int .i64 0) ∧ W'.cell? ⟨gl, 3, none⟩ = some (.int .i64 0) ∧ W'.cell? ⟨gl, 4, none⟩ = some (.int .i64 2) ∧ W'.cell? ⟨gs, 0, none⟩ = some (.int .i64 1) ∧ Below W.heap.size W W')
      (first
        | exact HSS.out _ hD
        | (go_split_ands; exact HSS.out _ (below_after (by assumption) hbR))
        | (go_split_ands; exact HSS.out _ (below_after (by assumption) hbS))
        | (go_split_ands; with_reducible exact HSS.out _ (Below.alloc (by assumption) (Below.size (by assumption)) _))
        | (go_split_ands; with_reducible exact HSS.out _ (Below.swap (by assumption) hsR hsR))
        | (go_split_ands; exact HSS.out _ (Below.setCell (Below.setCell (Below.setCell (by assumption) (by first | exact hbS.size | simp) _) (by first | exact hbS.size | simp) _) (by first | exact hbS.size | simp) _)))
      (first
        | (go_at_call 75; go_split_ands; refine (small_any _).mono ?_; rintro e wS ⟨rfl, hAS, hbS⟩; try (have hzz : (World.drew (W.alloc (.cells #[.slice none 0 0, .int .i64 0, .int .i64 0] 61))).heap.size = W.heap.size + 1 := Array.size_push ..; rw [hzz] at hAS; clear hzz); have hsS := Nat.le_trans (Below.size (by assumption : Below W.heap.size W _)) hbS.size; try (have hG : Blk wS W.heap.size 61 #[.slice none 0 0, .int .i64 0, .int .i64 0] := Blk.below (by first | exact (Blk.new W _ _).drew | exact Blk.new W.drew _ _) hbS (by simp)))
        | (go_at_call 41; go_split_ands; refine (sm_han _ _ _ _ (by first | exact hAS | exact hAS.below ((Below.refl _ _).alloc (Nat.le_refl _) _)) s1 s2 (by assumption)).mono ?_; rintro e wR ⟨rg, rc, rg', rc', rfl, hr1, hr2, hbR⟩; replace hr1 := hide hr1; replace hr2 := hide hr2; have hWR := below_after HB.out (below_after (by assumption : Below W.heap.size W _) hbR); have hsR := Nat.le_trans (Below.size (by assumption : Below W.heap.size W _)) hbR.size;
            try (have hG2 := Blk.below (by first | assumption | exact Blk.new wS 61 #[.slice none 0 0, .int .i64 0, .int .i64 0]) hbR (by first | exact Blk.lt (by assumption) | simp); have g0 := hG2.cell 0; have g1 := hG2.cell 1; have g2 := hG2.cell 2; have u0 := hG2.frozen 0; have u1 := hG2.frozen 1; have u2 := hG2.frozen 2; simp only [List.getElem?_toArray, List.getElem?_cons_zero, List.getElem?_cons_succ] at g0 g1 g2)))
    all_goals go_split_ands
    all_goals (try go_wp2_with fail)
    all_goals go_meet
    all_goals have hWS := HW.out
    all_goals first
      | with_reducible exact awC_late hWR ⟨hr1.out.1, hr1.out.2.1, hr1.out.2.2.2⟩ ⟨hr2.out.1, hr2.out.2.1, hr2.out.2.2.2⟩
      | (have hzz : (wS.alloc (.cells #[.slice none 0 0, .int .i64 0, .int .i64 0] 61)).heap.size = wS.heap.size + 1 := Array.size_push ..
         have hzS : W.heap.size ≤ wS.heap.size := hbS.size
         have k1 := hr1.out.2.2.1
         have k2 := hr2.out.2.2.1
         rw [hzz] at k1 k2
         with_reducible exact awC_first rfl (gx := wS.heap.size) hG2 (by omega) hWR ⟨hr1.out.1, hr1.out.2.1, hr1.out.2.2.2⟩ ⟨hr2.out.1, hr2.out.2.1, hr2.out.2.2.2⟩ (by omega) (by omega))
      | (have hzz : (World.drew (W.alloc (.cells #[.slice none 0 0, .int .i64 0, .int .i64 0] 61))).heap.size = W.heap.size + 1 := Array.size_push ..
         have k1 := hr1.out.2.2.1
         have k2 := hr2.out.2.2.1
         have hzS := hbS.size
         rw [hzz] at hzS
         with_reducible exact awC_first rfl (gx := W.heap.size) hG2 (by omega) hWR ⟨hr1.out.1, hr1.out.2.1, hr1.out.2.2.2⟩ ⟨hr2.out.1, hr2.out.2.1, hr2.out.2.2.2⟩ (by omega) (by omega))
  case rest =>
    obtain ⟨gx, g, c, g', c', rfl, rfl, rfl, rfl, hX, ⟨a1, a2, a3⟩, ⟨b1, b2, b3⟩, hb⟩ := hcut
    obtain ⟨e0, e1, e2, e3, e4⟩ := b3
    have x0 := hX.cell 0
    have x1 := hX.cell 1
    have x2 := hX.cell 2
    simp only [List.getElem?_toArray, List.getElem?_cons_zero, List.getElem?_cons_succ] at x0 x1 x2
    have ho := fo_self 4609434218613702656 (by decide)
    have HE := hide hb
    clear hX hb HB HW HSS hD c0 c1 c2 c3 c4 c5 c6 c7 c8
    simp only [smS] at e0 e1 e2 e3 e4
    go_wp2_with fail
    go_ret
    exact ⟨rfl, HE.out⟩
end Go.Proofs.Ytpfcmfannkbipaa
