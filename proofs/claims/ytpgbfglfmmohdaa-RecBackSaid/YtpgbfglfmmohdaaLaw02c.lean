/- One more law of package stamp: it is an order. No condition. -/
import Derived.Test.YtpgbfglfmmohdaaLaw02b
import Derived.Test.YtpgbfglfmmohdaaStampPl
set_option linter.unusedVariables false
set_option maxRecDepth 20000
namespace Go.Proofs.Ytpgbfglfmmohdaa
open Go.RowKit Go.Deep

theorem StAt.below {w w' : World} {g t : Nat} {s n : Int} (h : StAt w g t s n) (hb : Below w.heap.size w w') : StAt w' g t s n := Blk.below h hb (Blk.lt h)
theorem StAt.drew {w : World} {g t : Nat} {s n : Int} (h : StAt w g t s n) : StAt w.drew g t s n := h
theorem neg_rng {x : Int} (h : x = -1 ∨ x = 0 ∨ x = 1) : wrap64 (-x) = -x := by
  unfold wrap64
  omega
set_option maxHeartbeats 3200000 in
theorem orders02_walk (t u v : Nat) (s n s1 n1 s2 n2 : Int) (w : World) :
    Calls Try.prog 8 #[.agg #[.float .f64 t, .int .i64 s, .int .i64 n], .agg #[.float .f64 u, .int .i64 s1, .int .i64 n1], .agg #[.float .f64 v, .int .i64 s2, .int .i64 n2]] w fun e w' => e = .returned (.bool true) ∧ Below w.heap.size w w' := by
  have f1 := hide (cmpS_self t s n)
  have f2 := hide (cmpS_back t u s n s1 n1)
  obtain ⟨p1, p2, p3⟩ := cmpS_trans t u v s n s1 n1 s2 n2
  have r1 := cmpS_rng t u s n s1 n1
  have r2 := cmpS_rng u v s1 n1 s2 n2
  have r3 := cmpS_rng t v s n s2 n2
  have P1 := hide p1
  have P2 := hide p2
  have P3 := hide p3
  have R1 := hide r1
  have R2 := hide r2
  have R3 := hide r3
  clear p1 p2 p3 r1 r2 r3
  go_enter Try.func8, Try.ntmps8
  go_wp2_with fail
  have h1 : StAt (((w.alloc (.cells #[.float .f64 t, .int .i64 s, .int .i64 n] 42)).alloc (.cells #[.float .f64 u, .int .i64 s1, .int .i64 n1] 42)).alloc (.cells #[.float .f64 v, .int .i64 s2, .int .i64 n2] 42)) w.heap.size t s n := ((Blk.new w _ _).alloc _).alloc _
  have h2 : StAt (((w.alloc (.cells #[.float .f64 t, .int .i64 s, .int .i64 n] 42)).alloc (.cells #[.float .f64 u, .int .i64 s1, .int .i64 n1] 42)).alloc (.cells #[.float .f64 v, .int .i64 s2, .int .i64 n2] 42)) (w.heap.size + 1) u s1 n1 := by
    have := (Blk.new (w.alloc (.cells #[.float .f64 t, .int .i64 s, .int .i64 n] 42)) 42 #[.float .f64 u, .int .i64 s1, .int .i64 n1]).alloc (.cells #[.float .f64 v, .int .i64 s2, .int .i64 n2] 42)
    simpa [StAt] using this
  have h3 : StAt (((w.alloc (.cells #[.float .f64 t, .int .i64 s, .int .i64 n] 42)).alloc (.cells #[.float .f64 u, .int .i64 s1, .int .i64 n1] 42)).alloc (.cells #[.float .f64 v, .int .i64 s2, .int .i64 n2] 42)) (w.heap.size + 1 + 1) v s2 n2 := by
    have := Blk.new ((w.alloc (.cells #[.float .f64 t, .int .i64 s, .int .i64 n] 42)).alloc (.cells #[.float .f64 u, .int .i64 s1, .int .i64 n1] 42)) 42 #[.float .f64 v, .int .i64 s2, .int .i64 n2]
    simpa [StAt] using this
  have hB : Below w.heap.size w (((w.alloc (.cells #[.float .f64 t, .int .i64 s, .int .i64 n] 42)).alloc (.cells #[.float .f64 u, .int .i64 s1, .int .i64 n1] 42)).alloc (.cells #[.float .f64 v, .int .i64 s2, .int .i64 n2] 42)) := (((Below.refl _ _).alloc (Nat.le_refl _) _).alloc (by simp) _).alloc (by simp; omega) _
  generalize (((w.alloc (.cells #[.float .f64 t, .int .i64 s, .int .i64 n] 42)).alloc (.cells #[.float .f64 u, .int .i64 s1, .int .i64 n1] 42)).alloc (.cells #[.float .f64 v, .int .i64 s2, .int .i64 n2] 42)) = w1 at *
  obtain ⟨c0, c1, c2⟩ := h1.cells
  obtain ⟨d0, d1, d2⟩ := h2.cells
  obtain ⟨e0, e1, e2⟩ := h3.cells
  go_region_held3 (fun w' => w'.cell? ⟨w.heap.size, 0, none⟩ = some (.float .f64 t) ∧ w'.cell? ⟨w.heap.size, 1, none⟩ = some (.int .i64 s) ∧ w'.cell? ⟨w.heap.size, 2, none⟩ = some (.int .i64 n) ∧ w'.cell? ⟨w.heap.size + 1, 0, none⟩ = some (.float .f64 u) ∧ w'.cell? ⟨w.heap.size + 1, 1, none⟩ = some (.int .i64 s1) ∧ w'.cell? ⟨w.heap.size + 1, 2, none⟩ = some (.int .i64 n1) ∧ w'.cell? ⟨w.heap.size + 1 + 1, 0, none⟩ = some (.float .f64 v) ∧ w'.cell? ⟨w.heap.size + 1 + 1, 1, none⟩ = some (.int .i64 s2) ∧ w'.cell? ⟨w.heap.size + 1 + 1, 2, none⟩ = some (.int .i64 n2))
    (first
      | go_keep
      | (go_split_ands; exact ⟨keep1 hb4 (by assumption), keep1 hb4 (by assumption), keep1 hb4 (by assumption), keep1 hb4 (by assumption), keep1 hb4 (by assumption), keep1 hb4 (by assumption), keep1 hb4 (by assumption), keep1 hb4 (by assumption), keep1 hb4 (by assumption)⟩)
      | (go_split_ands; exact ⟨keep1 hb3 (by assumption), keep1 hb3 (by assumption), keep1 hb3 (by assumption), keep1 hb3 (by assumption), keep1 hb3 (by assumption), keep1 hb3 (by assumption), keep1 hb3 (by assumption), keep1 hb3 (by assumption), keep1 hb3 (by assumption)⟩)
      | (go_split_ands; exact ⟨keep1 hb2 (by assumption), keep1 hb2 (by assumption), keep1 hb2 (by assumption), keep1 hb2 (by assumption), keep1 hb2 (by assumption), keep1 hb2 (by assumption), keep1 hb2 (by assumption), keep1 hb2 (by assumption), keep1 hb2 (by assumption)⟩))
    (first
      | (go_at_call 39; with_reducible refine (compare_any t u s n s1 n1 _).mono ?_; rintro e w2 ⟨rfl, hb2⟩)
      | (go_at_call 39; with_reducible refine (compare_any u v s1 n1 s2 n2 _).mono ?_; rintro e w3 ⟨rfl, hb3⟩)
      | (go_at_call 39; with_reducible refine (compare_any t v s n s2 n2 _).mono ?_; rintro e w4 ⟨rfl, hb4⟩))
  have hB4 : Below w.heap.size w w4 := below_after (below_after (below_after hB.drew hb2) hb3) hb4
  have hA1 := ((h1.drew.below hb2).below hb3).below hb4
  have hA2 := ((h2.drew.below hb2).below hb3).below hb4
  clear h1 h2 h3 hB c0 c1 c2 d0 d1 d2 e0 e1 e2 hb2 hb3 hb4
  obtain ⟨c0, c1, c2⟩ := hA1.cells
  obtain ⟨d0, d1, d2⟩ := hA2.cells
  go_wp2_with fail
  refine (compare_any t t s n s n _).mono ?_
  rw [f1.out]
  rintro e w5 ⟨rfl, hb5⟩
  have hB5 := below_after hB4 hb5
  have hA3 := hA1.below hb5
  have hA4 := hA2.below hb5
  clear hA1 hA2 hB4 c0 c1 c2 d0 d1 d2 hb5
  obtain ⟨c0, c1, c2⟩ := hA3.cells
  obtain ⟨d0, d1, d2⟩ := hA4.cells
  go_wp2_with fail
  refine (compare_any u t s1 n1 s n _).mono ?_
  rw [f2.out]
  rintro e w6 ⟨rfl, hb6⟩
  have hB6 := below_after hB5 hb6
  clear hA3 hA4 hB5 c0 c1 c2 d0 d1 d2 hb6
  have K1 := R1.out
  have K2 := R2.out
  have K3 := R3.out
  have L1 := P1.out
  have L2 := P2.out
  have L3 := P3.out
  clear R1 R2 R3 P1 P2 P3 f1 f2
  generalize cmpS t s n u s1 n1 = x at *
  generalize cmpS u s1 n1 v s2 n2 = y at *
  generalize cmpS t s n v s2 n2 = z at *
  rcases K1 with rfl | rfl | rfl <;> rcases K2 with rfl | rfl | rfl <;> rcases K3 with rfl | rfl | rfl
  all_goals first | (exfalso; omega) | skip
  all_goals clear L1 L2 L3
  all_goals go_wp2_with fail
  all_goals refine (awake02 _).mono ?_
  all_goals rintro e w7 ⟨rfl, hb7⟩
  all_goals go_wp2
  all_goals go_ret
  all_goals exact ⟨rfl, below_after hB6 hb7⟩
end Go.Proofs.Ytpgbfglfmmohdaa
