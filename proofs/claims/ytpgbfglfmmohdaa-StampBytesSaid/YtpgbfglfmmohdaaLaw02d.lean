/- One more law of package stamp: the keys of lesser stamps are less, byte by byte. No condition. -/
import Derived.Test.YtpgbfglfmmohdaaKeyPl
import Derived.Test.YtpgbfglfmmohdaaLaw02c
set_option linter.unusedVariables false
set_option maxRecDepth 20000
namespace Go.Proofs.Ytpgbfglfmmohdaa
open Go.RowKit Go.Deep

set_option maxHeartbeats 800000 in
theorem bytes_nn (t u : Nat) (s n s1 n1 : Int) (w : World) (ht : t < 18446744073709551616) (hu : u < 18446744073709551616) (nt : isNan t) (nu : isNan u) :
    Calls Try.prog 14 #[.agg #[.float .f64 t, .int .i64 s, .int .i64 n], .agg #[.float .f64 u, .int .i64 s1, .int .i64 n1]] w fun e w' => e = .returned (.bool true) ∧ Below w.heap.size w w' := by
  have o1 := fo_nan t t (.inl nt)
  have o2 := fo_nan u u (.inl nu)
  go_enter Try.func14, Try.ntmps14
  go_wp2_with fail
  have h1 : StAt ((w.alloc (.cells #[.float .f64 t, .int .i64 s, .int .i64 n] 42)).alloc (.cells #[.float .f64 u, .int .i64 s1, .int .i64 n1] 42)) w.heap.size t s n := (Blk.new w _ _).alloc _
  have h2 : StAt ((w.alloc (.cells #[.float .f64 t, .int .i64 s, .int .i64 n] 42)).alloc (.cells #[.float .f64 u, .int .i64 s1, .int .i64 n1] 42)) (w.heap.size + 1) u s1 n1 := by
    have := Blk.new (w.alloc (.cells #[.float .f64 t, .int .i64 s, .int .i64 n] 42)) 42 #[.float .f64 u, .int .i64 s1, .int .i64 n1]
    simpa [StAt] using this
  have hB : Below w.heap.size w ((w.alloc (.cells #[.float .f64 t, .int .i64 s, .int .i64 n] 42)).alloc (.cells #[.float .f64 u, .int .i64 s1, .int .i64 n1] 42)) := ((Below.refl _ _).alloc (Nat.le_refl _) _).alloc (by simp) _
  generalize ((w.alloc (.cells #[.float .f64 t, .int .i64 s, .int .i64 n] 42)).alloc (.cells #[.float .f64 u, .int .i64 s1, .int .i64 n1] 42)) = w1 at *
  refine (key_nan t s n _ nt).mono ?_
  rintro e w2 ⟨rfl, hb2⟩
  have h1 := h1.below hb2
  have h2 := h2.below hb2
  have hB := below_after hB hb2
  clear hb2
  obtain ⟨c0, c1, c2⟩ := h1.cells
  obtain ⟨d0, d1, d2⟩ := h2.cells
  go_wp2_with fail
  refine (key_nan u s1 n1 _ nu).mono ?_
  rintro e w3 ⟨rfl, hb3⟩
  have h1 := h1.below hb3
  have h2 := h2.below hb3
  have hB := below_after hB hb3
  clear hb3
  obtain ⟨c0, c1, c2⟩ := h1.cells
  obtain ⟨d0, d1, d2⟩ := h2.cells
  go_wp2_with fail
  refine (awake02 _).mono ?_
  rintro e w4 ⟨rfl, hb4⟩
  have h1 := h1.below hb4
  have h2 := h2.below hb4
  have hB := below_after hB hb4
  clear hb4
  obtain ⟨c0, c1, c2⟩ := h1.cells
  obtain ⟨d0, d1, d2⟩ := h2.cells
  go_wp2
  go_ret
  exact ⟨rfl, hB⟩
set_option maxHeartbeats 800000 in
theorem bytes_ny (t u : Nat) (s n s1 n1 : Int) (w : World) (ht : t < 18446744073709551616) (hu : u < 18446744073709551616) (nt : isNan t) (nu : ¬ isNan u) :
    Calls Try.prog 14 #[.agg #[.float .f64 t, .int .i64 s, .int .i64 n], .agg #[.float .f64 u, .int .i64 s1, .int .i64 n1]] w fun e w' => e = .returned (.bool true) ∧ Below w.heap.size w w' := by
  have o1 := fo_nan t t (.inl nt)
  have o2 := fo_self u nu
  go_enter Try.func14, Try.ntmps14
  go_wp2_with fail
  have h1 : StAt ((w.alloc (.cells #[.float .f64 t, .int .i64 s, .int .i64 n] 42)).alloc (.cells #[.float .f64 u, .int .i64 s1, .int .i64 n1] 42)) w.heap.size t s n := (Blk.new w _ _).alloc _
  have h2 : StAt ((w.alloc (.cells #[.float .f64 t, .int .i64 s, .int .i64 n] 42)).alloc (.cells #[.float .f64 u, .int .i64 s1, .int .i64 n1] 42)) (w.heap.size + 1) u s1 n1 := by
    have := Blk.new (w.alloc (.cells #[.float .f64 t, .int .i64 s, .int .i64 n] 42)) 42 #[.float .f64 u, .int .i64 s1, .int .i64 n1]
    simpa [StAt] using this
  have hB : Below w.heap.size w ((w.alloc (.cells #[.float .f64 t, .int .i64 s, .int .i64 n] 42)).alloc (.cells #[.float .f64 u, .int .i64 s1, .int .i64 n1] 42)) := ((Below.refl _ _).alloc (Nat.le_refl _) _).alloc (by simp) _
  generalize ((w.alloc (.cells #[.float .f64 t, .int .i64 s, .int .i64 n] 42)).alloc (.cells #[.float .f64 u, .int .i64 s1, .int .i64 n1] 42)) = w1 at *
  refine (key_nan t s n _ nt).mono ?_
  rintro e w2 ⟨rfl, hb2⟩
  have h1 := h1.below hb2
  have h2 := h2.below hb2
  have hB := below_after hB hb2
  clear hb2
  obtain ⟨c0, c1, c2⟩ := h1.cells
  obtain ⟨d0, d1, d2⟩ := h2.cells
  go_wp2_with fail
  refine (key_any u s1 n1 _ hu nu).mono ?_
  rintro e w3 ⟨rfl, hb3⟩
  have h1 := h1.below hb3
  have h2 := h2.below hb3
  have hB := below_after hB hb3
  clear hb3
  obtain ⟨c0, c1, c2⟩ := h1.cells
  obtain ⟨d0, d1, d2⟩ := h2.cells
  go_wp2_with fail
  refine (awake02 _).mono ?_
  rintro e w4 ⟨rfl, hb4⟩
  have h1 := h1.below hb4
  have h2 := h2.below hb4
  have hB := below_after hB hb4
  clear hb4
  obtain ⟨c0, c1, c2⟩ := h1.cells
  obtain ⟨d0, d1, d2⟩ := h2.cells
  go_wp2
  go_ret
  exact ⟨rfl, hB⟩
set_option maxHeartbeats 800000 in
theorem bytes_yn (t u : Nat) (s n s1 n1 : Int) (w : World) (ht : t < 18446744073709551616) (hu : u < 18446744073709551616) (nt : ¬ isNan t) (nu : isNan u) :
    Calls Try.prog 14 #[.agg #[.float .f64 t, .int .i64 s, .int .i64 n], .agg #[.float .f64 u, .int .i64 s1, .int .i64 n1]] w fun e w' => e = .returned (.bool true) ∧ Below w.heap.size w w' := by
  have o1 := fo_self t nt
  have o2 := fo_nan u u (.inl nu)
  go_enter Try.func14, Try.ntmps14
  go_wp2_with fail
  have h1 : StAt ((w.alloc (.cells #[.float .f64 t, .int .i64 s, .int .i64 n] 42)).alloc (.cells #[.float .f64 u, .int .i64 s1, .int .i64 n1] 42)) w.heap.size t s n := (Blk.new w _ _).alloc _
  have h2 : StAt ((w.alloc (.cells #[.float .f64 t, .int .i64 s, .int .i64 n] 42)).alloc (.cells #[.float .f64 u, .int .i64 s1, .int .i64 n1] 42)) (w.heap.size + 1) u s1 n1 := by
    have := Blk.new (w.alloc (.cells #[.float .f64 t, .int .i64 s, .int .i64 n] 42)) 42 #[.float .f64 u, .int .i64 s1, .int .i64 n1]
    simpa [StAt] using this
  have hB : Below w.heap.size w ((w.alloc (.cells #[.float .f64 t, .int .i64 s, .int .i64 n] 42)).alloc (.cells #[.float .f64 u, .int .i64 s1, .int .i64 n1] 42)) := ((Below.refl _ _).alloc (Nat.le_refl _) _).alloc (by simp) _
  generalize ((w.alloc (.cells #[.float .f64 t, .int .i64 s, .int .i64 n] 42)).alloc (.cells #[.float .f64 u, .int .i64 s1, .int .i64 n1] 42)) = w1 at *
  refine (key_any t s n _ ht nt).mono ?_
  rintro e w2 ⟨rfl, hb2⟩
  have h1 := h1.below hb2
  have h2 := h2.below hb2
  have hB := below_after hB hb2
  clear hb2
  obtain ⟨c0, c1, c2⟩ := h1.cells
  obtain ⟨d0, d1, d2⟩ := h2.cells
  go_wp2_with fail
  refine (key_nan u s1 n1 _ nu).mono ?_
  rintro e w3 ⟨rfl, hb3⟩
  have h1 := h1.below hb3
  have h2 := h2.below hb3
  have hB := below_after hB hb3
  clear hb3
  obtain ⟨c0, c1, c2⟩ := h1.cells
  obtain ⟨d0, d1, d2⟩ := h2.cells
  go_wp2_with fail
  refine (awake02 _).mono ?_
  rintro e w4 ⟨rfl, hb4⟩
  have h1 := h1.below hb4
  have h2 := h2.below hb4
  have hB := below_after hB hb4
  clear hb4
  obtain ⟨c0, c1, c2⟩ := h1.cells
  obtain ⟨d0, d1, d2⟩ := h2.cells
  go_wp2
  go_ret
  exact ⟨rfl, hB⟩
set_option maxHeartbeats 800000 in
theorem bytes_yy (t u : Nat) (s n s1 n1 : Int) (w : World) (ht : t < 18446744073709551616) (hu : u < 18446744073709551616) (nt : ¬ isNan t) (nu : ¬ isNan u) (hs : -9223372036854775808 ≤ s ∧ s ≤ 9223372036854775807) (hn : -9223372036854775808 ≤ n ∧ n ≤ 9223372036854775807) (hs1 : -9223372036854775808 ≤ s1 ∧ s1 ≤ 9223372036854775807) (hn1 : -9223372036854775808 ≤ n1 ∧ n1 ≤ 9223372036854775807) :
    Calls Try.prog 14 #[.agg #[.float .f64 t, .int .i64 s, .int .i64 n], .agg #[.float .f64 u, .int .i64 s1, .int .i64 n1]] w fun e w' => e = .returned (.bool true) ∧ Below w.heap.size w w' := by
  obtain ⟨e1, e2⟩ := keyS_less t u s n s1 n1 ht hu nt nu hs hn hs1 hn1
  clear hs hn hs1 hn1
  go_enter Try.func14, Try.ntmps14
  go_wp2_with fail
  have h1 : StAt ((w.alloc (.cells #[.float .f64 t, .int .i64 s, .int .i64 n] 42)).alloc (.cells #[.float .f64 u, .int .i64 s1, .int .i64 n1] 42)) w.heap.size t s n := (Blk.new w _ _).alloc _
  have h2 : StAt ((w.alloc (.cells #[.float .f64 t, .int .i64 s, .int .i64 n] 42)).alloc (.cells #[.float .f64 u, .int .i64 s1, .int .i64 n1] 42)) (w.heap.size + 1) u s1 n1 := by
    have := Blk.new (w.alloc (.cells #[.float .f64 t, .int .i64 s, .int .i64 n] 42)) 42 #[.float .f64 u, .int .i64 s1, .int .i64 n1]
    simpa [StAt] using this
  have hB : Below w.heap.size w ((w.alloc (.cells #[.float .f64 t, .int .i64 s, .int .i64 n] 42)).alloc (.cells #[.float .f64 u, .int .i64 s1, .int .i64 n1] 42)) := ((Below.refl _ _).alloc (Nat.le_refl _) _).alloc (by simp) _
  generalize ((w.alloc (.cells #[.float .f64 t, .int .i64 s, .int .i64 n] 42)).alloc (.cells #[.float .f64 u, .int .i64 s1, .int .i64 n1] 42)) = w1 at *
  refine (key_any t s n _ ht nt).mono ?_
  rintro e w2 ⟨rfl, hb2⟩
  have h1 := h1.below hb2
  have h2 := h2.below hb2
  have hB := below_after hB hb2
  clear hb2
  obtain ⟨c0, c1, c2⟩ := h1.cells
  obtain ⟨d0, d1, d2⟩ := h2.cells
  go_wp2_with fail
  refine (key_any u s1 n1 _ hu nu).mono ?_
  rintro e w3 ⟨rfl, hb3⟩
  have h1 := h1.below hb3
  have h2 := h2.below hb3
  have hB := below_after hB hb3
  clear hb3
  obtain ⟨c0, c1, c2⟩ := h1.cells
  obtain ⟨d0, d1, d2⟩ := h2.cells
  go_wp2_with fail
  refine (compare_any t u s n s1 n1 _).mono ?_
  rintro e w4 ⟨rfl, hb4⟩
  have h1 := h1.below hb4
  have h2 := h2.below hb4
  have hB := below_after hB hb4
  clear hb4
  obtain ⟨c0, c1, c2⟩ := h1.cells
  obtain ⟨d0, d1, d2⟩ := h2.cells
  go_wp2_with fail
  refine (awake02 _).mono ?_
  rintro e w5 ⟨rfl, hb5⟩
  have h1 := h1.below hb5
  have h2 := h2.below hb5
  have hB := below_after hB hb5
  clear hb5
  obtain ⟨c0, c1, c2⟩ := h1.cells
  obtain ⟨d0, d1, d2⟩ := h2.cells
  go_wp2
  go_ret
  exact ⟨rfl, hB⟩
theorem bytes_walk (t u : Nat) (s n s1 n1 : Int) (w : World) (ht : t < 18446744073709551616) (hu : u < 18446744073709551616) (hs : -9223372036854775808 ≤ s ∧ s ≤ 9223372036854775807) (hn : -9223372036854775808 ≤ n ∧ n ≤ 9223372036854775807) (hs1 : -9223372036854775808 ≤ s1 ∧ s1 ≤ 9223372036854775807) (hn1 : -9223372036854775808 ≤ n1 ∧ n1 ≤ 9223372036854775807) :
    Calls Try.prog 14 #[.agg #[.float .f64 t, .int .i64 s, .int .i64 n], .agg #[.float .f64 u, .int .i64 s1, .int .i64 n1]] w fun e w' => e = .returned (.bool true) ∧ Below w.heap.size w w' := by
  by_cases nt : isNan t <;> by_cases nu : isNan u
  · exact bytes_nn t u s n s1 n1 w ht hu nt nu
  · exact bytes_ny t u s n s1 n1 w ht hu nt nu
  · exact bytes_yn t u s n s1 n1 w ht hu nt nu
  · exact bytes_yy t u s n s1 n1 w ht hu nt nu hs hn hs1 hn1
end Go.Proofs.Ytpgbfglfmmohdaa
