/- One more law of package stamp: keys made and read, the package against the reference. No condition. -/
import Derived.Test.YtpgbfglfmmohdaaRead2
import Derived.Test.YtpgbfglfmmohdaaLaw02c
set_option linter.unusedVariables false
set_option maxRecDepth 20000
namespace Go.Proofs.Ytpgbfglfmmohdaa
open Go.RowKit Go.Deep

theorem rstread_all (s : ByteArray) (p : Int) (w : World) (hm : s.size ≤ 9223372036854775807) :
    Calls Try.prog 54 #[.string s, .int .i64 p] w fun e w' => e = .returned (rsV s p) ∧ Below w.heap.size w w' := by
  by_cases h : p < 0 ∨ (s.size : Int) < p
  · exact rstread_range s p w h hm
  · obtain ⟨q, rfl⟩ := Int.eq_ofNat_of_zero_le (show 0 ≤ p by omega)
    by_cases h24 : s.size < q + 24
    · exact rstread_short s q w (by omega) h24 hm
    · by_cases hbad : badB (rdN s q 8)
      · rw [rs_no (rs_bad (by omega) hbad) (by decide)]
        by_cases hn : isNan (unB (rdN s q 8))
        · exact rstread_nan s q _ _ w (by omega) hm rfl rfl hn
        · exact rstread_neg s q _ _ w (by omega) hm rfl rfl hn (hbad.resolve_left hn)
      · rw [rs_yes (rs_ok (by omega) hbad)]
        exact rstread_good s q _ _ w (by omega) hm rfl rfl (fun h => hbad (.inl h)) (fun h => hbad (.inr h))

/-- 's[:h]' of a string. -/
theorem run_slice_str0 {P : Program} {t : TypeId} (ht : P.underlying t = some .string) (s : ByteArray) (k' : IntKind) (h : Int) (b : Nat) (hh : h = b) (h2 : b ≤ s.size) (w : World) :
    (Instr.slice t (.string s) none (some (.int k' h)) none).run P w = .ok (.string (s.extract 0 b)) w := by
  subst hh
  have e1 : (0 : Int) ≤ (b : Int) ∧ (b : Int) ≤ (s.size : Int) := by omega
  simp [Instr.slice, run_underlying ht, Instr.sliceBounds, Instr.sliceBound, asIntOf, e1, h2]
attribute [local go_sem] run_store_float
open Classical in
noncomputable def kS (t : Nat) (s n : Int) : ByteArray := if isNan t then ⟨#[]⟩ else keyS t s n
open Classical in
noncomputable def kE (t : Nat) : Int := if isNan t then 7 else 0
theorem key_all (t : Nat) (s n : Int) (w : World) (ht : t < 18446744073709551616) : Calls Try.prog 51 #[.agg #[.float .f64 t, .int .i64 s, .int .i64 n]] w fun e w' => e = .returned (.tuple #[.string (kS t s n), .int .i64 (kE t)]) ∧ Below w.heap.size w w' := by
  unfold kS kE
  by_cases h : isNan t
  · rw [if_pos h, if_pos h]
    exact key_nan t s n w h
  · rw [if_neg h, if_neg h]
    exact key_any t s n w ht h
theorem rkey_all (t : Nat) (s n : Int) (w : World) (ht : t < 18446744073709551616) : Calls Try.prog 52 #[.agg #[.float .f64 t, .int .i64 s, .int .i64 n]] w fun e w' => e = .returned (.tuple #[.string (kS t s n), .int .i64 (kE t)]) ∧ Below w.heap.size w w' := by
  unfold kS kE
  by_cases h : isNan t
  · rw [if_pos h, if_pos h]
    exact rkey_nan t s n w h
  · rw [if_neg h, if_neg h]
    exact rkey_any t s n w ht h
theorem rsame_self (t : Nat) (s n : Int) (w : World) : Calls Try.prog 55 #[.agg #[.float .f64 t, .int .i64 s, .int .i64 n], .agg #[.float .f64 t, .int .i64 s, .int .i64 n]] w fun e w' => e = .returned (.bool true) ∧ Below w.heap.size w w' := by
  have fb := f64bits_run
  go_enter Try.func55, Try.ntmps55
  go_wp2_with fail
  have h1 : StAt ((w.alloc (.cells #[.float .f64 t, .int .i64 s, .int .i64 n] 42)).alloc (.cells #[.float .f64 t, .int .i64 s, .int .i64 n] 42)) w.heap.size t s n := (Blk.new w _ _).alloc _
  have h2 : StAt ((w.alloc (.cells #[.float .f64 t, .int .i64 s, .int .i64 n] 42)).alloc (.cells #[.float .f64 t, .int .i64 s, .int .i64 n] 42)) (w.heap.size + 1) t s n := by
    have := Blk.new (w.alloc (.cells #[.float .f64 t, .int .i64 s, .int .i64 n] 42)) 42 #[.float .f64 t, .int .i64 s, .int .i64 n]
    simpa [StAt] using this
  have hB : Below w.heap.size w ((w.alloc (.cells #[.float .f64 t, .int .i64 s, .int .i64 n] 42)).alloc (.cells #[.float .f64 t, .int .i64 s, .int .i64 n] 42)) := ((Below.refl _ _).alloc (Nat.le_refl _) _).alloc (by simp) _
  generalize ((w.alloc (.cells #[.float .f64 t, .int .i64 s, .int .i64 n] 42)).alloc (.cells #[.float .f64 t, .int .i64 s, .int .i64 n] 42)) = w1 at *
  obtain ⟨c0, c1, c2⟩ := h1.cells
  obtain ⟨d0, d1, d2⟩ := h2.cells
  have hB' : Below w.heap.size w w1.drew := hB.drew
  go_quiet (fail)
  go_wp2
  go_ret
  exact ⟨rfl, below_drewN hB _⟩

theorem keys_short (t : Nat) (s n : Int) (b : ByteArray) (p : Int) (w : World) (ht : t < 18446744073709551616) (hb : (b.size : Int) ≤ 3000) :
    Calls Try.prog 15 #[.agg #[.float .f64 t, .int .i64 s, .int .i64 n], .string b, .int .i64 p] w fun e w' => e = .returned (.bool true) ∧ Below w.heap.size w w' := by
  go_enter Try.func15, Try.ntmps15
  go_wp2_with fail
  have h1 : StAt (w.alloc (.cells #[.float .f64 t, .int .i64 s, .int .i64 n] 42)) w.heap.size t s n := Blk.new w _ _
  have hB : Below w.heap.size w (w.alloc (.cells #[.float .f64 t, .int .i64 s, .int .i64 n] 42)) := (Below.refl _ _).alloc (Nat.le_refl _) _
  generalize (w.alloc (.cells #[.float .f64 t, .int .i64 s, .int .i64 n] 42)) = w1 at *
  refine (key_all t s n _ ht).mono ?_
  rintro e w2 ⟨rfl, hb2⟩
  have h1 := h1.below hb2
  have hB := below_after hB hb2
  clear hb2
  obtain ⟨c0, c1, c2⟩ := h1.cells
  go_wp2_with fail
  refine (rkey_all t s n _ ht).mono ?_
  rintro e w3 ⟨rfl, hb3⟩
  have h1 := h1.below hb3
  have hB := below_after hB hb3
  clear hb3
  obtain ⟨c0, c1, c2⟩ := h1.cells
  go_wp2_with fail
  refine (stread_all b p _ (by omega)).mono ?_
  unfold rsV
  rintro e w4 ⟨rfl, hb4⟩
  have hB := below_after hB hb4
  clear hb4
  go_wp2_with fail
  have hX : StAt (w4.alloc (.cells #[.float .f64 (rsT b p), .int .i64 (rsS b p), .int .i64 (rsN b p)] 42)) w4.heap.size (rsT b p) (rsS b p) (rsN b p) := Blk.new w4 _ _
  have hB := hB.alloc hB.size (.cells #[.float .f64 (rsT b p), .int .i64 (rsS b p), .int .i64 (rsN b p)] 42)
  have hl : w4.heap.size < (w4.alloc (.cells #[.float .f64 (rsT b p), .int .i64 (rsS b p), .int .i64 (rsN b p)] 42)).heap.size := by simp
  generalize (w4.alloc (.cells #[.float .f64 (rsT b p), .int .i64 (rsS b p), .int .i64 (rsN b p)] 42)) = w4' at *
  refine (rstread_all b p _ (by omega)).mono ?_
  unfold rsV
  rintro e w5 ⟨rfl, hb5⟩
  have hX := hX.below hb5
  have hB := below_after hB hb5
  clear hb5
  obtain ⟨c0, c1, c2⟩ := hX.cells
  go_wp2_with fail
  have hY : StAt (w5.alloc (.cells #[.float .f64 (rsT b p), .int .i64 (rsS b p), .int .i64 (rsN b p)] 42)) w5.heap.size (rsT b p) (rsS b p) (rsN b p) := Blk.new w5 _ _
  have hX := StAt.alloc_ hX (.cells #[.float .f64 (rsT b p), .int .i64 (rsS b p), .int .i64 (rsN b p)] 42)
  have hB := hB.alloc hB.size (.cells #[.float .f64 (rsT b p), .int .i64 (rsS b p), .int .i64 (rsN b p)] 42)
  clear c0 c1 c2
  generalize (w5.alloc (.cells #[.float .f64 (rsT b p), .int .i64 (rsS b p), .int .i64 (rsN b p)] 42)) = w6 at *
  obtain ⟨c0, c1, c2⟩ := hX.cells
  obtain ⟨d0, d1, d2⟩ := hY.cells
  refine (awake02 _).mono ?_
  rintro e w7 ⟨rfl, hb7⟩
  have hX := hX.below hb7
  have hY := hY.below hb7
  clear c0 c1 c2 d0 d1 d2
  obtain ⟨c0, c1, c2⟩ := hX.cells
  obtain ⟨d0, d1, d2⟩ := hY.cells
  go_wp2_with fail
  refine (rsame_self _ _ _ _).mono ?_
  rintro e w8 ⟨rfl, hb8⟩
  go_wp2
  go_ret
  exact ⟨rfl, below_after (below_after hB hb7) hb8⟩
theorem keys_long (t : Nat) (s n : Int) (b : ByteArray) (p : Int) (w : World) (ht : t < 18446744073709551616) (hb : 3000 < (b.size : Int)) (hm : b.size ≤ 9223372036854775807) :
    Calls Try.prog 15 #[.agg #[.float .f64 t, .int .i64 s, .int .i64 n], .string b, .int .i64 p] w fun e w' => e = .returned (.bool true) ∧ Below w.heap.size w w' := by
  have hz : (b.extract 0 3000).size ≤ 9223372036854775807 := by
    rw [ByteArray.size_extract]
    omega
  have hsl := run_slice_str0 Try.underlying9 b .i64 3000 3000 (by omega) (by omega)
  go_enter Try.func15, Try.ntmps15
  go_wp2_with fail
  have h1 : StAt (w.alloc (.cells #[.float .f64 t, .int .i64 s, .int .i64 n] 42)) w.heap.size t s n := Blk.new w _ _
  have hB : Below w.heap.size w (w.alloc (.cells #[.float .f64 t, .int .i64 s, .int .i64 n] 42)) := (Below.refl _ _).alloc (Nat.le_refl _) _
  generalize (w.alloc (.cells #[.float .f64 t, .int .i64 s, .int .i64 n] 42)) = w1 at *
  refine (key_all t s n _ ht).mono ?_
  rintro e w2 ⟨rfl, hb2⟩
  have h1 := h1.below hb2
  have hB := below_after hB hb2
  clear hb2
  obtain ⟨c0, c1, c2⟩ := h1.cells
  go_wp2_with fail
  refine (rkey_all t s n _ ht).mono ?_
  rintro e w3 ⟨rfl, hb3⟩
  have h1 := h1.below hb3
  have hB := below_after hB hb3
  clear hb3
  obtain ⟨c0, c1, c2⟩ := h1.cells
  go_wp2_with fail
  refine (stread_all (b.extract 0 3000) p _ hz).mono ?_
  unfold rsV
  rintro e w4 ⟨rfl, hb4⟩
  have hB := below_after hB hb4
  clear hb4
  go_wp2_with fail
  have hX : StAt (w4.alloc (.cells #[.float .f64 (rsT (b.extract 0 3000) p), .int .i64 (rsS (b.extract 0 3000) p), .int .i64 (rsN (b.extract 0 3000) p)] 42)) w4.heap.size (rsT (b.extract 0 3000) p) (rsS (b.extract 0 3000) p) (rsN (b.extract 0 3000) p) := Blk.new w4 _ _
  have hB := hB.alloc hB.size (.cells #[.float .f64 (rsT (b.extract 0 3000) p), .int .i64 (rsS (b.extract 0 3000) p), .int .i64 (rsN (b.extract 0 3000) p)] 42)
  have hl : w4.heap.size < (w4.alloc (.cells #[.float .f64 (rsT (b.extract 0 3000) p), .int .i64 (rsS (b.extract 0 3000) p), .int .i64 (rsN (b.extract 0 3000) p)] 42)).heap.size := by simp
  generalize (w4.alloc (.cells #[.float .f64 (rsT (b.extract 0 3000) p), .int .i64 (rsS (b.extract 0 3000) p), .int .i64 (rsN (b.extract 0 3000) p)] 42)) = w4' at *
  refine (rstread_all (b.extract 0 3000) p _ hz).mono ?_
  unfold rsV
  rintro e w5 ⟨rfl, hb5⟩
  have hX := hX.below hb5
  have hB := below_after hB hb5
  clear hb5
  obtain ⟨c0, c1, c2⟩ := hX.cells
  go_wp2_with fail
  have hY : StAt (w5.alloc (.cells #[.float .f64 (rsT (b.extract 0 3000) p), .int .i64 (rsS (b.extract 0 3000) p), .int .i64 (rsN (b.extract 0 3000) p)] 42)) w5.heap.size (rsT (b.extract 0 3000) p) (rsS (b.extract 0 3000) p) (rsN (b.extract 0 3000) p) := Blk.new w5 _ _
  have hX := StAt.alloc_ hX (.cells #[.float .f64 (rsT (b.extract 0 3000) p), .int .i64 (rsS (b.extract 0 3000) p), .int .i64 (rsN (b.extract 0 3000) p)] 42)
  have hB := hB.alloc hB.size (.cells #[.float .f64 (rsT (b.extract 0 3000) p), .int .i64 (rsS (b.extract 0 3000) p), .int .i64 (rsN (b.extract 0 3000) p)] 42)
  clear c0 c1 c2
  generalize (w5.alloc (.cells #[.float .f64 (rsT (b.extract 0 3000) p), .int .i64 (rsS (b.extract 0 3000) p), .int .i64 (rsN (b.extract 0 3000) p)] 42)) = w6 at *
  obtain ⟨c0, c1, c2⟩ := hX.cells
  obtain ⟨d0, d1, d2⟩ := hY.cells
  refine (awake02 _).mono ?_
  rintro e w7 ⟨rfl, hb7⟩
  have hX := hX.below hb7
  have hY := hY.below hb7
  clear c0 c1 c2 d0 d1 d2
  obtain ⟨c0, c1, c2⟩ := hX.cells
  obtain ⟨d0, d1, d2⟩ := hY.cells
  go_wp2_with fail
  refine (rsame_self _ _ _ _).mono ?_
  rintro e w8 ⟨rfl, hb8⟩
  go_wp2
  go_ret
  exact ⟨rfl, below_after (below_after hB hb7) hb8⟩
theorem keys_walk (t : Nat) (s n : Int) (b : ByteArray) (p : Int) (w : World) (ht : t < 18446744073709551616) (hm : b.size ≤ 9223372036854775807) :
    Calls Try.prog 15 #[.agg #[.float .f64 t, .int .i64 s, .int .i64 n], .string b, .int .i64 p] w fun e w' => e = .returned (.bool true) ∧ Below w.heap.size w w' := by
  by_cases hb : (b.size : Int) ≤ 3000
  · exact keys_short t s n b p w ht hb
  · exact keys_long t s n b p w ht (by omega) hm
end Go.Proofs.Ytpgbfglfmmohdaa
