/- One more law of package stamp: keys read back. No condition. -/
import Derived.Test.YtpgbfglfmmohdaaLaw02e
import Derived.Test.YtpgbfglfmmohdaaKeyPl
set_option linter.unusedVariables false
set_option maxRecDepth 20000
namespace Go.Proofs.Ytpgbfglfmmohdaa
open Go.RowKit Go.Deep

theorem skey_neg0 : skey 9223372036854775808 = 0 := by decide
theorem normF_ne (t : Nat) (ht : t < 18446744073709551616) (h : ¬ isNan t) : normF t ≠ 9223372036854775808 := by
  intro e
  rcases normF_sign t ht h with ⟨_, h2⟩ | ⟨h1, _⟩
  · rw [e, skey_neg0] at h2
    omega
  · omega
theorem unB_keyB (b : Nat) (h : b < 18446744073709551616) : unB (keyB b).toNat = b := by
  have : (0 : Int) ≤ keyB b := (keyB_rng b h).1
  unfold keyB at this ⊢
  unfold unB
  split at this <;> split <;> split <;> omega
theorem keyS_size (t : Nat) (s n : Int) : (keyS t s n).size = 24 := by
  unfold keyS
  rw [ByteArray.size_append, ByteArray.size_append, us_size, is_size, is_size]
theorem key_rd (t : Nat) (s n : Int) (ht : t < 18446744073709551616) : rdN (keyS t s n) 0 8 = (keyB (normF t)).toNat := by
  have h := rdN_at (keyS t s n) [] (be 8 (keyB (normF t)).toNat) ((iS s).data.toList ++ (iS n).data.toList) (by rw [keyS_data, uS_data]; rfl)
  rw [be_length, num_be] at h
  have hr := keyB_rng (normF t) (normF_lt t ht)
  rw [show ([] : List UInt8).length = 0 from rfl] at h
  rw [h]
  exact Nat.mod_eq_of_lt (by omega)
theorem key_back (t : Nat) (s n : Int) (ht : t < 18446744073709551616) (hn : ¬ isNan t) (hs : -9223372036854775808 ≤ s ∧ s ≤ 9223372036854775807) (hn' : -9223372036854775808 ≤ n ∧ n ≤ 9223372036854775807) :
    rsV (keyS t s n) 0 = .tuple #[.agg #[.float .f64 (normF t), .int .i64 s, .int .i64 n], .int .i64 24, .int .i64 0] := by
  have e0 : unB (rdN (keyS t s n) 0 8) = normF t := by rw [key_rd t s n ht, unB_keyB _ (normF_lt t ht)]
  have e1 : unI (rdN (keyS t s n) (0 + 8) 8 : Nat) = s := by
    have h := i_back (uS (keyB (normF t))) (iS n) s hs.1 hs.2
    rw [us_size] at h
    exact h
  have e2 : unI (rdN (keyS t s n) (0 + 16) 8 : Nat) = n := by
    have h := i_back (uS (keyB (normF t)) ++ iS s) ⟨#[]⟩ n hn'.1 hn'.2
    rw [ByteArray.size_append, us_size, is_size, show ((uS (keyB (normF t)) ++ iS s) ++ iS n) ++ (⟨#[]⟩ : ByteArray) = keyS t s n from by
      unfold keyS
      exact ByteArray.ext (by simp)] at h
    exact h
  have hb : ¬ badB (rdN (keyS t s n) 0 8) := by
    unfold badB
    rw [e0]
    rintro (h | h)
    · exact (normF_key hn).1 h
    · exact normF_ne t ht hn h
  have h := rs_yes (s := keyS t s n) (q := 0) (rs_ok (by rw [keyS_size]; omega) hb)
  rw [e0, e1, e2] at h
  exact h
theorem cmpS_norm (t : Nat) (s n : Int) (hn : ¬ isNan t) : cmpS (normF t) s n t s n = 0 := by
  have w := cmpS_ways (normF t) t s n s n
  rw [tk_num hn, tk_num (normF_key hn).1, (normF_key hn).2] at w
  omega

attribute [local go_sem] run_store_float

set_option maxHeartbeats 800000 in
theorem back_nan_long (t : Nat) (s n : Int) (b : ByteArray) (p : Int) (w : World) (ht : t < 18446744073709551616) (hs : -9223372036854775808 ≤ s ∧ s ≤ 9223372036854775807) (hn : -9223372036854775808 ≤ n ∧ n ≤ 9223372036854775807) (nt : isNan t) (hb : 3000 < (b.size : Int)) (hm : b.size ≤ 9223372036854775807) :
    Calls Try.prog 16 #[.agg #[.float .f64 t, .int .i64 s, .int .i64 n], .string b, .int .i64 p] w fun e w' => e = .returned (.bool true) ∧ Below w.heap.size w w' := by
  go_enter Try.func16, Try.ntmps16
  go_wp2_with fail
  have h1 : StAt (w.alloc (.cells #[.float .f64 t, .int .i64 s, .int .i64 n] 42)) w.heap.size t s n := Blk.new w _ _
  have hB : Below w.heap.size w (w.alloc (.cells #[.float .f64 t, .int .i64 s, .int .i64 n] 42)) := (Below.refl _ _).alloc (Nat.le_refl _) _
  generalize (w.alloc (.cells #[.float .f64 t, .int .i64 s, .int .i64 n] 42)) = w1 at *
  refine (key_nan t s n _ nt).mono ?_
  rintro e w2 ⟨rfl, hb2⟩
  have h1 := h1.below hb2
  have hB := below_after hB hb2
  clear hb2
  obtain ⟨c0, c1, c2⟩ := h1.cells
  go_wp2_with fail
  refine (awake02 _).mono ?_
  rintro e w9 ⟨rfl, hb9⟩
  have hB := below_after hB hb9
  go_wp2
  go_ret
  exact ⟨rfl, hB⟩

set_option maxHeartbeats 800000 in
theorem back_nan_bad (t : Nat) (s n : Int) (b : ByteArray) (p : Int) (w : World) (ht : t < 18446744073709551616) (hs : -9223372036854775808 ≤ s ∧ s ≤ 9223372036854775807) (hn : -9223372036854775808 ≤ n ∧ n ≤ 9223372036854775807) (nt : isNan t) (hb : (b.size : Int) ≤ 3000) (hE : (rsE b p == 0) = false) (hm : b.size ≤ 9223372036854775807) :
    Calls Try.prog 16 #[.agg #[.float .f64 t, .int .i64 s, .int .i64 n], .string b, .int .i64 p] w fun e w' => e = .returned (.bool true) ∧ Below w.heap.size w w' := by
  go_enter Try.func16, Try.ntmps16
  go_wp2_with fail
  have h1 : StAt (w.alloc (.cells #[.float .f64 t, .int .i64 s, .int .i64 n] 42)) w.heap.size t s n := Blk.new w _ _
  have hB : Below w.heap.size w (w.alloc (.cells #[.float .f64 t, .int .i64 s, .int .i64 n] 42)) := (Below.refl _ _).alloc (Nat.le_refl _) _
  generalize (w.alloc (.cells #[.float .f64 t, .int .i64 s, .int .i64 n] 42)) = w1 at *
  refine (key_nan t s n _ nt).mono ?_
  rintro e w2 ⟨rfl, hb2⟩
  have h1 := h1.below hb2
  have hB := below_after hB hb2
  clear hb2
  obtain ⟨c0, c1, c2⟩ := h1.cells
  go_wp2_with fail
  refine (stread_all b p _ (by omega)).mono ?_
  unfold rsV
  rintro e w5 ⟨rfl, hb5⟩
  have hB := below_after hB hb5
  go_wp2_with fail
  have hB := hB.alloc hB.size (.cells #[.float .f64 (rsT b p), .int .i64 (rsS b p), .int .i64 (rsN b p)] 42)
  refine (awake02 _).mono ?_
  rintro e w9 ⟨rfl, hb9⟩
  have hB := below_after hB hb9
  go_wp2
  go_ret
  exact ⟨rfl, hB⟩

set_option maxHeartbeats 800000 in
theorem back_nan_good (t : Nat) (s n : Int) (b : ByteArray) (q : Nat) (w : World) (ht : t < 18446744073709551616) (hs : -9223372036854775808 ≤ s ∧ s ≤ 9223372036854775807) (hn : -9223372036854775808 ≤ n ∧ n ≤ 9223372036854775807) (nt : isNan t) (hb : (b.size : Int) ≤ 3000) (hq : q + 24 ≤ b.size) (nx : ¬ isNan (unB (rdN b q 8))) (n0 : unB (rdN b q 8) ≠ 9223372036854775808) (hm : b.size ≤ 9223372036854775807) :
    Calls Try.prog 16 #[.agg #[.float .f64 t, .int .i64 s, .int .i64 n], .string b, .int .i64 (q : Nat)] w fun e w' => e = .returned (.bool true) ∧ Below w.heap.size w w' := by
  have hr := rdN_lt b q 8
  have hk := key_yes b q _ _ hq rfl rfl nx n0
  have hlu := unB_lt _ hr
  have hsl := run_slice_str Try.underlying9 b .i64 .i64 (q : Int) ((q : Int) + 24) q (q + 24) rfl (by omega) (by omega) hq
  have Hr := hide (rs_yes (rs_ok hq (fun h => h.elim nx n0)))
  have Hy := hide hk
  clear hk hr n0
  generalize unB (rdN b q 8) = u at *
  go_enter Try.func16, Try.ntmps16
  go_wp2_with fail
  have h1 : StAt (w.alloc (.cells #[.float .f64 t, .int .i64 s, .int .i64 n] 42)) w.heap.size t s n := Blk.new w _ _
  have hB : Below w.heap.size w (w.alloc (.cells #[.float .f64 t, .int .i64 s, .int .i64 n] 42)) := (Below.refl _ _).alloc (Nat.le_refl _) _
  generalize (w.alloc (.cells #[.float .f64 t, .int .i64 s, .int .i64 n] 42)) = w1 at *
  refine (key_nan t s n _ nt).mono ?_
  rintro e w2 ⟨rfl, hb2⟩
  have h1 := h1.below hb2
  have hB := below_after hB hb2
  clear hb2
  obtain ⟨c0, c1, c2⟩ := h1.cells
  go_wp2_with fail
  refine (stread_all b q _ (by omega)).mono ?_
  rw [Hr.out, show ((q + 24 : Nat) : Int) = (q : Int) + 24 from by omega]
  rintro e w5 ⟨rfl, hb5⟩
  have hB := below_after hB hb5
  go_wp2_with fail
  have hB := hB.alloc hB.size (.cells #[.float .f64 u, .int .i64 (unI (rdN b (q + 8) 8 : Nat)), .int .i64 (unI (rdN b (q + 16) 8 : Nat))] 42)
  refine (key_any u _ _ _ hlu nx).mono ?_
  rw [Hy.out]
  rintro e w6 ⟨rfl, hb6⟩
  have hB := below_after hB hb6
  go_wp2_with fail
  refine (awake02 _).mono ?_
  rintro e w9 ⟨rfl, hb9⟩
  have hB := below_after hB hb9
  go_wp2
  go_ret
  exact ⟨rfl, hB⟩

set_option maxHeartbeats 800000 in
theorem back_pos_long (t : Nat) (s n : Int) (b : ByteArray) (p : Int) (w : World) (ht : t < 18446744073709551616) (hs : -9223372036854775808 ≤ s ∧ s ≤ 9223372036854775807) (hn : -9223372036854775808 ≤ n ∧ n ≤ 9223372036854775807) (nt : ¬ isNan t) (hsg : ¬ 9223372036854775808 ≤ normF t) (hb : 3000 < (b.size : Int)) (hm : b.size ≤ 9223372036854775807) :
    Calls Try.prog 16 #[.agg #[.float .f64 t, .int .i64 s, .int .i64 n], .string b, .int .i64 p] w fun e w' => e = .returned (.bool true) ∧ Below w.heap.size w w' := by
  have Hk := hide (key_back t s n ht nt hs hn)
  have Hc := hide (cmpS_norm t s n nt)
  have hlt := normF_lt t ht
  clear hs hn
  have hg : decide (9223372036854775808 ≤ normF t) = false := by
    rw [decide_eq_false_iff_not]
    exact hsg
  clear hsg
  go_enter Try.func16, Try.ntmps16
  go_wp2_with fail
  have h1 : StAt (w.alloc (.cells #[.float .f64 t, .int .i64 s, .int .i64 n] 42)) w.heap.size t s n := Blk.new w _ _
  have hB : Below w.heap.size w (w.alloc (.cells #[.float .f64 t, .int .i64 s, .int .i64 n] 42)) := (Below.refl _ _).alloc (Nat.le_refl _) _
  generalize (w.alloc (.cells #[.float .f64 t, .int .i64 s, .int .i64 n] 42)) = w1 at *
  refine (key_any t s n _ ht nt).mono ?_
  rintro e w2 ⟨rfl, hb2⟩
  have h1 := h1.below hb2
  have hB := below_after hB hb2
  clear hb2
  obtain ⟨c0, c1, c2⟩ := h1.cells
  go_wp2_with fail
  refine (stread_all (keyS t s n) 0 _ (by rw [keyS_size]; omega)).mono ?_
  rw [Hk.out]
  rintro e w3 ⟨rfl, hb3⟩
  have h1 := h1.below hb3
  have hB := below_after hB hb3
  clear hb3
  have hX : StAt (w3.alloc (.cells #[.float .f64 (normF t), .int .i64 s, .int .i64 n] 42)) w3.heap.size (normF t) s n := Blk.new w3 _ _
  have hB := hB.alloc hB.size (.cells #[.float .f64 (normF t), .int .i64 s, .int .i64 n] 42)
  have h1 := StAt.alloc_ h1 (.cells #[.float .f64 (normF t), .int .i64 s, .int .i64 n] 42)
  obtain ⟨c0, c1, c2⟩ := h1.cells
  obtain ⟨d0, d1, d2⟩ := hX.cells
  go_wp2_with fail
  generalize (w3.alloc (.cells #[.float .f64 (normF t), .int .i64 s, .int .i64 n] 42)) = w3' at *
  refine (compare_any (normF t) t s n s n _).mono ?_
  rw [Hc.out]
  rintro e w4 ⟨rfl, hb4⟩
  have h1 := h1.below hb4
  have hX := hX.below hb4
  have hB := below_after hB hb4
  clear hb4
  obtain ⟨d0, d1, d2⟩ := hX.cells
  obtain ⟨c0, c1, c2⟩ := h1.cells
  go_wp2_with fail
  refine (signbit_any _ _ hlt).mono ?_
  rintro e w' ⟨rfl, rfl⟩
  go_wp2_with fail
  refine (awake02 _).mono ?_
  rintro e w9 ⟨rfl, hb9⟩
  have hB := below_after hB hb9
  go_wp2
  go_ret
  exact ⟨rfl, hB⟩

set_option maxHeartbeats 800000 in
theorem back_pos_bad (t : Nat) (s n : Int) (b : ByteArray) (p : Int) (w : World) (ht : t < 18446744073709551616) (hs : -9223372036854775808 ≤ s ∧ s ≤ 9223372036854775807) (hn : -9223372036854775808 ≤ n ∧ n ≤ 9223372036854775807) (nt : ¬ isNan t) (hsg : ¬ 9223372036854775808 ≤ normF t) (hb : (b.size : Int) ≤ 3000) (hE : (rsE b p == 0) = false) (hm : b.size ≤ 9223372036854775807) :
    Calls Try.prog 16 #[.agg #[.float .f64 t, .int .i64 s, .int .i64 n], .string b, .int .i64 p] w fun e w' => e = .returned (.bool true) ∧ Below w.heap.size w w' := by
  have Hk := hide (key_back t s n ht nt hs hn)
  have Hc := hide (cmpS_norm t s n nt)
  have hlt := normF_lt t ht
  clear hs hn
  have hg : decide (9223372036854775808 ≤ normF t) = false := by
    rw [decide_eq_false_iff_not]
    exact hsg
  clear hsg
  go_enter Try.func16, Try.ntmps16
  go_wp2_with fail
  have h1 : StAt (w.alloc (.cells #[.float .f64 t, .int .i64 s, .int .i64 n] 42)) w.heap.size t s n := Blk.new w _ _
  have hB : Below w.heap.size w (w.alloc (.cells #[.float .f64 t, .int .i64 s, .int .i64 n] 42)) := (Below.refl _ _).alloc (Nat.le_refl _) _
  generalize (w.alloc (.cells #[.float .f64 t, .int .i64 s, .int .i64 n] 42)) = w1 at *
  refine (key_any t s n _ ht nt).mono ?_
  rintro e w2 ⟨rfl, hb2⟩
  have h1 := h1.below hb2
  have hB := below_after hB hb2
  clear hb2
  obtain ⟨c0, c1, c2⟩ := h1.cells
  go_wp2_with fail
  refine (stread_all (keyS t s n) 0 _ (by rw [keyS_size]; omega)).mono ?_
  rw [Hk.out]
  rintro e w3 ⟨rfl, hb3⟩
  have h1 := h1.below hb3
  have hB := below_after hB hb3
  clear hb3
  have hX : StAt (w3.alloc (.cells #[.float .f64 (normF t), .int .i64 s, .int .i64 n] 42)) w3.heap.size (normF t) s n := Blk.new w3 _ _
  have hB := hB.alloc hB.size (.cells #[.float .f64 (normF t), .int .i64 s, .int .i64 n] 42)
  have h1 := StAt.alloc_ h1 (.cells #[.float .f64 (normF t), .int .i64 s, .int .i64 n] 42)
  obtain ⟨c0, c1, c2⟩ := h1.cells
  obtain ⟨d0, d1, d2⟩ := hX.cells
  go_wp2_with fail
  generalize (w3.alloc (.cells #[.float .f64 (normF t), .int .i64 s, .int .i64 n] 42)) = w3' at *
  refine (compare_any (normF t) t s n s n _).mono ?_
  rw [Hc.out]
  rintro e w4 ⟨rfl, hb4⟩
  have h1 := h1.below hb4
  have hX := hX.below hb4
  have hB := below_after hB hb4
  clear hb4
  obtain ⟨d0, d1, d2⟩ := hX.cells
  obtain ⟨c0, c1, c2⟩ := h1.cells
  go_wp2_with fail
  refine (signbit_any _ _ hlt).mono ?_
  rintro e w' ⟨rfl, rfl⟩
  go_wp2_with fail
  refine (stread_all b p _ (by omega)).mono ?_
  unfold rsV
  rintro e w5 ⟨rfl, hb5⟩
  have hB := below_after hB hb5
  go_wp2_with fail
  have hB := hB.alloc hB.size (.cells #[.float .f64 (rsT b p), .int .i64 (rsS b p), .int .i64 (rsN b p)] 42)
  refine (awake02 _).mono ?_
  rintro e w9 ⟨rfl, hb9⟩
  have hB := below_after hB hb9
  go_wp2
  go_ret
  exact ⟨rfl, hB⟩

set_option maxHeartbeats 800000 in
theorem back_pos_good (t : Nat) (s n : Int) (b : ByteArray) (q : Nat) (w : World) (ht : t < 18446744073709551616) (hs : -9223372036854775808 ≤ s ∧ s ≤ 9223372036854775807) (hn : -9223372036854775808 ≤ n ∧ n ≤ 9223372036854775807) (nt : ¬ isNan t) (hsg : ¬ 9223372036854775808 ≤ normF t) (hb : (b.size : Int) ≤ 3000) (hq : q + 24 ≤ b.size) (nx : ¬ isNan (unB (rdN b q 8))) (n0 : unB (rdN b q 8) ≠ 9223372036854775808) (hm : b.size ≤ 9223372036854775807) :
    Calls Try.prog 16 #[.agg #[.float .f64 t, .int .i64 s, .int .i64 n], .string b, .int .i64 (q : Nat)] w fun e w' => e = .returned (.bool true) ∧ Below w.heap.size w w' := by
  have Hk := hide (key_back t s n ht nt hs hn)
  have Hc := hide (cmpS_norm t s n nt)
  have hlt := normF_lt t ht
  clear hs hn
  have hg : decide (9223372036854775808 ≤ normF t) = false := by
    rw [decide_eq_false_iff_not]
    exact hsg
  clear hsg
  have hr := rdN_lt b q 8
  have hk := key_yes b q _ _ hq rfl rfl nx n0
  have hlu := unB_lt _ hr
  have hsl := run_slice_str Try.underlying9 b .i64 .i64 (q : Int) ((q : Int) + 24) q (q + 24) rfl (by omega) (by omega) hq
  have Hr := hide (rs_yes (rs_ok hq (fun h => h.elim nx n0)))
  have Hy := hide hk
  clear hk hr n0
  generalize unB (rdN b q 8) = u at *
  go_enter Try.func16, Try.ntmps16
  go_wp2_with fail
  have h1 : StAt (w.alloc (.cells #[.float .f64 t, .int .i64 s, .int .i64 n] 42)) w.heap.size t s n := Blk.new w _ _
  have hB : Below w.heap.size w (w.alloc (.cells #[.float .f64 t, .int .i64 s, .int .i64 n] 42)) := (Below.refl _ _).alloc (Nat.le_refl _) _
  generalize (w.alloc (.cells #[.float .f64 t, .int .i64 s, .int .i64 n] 42)) = w1 at *
  refine (key_any t s n _ ht nt).mono ?_
  rintro e w2 ⟨rfl, hb2⟩
  have h1 := h1.below hb2
  have hB := below_after hB hb2
  clear hb2
  obtain ⟨c0, c1, c2⟩ := h1.cells
  go_wp2_with fail
  refine (stread_all (keyS t s n) 0 _ (by rw [keyS_size]; omega)).mono ?_
  rw [Hk.out]
  rintro e w3 ⟨rfl, hb3⟩
  have h1 := h1.below hb3
  have hB := below_after hB hb3
  clear hb3
  have hX : StAt (w3.alloc (.cells #[.float .f64 (normF t), .int .i64 s, .int .i64 n] 42)) w3.heap.size (normF t) s n := Blk.new w3 _ _
  have hB := hB.alloc hB.size (.cells #[.float .f64 (normF t), .int .i64 s, .int .i64 n] 42)
  have h1 := StAt.alloc_ h1 (.cells #[.float .f64 (normF t), .int .i64 s, .int .i64 n] 42)
  obtain ⟨c0, c1, c2⟩ := h1.cells
  obtain ⟨d0, d1, d2⟩ := hX.cells
  go_wp2_with fail
  generalize (w3.alloc (.cells #[.float .f64 (normF t), .int .i64 s, .int .i64 n] 42)) = w3' at *
  refine (compare_any (normF t) t s n s n _).mono ?_
  rw [Hc.out]
  rintro e w4 ⟨rfl, hb4⟩
  have h1 := h1.below hb4
  have hX := hX.below hb4
  have hB := below_after hB hb4
  clear hb4
  obtain ⟨d0, d1, d2⟩ := hX.cells
  obtain ⟨c0, c1, c2⟩ := h1.cells
  go_wp2_with fail
  refine (signbit_any _ _ hlt).mono ?_
  rintro e w' ⟨rfl, rfl⟩
  go_wp2_with fail
  refine (stread_all b q _ (by omega)).mono ?_
  rw [Hr.out, show ((q + 24 : Nat) : Int) = (q : Int) + 24 from by omega]
  rintro e w5 ⟨rfl, hb5⟩
  have hB := below_after hB hb5
  go_wp2_with fail
  have hB := hB.alloc hB.size (.cells #[.float .f64 u, .int .i64 (unI (rdN b (q + 8) 8 : Nat)), .int .i64 (unI (rdN b (q + 16) 8 : Nat))] 42)
  refine (key_any u _ _ _ hlu nx).mono ?_
  rw [Hy.out]
  rintro e w6 ⟨rfl, hb6⟩
  have hB := below_after hB hb6
  go_wp2_with fail
  refine (awake02 _).mono ?_
  rintro e w9 ⟨rfl, hb9⟩
  have hB := below_after hB hb9
  go_wp2
  go_ret
  exact ⟨rfl, hB⟩

set_option maxHeartbeats 800000 in
theorem back_neg_long (t : Nat) (s n : Int) (b : ByteArray) (p : Int) (w : World) (ht : t < 18446744073709551616) (hs : -9223372036854775808 ≤ s ∧ s ≤ 9223372036854775807) (hn : -9223372036854775808 ≤ n ∧ n ≤ 9223372036854775807) (nt : ¬ isNan t) (hsg : 9223372036854775808 ≤ normF t) (hb : 3000 < (b.size : Int)) (hm : b.size ≤ 9223372036854775807) :
    Calls Try.prog 16 #[.agg #[.float .f64 t, .int .i64 s, .int .i64 n], .string b, .int .i64 p] w fun e w' => e = .returned (.bool true) ∧ Below w.heap.size w w' := by
  have fl : FloatKind.f64.format.order (normF t) 0 = some .lt := by
    refine fo_lt _ _ (normF_key nt).1 zero_num ?_
    rw [skey_zero]
    rcases normF_sign t ht nt with ⟨_, h⟩ | ⟨h, _⟩
    · exact h
    · exact absurd hsg (by omega)
  have Hk := hide (key_back t s n ht nt hs hn)
  have Hc := hide (cmpS_norm t s n nt)
  have hlt := normF_lt t ht
  clear hs hn
  have hg : decide (9223372036854775808 ≤ normF t) = true := by
    rw [decide_eq_true_eq]
    exact hsg
  clear hsg
  go_enter Try.func16, Try.ntmps16
  go_wp2_with fail
  have h1 : StAt (w.alloc (.cells #[.float .f64 t, .int .i64 s, .int .i64 n] 42)) w.heap.size t s n := Blk.new w _ _
  have hB : Below w.heap.size w (w.alloc (.cells #[.float .f64 t, .int .i64 s, .int .i64 n] 42)) := (Below.refl _ _).alloc (Nat.le_refl _) _
  generalize (w.alloc (.cells #[.float .f64 t, .int .i64 s, .int .i64 n] 42)) = w1 at *
  refine (key_any t s n _ ht nt).mono ?_
  rintro e w2 ⟨rfl, hb2⟩
  have h1 := h1.below hb2
  have hB := below_after hB hb2
  clear hb2
  obtain ⟨c0, c1, c2⟩ := h1.cells
  go_wp2_with fail
  refine (stread_all (keyS t s n) 0 _ (by rw [keyS_size]; omega)).mono ?_
  rw [Hk.out]
  rintro e w3 ⟨rfl, hb3⟩
  have h1 := h1.below hb3
  have hB := below_after hB hb3
  clear hb3
  have hX : StAt (w3.alloc (.cells #[.float .f64 (normF t), .int .i64 s, .int .i64 n] 42)) w3.heap.size (normF t) s n := Blk.new w3 _ _
  have hB := hB.alloc hB.size (.cells #[.float .f64 (normF t), .int .i64 s, .int .i64 n] 42)
  have h1 := StAt.alloc_ h1 (.cells #[.float .f64 (normF t), .int .i64 s, .int .i64 n] 42)
  obtain ⟨c0, c1, c2⟩ := h1.cells
  obtain ⟨d0, d1, d2⟩ := hX.cells
  go_wp2_with fail
  generalize (w3.alloc (.cells #[.float .f64 (normF t), .int .i64 s, .int .i64 n] 42)) = w3' at *
  refine (compare_any (normF t) t s n s n _).mono ?_
  rw [Hc.out]
  rintro e w4 ⟨rfl, hb4⟩
  have h1 := h1.below hb4
  have hX := hX.below hb4
  have hB := below_after hB hb4
  clear hb4
  obtain ⟨d0, d1, d2⟩ := hX.cells
  obtain ⟨c0, c1, c2⟩ := h1.cells
  go_wp2_with fail
  refine (signbit_any _ _ hlt).mono ?_
  rintro e w' ⟨rfl, rfl⟩
  go_wp2_with fail
  refine (awake02 _).mono ?_
  rintro e w9 ⟨rfl, hb9⟩
  have hB := below_after hB hb9
  go_wp2
  go_ret
  exact ⟨rfl, hB⟩

set_option maxHeartbeats 800000 in
theorem back_neg_bad (t : Nat) (s n : Int) (b : ByteArray) (p : Int) (w : World) (ht : t < 18446744073709551616) (hs : -9223372036854775808 ≤ s ∧ s ≤ 9223372036854775807) (hn : -9223372036854775808 ≤ n ∧ n ≤ 9223372036854775807) (nt : ¬ isNan t) (hsg : 9223372036854775808 ≤ normF t) (hb : (b.size : Int) ≤ 3000) (hE : (rsE b p == 0) = false) (hm : b.size ≤ 9223372036854775807) :
    Calls Try.prog 16 #[.agg #[.float .f64 t, .int .i64 s, .int .i64 n], .string b, .int .i64 p] w fun e w' => e = .returned (.bool true) ∧ Below w.heap.size w w' := by
  have fl : FloatKind.f64.format.order (normF t) 0 = some .lt := by
    refine fo_lt _ _ (normF_key nt).1 zero_num ?_
    rw [skey_zero]
    rcases normF_sign t ht nt with ⟨_, h⟩ | ⟨h, _⟩
    · exact h
    · exact absurd hsg (by omega)
  have Hk := hide (key_back t s n ht nt hs hn)
  have Hc := hide (cmpS_norm t s n nt)
  have hlt := normF_lt t ht
  clear hs hn
  have hg : decide (9223372036854775808 ≤ normF t) = true := by
    rw [decide_eq_true_eq]
    exact hsg
  clear hsg
  go_enter Try.func16, Try.ntmps16
  go_wp2_with fail
  have h1 : StAt (w.alloc (.cells #[.float .f64 t, .int .i64 s, .int .i64 n] 42)) w.heap.size t s n := Blk.new w _ _
  have hB : Below w.heap.size w (w.alloc (.cells #[.float .f64 t, .int .i64 s, .int .i64 n] 42)) := (Below.refl _ _).alloc (Nat.le_refl _) _
  generalize (w.alloc (.cells #[.float .f64 t, .int .i64 s, .int .i64 n] 42)) = w1 at *
  refine (key_any t s n _ ht nt).mono ?_
  rintro e w2 ⟨rfl, hb2⟩
  have h1 := h1.below hb2
  have hB := below_after hB hb2
  clear hb2
  obtain ⟨c0, c1, c2⟩ := h1.cells
  go_wp2_with fail
  refine (stread_all (keyS t s n) 0 _ (by rw [keyS_size]; omega)).mono ?_
  rw [Hk.out]
  rintro e w3 ⟨rfl, hb3⟩
  have h1 := h1.below hb3
  have hB := below_after hB hb3
  clear hb3
  have hX : StAt (w3.alloc (.cells #[.float .f64 (normF t), .int .i64 s, .int .i64 n] 42)) w3.heap.size (normF t) s n := Blk.new w3 _ _
  have hB := hB.alloc hB.size (.cells #[.float .f64 (normF t), .int .i64 s, .int .i64 n] 42)
  have h1 := StAt.alloc_ h1 (.cells #[.float .f64 (normF t), .int .i64 s, .int .i64 n] 42)
  obtain ⟨c0, c1, c2⟩ := h1.cells
  obtain ⟨d0, d1, d2⟩ := hX.cells
  go_wp2_with fail
  generalize (w3.alloc (.cells #[.float .f64 (normF t), .int .i64 s, .int .i64 n] 42)) = w3' at *
  refine (compare_any (normF t) t s n s n _).mono ?_
  rw [Hc.out]
  rintro e w4 ⟨rfl, hb4⟩
  have h1 := h1.below hb4
  have hX := hX.below hb4
  have hB := below_after hB hb4
  clear hb4
  obtain ⟨d0, d1, d2⟩ := hX.cells
  obtain ⟨c0, c1, c2⟩ := h1.cells
  go_wp2_with fail
  refine (signbit_any _ _ hlt).mono ?_
  rintro e w' ⟨rfl, rfl⟩
  go_wp2_with fail
  refine (stread_all b p _ (by omega)).mono ?_
  unfold rsV
  rintro e w5 ⟨rfl, hb5⟩
  have hB := below_after hB hb5
  go_wp2_with fail
  have hB := hB.alloc hB.size (.cells #[.float .f64 (rsT b p), .int .i64 (rsS b p), .int .i64 (rsN b p)] 42)
  refine (awake02 _).mono ?_
  rintro e w9 ⟨rfl, hb9⟩
  have hB := below_after hB hb9
  go_wp2
  go_ret
  exact ⟨rfl, hB⟩

set_option maxHeartbeats 800000 in
theorem back_neg_good (t : Nat) (s n : Int) (b : ByteArray) (q : Nat) (w : World) (ht : t < 18446744073709551616) (hs : -9223372036854775808 ≤ s ∧ s ≤ 9223372036854775807) (hn : -9223372036854775808 ≤ n ∧ n ≤ 9223372036854775807) (nt : ¬ isNan t) (hsg : 9223372036854775808 ≤ normF t) (hb : (b.size : Int) ≤ 3000) (hq : q + 24 ≤ b.size) (nx : ¬ isNan (unB (rdN b q 8))) (n0 : unB (rdN b q 8) ≠ 9223372036854775808) (hm : b.size ≤ 9223372036854775807) :
    Calls Try.prog 16 #[.agg #[.float .f64 t, .int .i64 s, .int .i64 n], .string b, .int .i64 (q : Nat)] w fun e w' => e = .returned (.bool true) ∧ Below w.heap.size w w' := by
  have fl : FloatKind.f64.format.order (normF t) 0 = some .lt := by
    refine fo_lt _ _ (normF_key nt).1 zero_num ?_
    rw [skey_zero]
    rcases normF_sign t ht nt with ⟨_, h⟩ | ⟨h, _⟩
    · exact h
    · exact absurd hsg (by omega)
  have Hk := hide (key_back t s n ht nt hs hn)
  have Hc := hide (cmpS_norm t s n nt)
  have hlt := normF_lt t ht
  clear hs hn
  have hg : decide (9223372036854775808 ≤ normF t) = true := by
    rw [decide_eq_true_eq]
    exact hsg
  clear hsg
  have hr := rdN_lt b q 8
  have hk := key_yes b q _ _ hq rfl rfl nx n0
  have hlu := unB_lt _ hr
  have hsl := run_slice_str Try.underlying9 b .i64 .i64 (q : Int) ((q : Int) + 24) q (q + 24) rfl (by omega) (by omega) hq
  have Hr := hide (rs_yes (rs_ok hq (fun h => h.elim nx n0)))
  have Hy := hide hk
  clear hk hr n0
  generalize unB (rdN b q 8) = u at *
  go_enter Try.func16, Try.ntmps16
  go_wp2_with fail
  have h1 : StAt (w.alloc (.cells #[.float .f64 t, .int .i64 s, .int .i64 n] 42)) w.heap.size t s n := Blk.new w _ _
  have hB : Below w.heap.size w (w.alloc (.cells #[.float .f64 t, .int .i64 s, .int .i64 n] 42)) := (Below.refl _ _).alloc (Nat.le_refl _) _
  generalize (w.alloc (.cells #[.float .f64 t, .int .i64 s, .int .i64 n] 42)) = w1 at *
  refine (key_any t s n _ ht nt).mono ?_
  rintro e w2 ⟨rfl, hb2⟩
  have h1 := h1.below hb2
  have hB := below_after hB hb2
  clear hb2
  obtain ⟨c0, c1, c2⟩ := h1.cells
  go_wp2_with fail
  refine (stread_all (keyS t s n) 0 _ (by rw [keyS_size]; omega)).mono ?_
  rw [Hk.out]
  rintro e w3 ⟨rfl, hb3⟩
  have h1 := h1.below hb3
  have hB := below_after hB hb3
  clear hb3
  have hX : StAt (w3.alloc (.cells #[.float .f64 (normF t), .int .i64 s, .int .i64 n] 42)) w3.heap.size (normF t) s n := Blk.new w3 _ _
  have hB := hB.alloc hB.size (.cells #[.float .f64 (normF t), .int .i64 s, .int .i64 n] 42)
  have h1 := StAt.alloc_ h1 (.cells #[.float .f64 (normF t), .int .i64 s, .int .i64 n] 42)
  obtain ⟨c0, c1, c2⟩ := h1.cells
  obtain ⟨d0, d1, d2⟩ := hX.cells
  go_wp2_with fail
  generalize (w3.alloc (.cells #[.float .f64 (normF t), .int .i64 s, .int .i64 n] 42)) = w3' at *
  refine (compare_any (normF t) t s n s n _).mono ?_
  rw [Hc.out]
  rintro e w4 ⟨rfl, hb4⟩
  have h1 := h1.below hb4
  have hX := hX.below hb4
  have hB := below_after hB hb4
  clear hb4
  obtain ⟨d0, d1, d2⟩ := hX.cells
  obtain ⟨c0, c1, c2⟩ := h1.cells
  go_wp2_with fail
  refine (signbit_any _ _ hlt).mono ?_
  rintro e w' ⟨rfl, rfl⟩
  go_wp2_with fail
  refine (stread_all b q _ (by omega)).mono ?_
  rw [Hr.out, show ((q + 24 : Nat) : Int) = (q : Int) + 24 from by omega]
  rintro e w5 ⟨rfl, hb5⟩
  have hB := below_after hB hb5
  go_wp2_with fail
  have hB := hB.alloc hB.size (.cells #[.float .f64 u, .int .i64 (unI (rdN b (q + 8) 8 : Nat)), .int .i64 (unI (rdN b (q + 16) 8 : Nat))] 42)
  refine (key_any u _ _ _ hlu nx).mono ?_
  rw [Hy.out]
  rintro e w6 ⟨rfl, hb6⟩
  have hB := below_after hB hb6
  go_wp2_with fail
  refine (awake02 _).mono ?_
  rintro e w9 ⟨rfl, hb9⟩
  have hB := below_after hB hb9
  go_wp2
  go_ret
  exact ⟨rfl, hB⟩

theorem back_walk (t : Nat) (s n : Int) (b : ByteArray) (p : Int) (w : World) (ht : t < 18446744073709551616) (hs : -9223372036854775808 ≤ s ∧ s ≤ 9223372036854775807) (hn : -9223372036854775808 ≤ n ∧ n ≤ 9223372036854775807) (hm : b.size ≤ 9223372036854775807) :
    Calls Try.prog 16 #[.agg #[.float .f64 t, .int .i64 s, .int .i64 n], .string b, .int .i64 p] w fun e w' => e = .returned (.bool true) ∧ Below w.heap.size w w' := by
  by_cases hb : 3000 < (b.size : Int)
  · by_cases nt : isNan t
    · exact back_nan_long t s n b p w ht hs hn nt hb hm
    · by_cases hsg : 9223372036854775808 ≤ normF t
      · exact back_neg_long t s n b p w ht hs hn nt hsg hb hm
      · exact back_pos_long t s n b p w ht hs hn nt hsg hb hm
  · by_cases hg : ∃ q : Nat, p = (q : Int) ∧ q + 24 ≤ b.size ∧ ¬ badB (rdN b q 8)
    · obtain ⟨q, rfl, hq, hbad⟩ := hg
      have nx : ¬ isNan (unB (rdN b q 8)) := fun h => hbad (.inl h)
      have n0 : unB (rdN b q 8) ≠ 9223372036854775808 := fun h => hbad (.inr h)
      by_cases nt : isNan t
      · exact back_nan_good t s n b q w ht hs hn nt (by omega) hq nx n0 hm
      · by_cases hsg : 9223372036854775808 ≤ normF t
        · exact back_neg_good t s n b q w ht hs hn nt hsg (by omega) hq nx n0 hm
        · exact back_pos_good t s n b q w ht hs hn nt hsg (by omega) hq nx n0 hm
    · have hE : (rsE b p == 0) = false := by
        rw [beq_eq_false_iff_ne]
        by_cases h : p < 0 ∨ (b.size : Int) < p
        · rw [rs_range h]; decide
        · by_cases h2 : (b.size : Int) - p < 24
          · rw [rs_short h h2]; decide
          · obtain ⟨q, rfl⟩ := Int.eq_ofNat_of_zero_le (show 0 ≤ p by omega)
            have hbad : badB (rdN b q 8) := Classical.byContradiction fun hh => hg ⟨q, rfl, by omega, hh⟩
            rw [rs_bad (by omega) hbad]; decide
      by_cases nt : isNan t
      · exact back_nan_bad t s n b p w ht hs hn nt (by omega) hE hm
      · by_cases hsg : 9223372036854775808 ≤ normF t
        · exact back_neg_bad t s n b p w ht hs hn nt hsg (by omega) hE hm
        · exact back_pos_bad t s n b p w ht hs hn nt hsg (by omega) hE hm
end Go.Proofs.Ytpgbfglfmmohdaa
