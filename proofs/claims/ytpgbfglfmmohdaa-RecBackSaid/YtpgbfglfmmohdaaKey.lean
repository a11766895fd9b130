/- The walks of package stamp: keys. No condition but sizes that any memory has. -/
import Derived.Test.YtpgbfglfmmohdaaLaw02b
import Derived.Test.YtpgbfglfmmohdaaPackPl3
set_option linter.unusedVariables false
set_option maxRecDepth 20000
namespace Go.Proofs.Ytpgbfglfmmohdaa
open Go.RowKit Go.Deep

theorem run_cat (x y : ByteArray) (h : x.size + y.size ≤ 9223372036854775807) (w : World) : (Op.stringOp .add x y).run Try.prog w = .ok (.string (x ++ y)) w := by
  have h2 : ¬ (9223372036854775807 : Int) < (x.size : Int) + (y.size : Int) := by omega
  have h3 : IntKind.i64.max = 9223372036854775807 := rfl
  simp [Op.stringOp, h2, h3]
/-- A time as eight bytes, as a number. -/
def keyB (b : Nat) : Int := if 9223372036854775808 ≤ b then 18446744073709551615 - (b : Int) else (b : Int) + 9223372036854775808
def keyS (t : Nat) (s n : Int) : ByteArray := (uS (keyB (normF t)) ++ iS s) ++ iS n
theorem keyB_rng (b : Nat) (h : b < 18446744073709551616) : 0 ≤ keyB b ∧ keyB b ≤ 18446744073709551615 := by
  unfold keyB
  split <;> omega
theorem normF_lt (t : Nat) (h : t < 18446744073709551616) : normF t < 18446744073709551616 := by
  unfold normF
  split
  · decide
  · exact h
/-- What is kept of a time that is a number: below nought just where its highest bit is set. -/
theorem normF_sign (t : Nat) (h : t < 18446744073709551616) (hn : ¬ isNan t) : (9223372036854775808 ≤ normF t ∧ skey (normF t) < 0) ∨ (normF t < 9223372036854775808 ∧ 0 ≤ skey (normF t)) := by
  obtain ⟨h1, h2⟩ := normF_key hn
  have hlt := normF_lt t h
  have h0 : skey (normF t) = 0 → normF t = 0 := by
    intro h3
    unfold normF
    rw [if_pos (.inr (by rw [← h2]; exact h3))]
  generalize normF t = b at *
  unfold skey sgnB rung at *
  by_cases hb : 9223372036854775808 ≤ b
  · left
    have e1 : b / 9223372036854775808 = 1 := by omega
    rw [e1] at h0 ⊢
    simp only [Nat.one_mod, beq_self_eq_true, if_true] at h0 ⊢
    refine ⟨hb, ?_⟩
    rcases Nat.eq_zero_or_pos (b % 9223372036854775808) with h4 | h4
    · have := h0 (by rw [h4]; rfl)
      omega
    · omega
  · right
    have e1 : b / 9223372036854775808 = 0 := by omega
    rw [e1]
    simp only [Nat.zero_mod]
    refine ⟨by omega, ?_⟩
    simp
    omega
theorem keyB_neg (b : Nat) (h : (9223372036854775808 : Int) ≤ (b : Int)) (h2 : (b : Int) ≤ 18446744073709551615) : bits .xor .u64 IntKind.u64.max (b : Int) = keyB b := by
  have e : IntKind.u64.max = ((18446744073709551615 : Nat) : Int) := rfl
  have e2 : (18446744073709551615 : Nat) ^^^ b = 18446744073709551615 - b := by
    have hb : b < 18446744073709551616 := by omega
    have h3 : (BitVec.allOnes 64 ^^^ BitVec.ofNat 64 b).toNat = 2 ^ 64 - 1 - (BitVec.ofNat 64 b).toNat := by
      rw [BitVec.allOnes_xor, BitVec.toNat_not]
    rw [BitVec.toNat_xor, BitVec.toNat_allOnes, BitVec.toNat_ofNat, Nat.mod_eq_of_lt (show b < 2 ^ 64 from hb)] at h3
    exact h3
  rw [e, bits_xor_u64_nat _ _ (by decide) (by omega), e2]
  unfold keyB
  rw [if_pos (by omega)]
  omega
theorem keyB_pos (b : Nat) (h : (b : Int) ≤ 9223372036854775807) : bits .or .u64 (b : Int) 9223372036854775808 = keyB b := by
  have e2 : b ||| 9223372036854775808 = b + 9223372036854775808 := by
    have h3 : b < 2 ^ 63 := by omega
    have h4 := Nat.two_pow_add_eq_or_of_lt h3 1
    rw [show (2 ^ 63 * 1 : Nat) = 9223372036854775808 from rfl] at h4
    rw [Nat.or_comm, ← h4, Nat.add_comm]
  have := u64_or_nat b 9223372036854775808 (by omega) (by decide)
  rw [e2] at this
  unfold keyB
  rw [if_neg (by omega)]
  exact this.trans (by omega)
theorem key_nan (t : Nat) (s n : Int) (w : World) (h : isNan t) : Calls Try.prog 51 #[.agg #[.float .f64 t, .int .i64 s, .int .i64 n]] w fun e w' => e = .returned (.tuple #[.string ⟨#[]⟩, .int .i64 7]) ∧ Below w.heap.size w w' := by
  have he : normE t = 7 := by unfold normE; rw [if_pos h]
  have He := hide he
  clear he
  go_enter Try.func51, Try.ntmps51
  go_wp2_with fail
  refine (norm_any _ _).mono ?_
  rw [He.out]
  rintro e w' ⟨rfl, rfl⟩
  go_wp2
  go_ret2
  exact ⟨rfl, (Below.refl _ _).alloc (Nat.le_refl _) _⟩
set_option maxHeartbeats 800000 in
theorem key_any (t : Nat) (s n : Int) (w : World) (ht : t < 18446744073709551616) (h : ¬ isNan t) : Calls Try.prog 51 #[.agg #[.float .f64 t, .int .i64 s, .int .i64 n]] w fun e w' => e = .returned (.tuple #[.string (keyS t s n), .int .i64 0]) ∧ Below w.heap.size w w' := by
  have He := hide (normE_num h)
  have hsg := normF_sign t ht h
  have hlt := normF_lt t ht
  unfold keyS
  have fb := f64bits_run
  have hk := keyB_rng (normF t) hlt
  have hz1 := us_size (keyB (normF t))
  have hz2 := is_size s
  have hz3 := is_size n
  have hcat1 := run_cat (uS (keyB (normF t))) (iS s) (by omega)
  have hcat2 := run_cat (uS (keyB (normF t)) ++ iS s) (iS n) (by rw [ByteArray.size_append]; omega)
  clear hz1 hz2 hz3
  go_enter Try.func51, Try.ntmps51
  go_wp2_with fail
  refine (norm_any _ _).mono ?_
  rw [He.out]
  rintro e w' ⟨rfl, rfl⟩
  clear He
  generalize hb0 : normF t = b at *
  have Hb := hide hb0
  clear hb0
  have hli : (b : Int) ≤ 18446744073709551615 := by omega
  rcases hsg with ⟨hb, _⟩ | ⟨hb, _⟩
  · have hbi : (9223372036854775808 : Int) ≤ (b : Int) := by omega
    clear hb hlt
    have hx := keyB_neg b hbi hli
    go_wp2_with fail
    have h1 : StAt (w.alloc (.cells #[.float .f64 t, .int .i64 s, .int .i64 n] 42)) w.heap.size t s n := Blk.new w _ _
    have hB : Below w.heap.size w (w.alloc (.cells #[.float .f64 t, .int .i64 s, .int .i64 n] 42)) := (Below.refl _ _).alloc (Nat.le_refl _) _
    generalize w.alloc (.cells #[.float .f64 t, .int .i64 s, .int .i64 n] 42) = w1 at *
    obtain ⟨c0, c1, c2⟩ := h1.cells
    go_region_held3 (fun w' => w'.cell? ⟨w.heap.size, 1, none⟩ = some (.int .i64 s) ∧ w'.cell? ⟨w.heap.size, 2, none⟩ = some (.int .i64 n))
      (first
        | go_keep
        | (go_split_ands; exact ⟨keep1 hb4 (by assumption), keep1 hb4 (by assumption)⟩)
        | (go_split_ands; exact ⟨keep1 hb3 (by assumption), keep1 hb3 (by assumption)⟩)
        | (go_split_ands; exact ⟨keep1 hb2 (by assumption), keep1 hb2 (by assumption)⟩))
      (first
        | (go_at_call 23; refine (u_any _ _ hk.1 hk.2).mono ?_; rintro e w2 ⟨rfl, hb2⟩)
        | (go_at_call_of 25 (Value.int IntKind.i64 s); refine (i_any s _).mono ?_; rintro e w3 ⟨rfl, hb3⟩)
        | (go_at_call_of 25 (Value.int IntKind.i64 n); refine (i_any n _).mono ?_; rintro e w4 ⟨rfl, hb4⟩))
    go_wp2
    go_ret2
    exact ⟨by rw [Hb.out]; rfl, below_after (below_after (below_after hB.drew hb2) hb3) hb4⟩
  · have hbi : (b : Int) ≤ 9223372036854775807 := by omega
    clear hb hlt
    have hx := keyB_pos b hbi
    have hd : decide ((9223372036854775808 : Int) ≤ (b : Int)) = false := by
      rw [decide_eq_false_iff_not]
      omega
    go_wp2_with fail
    have h1 : StAt (w.alloc (.cells #[.float .f64 t, .int .i64 s, .int .i64 n] 42)) w.heap.size t s n := Blk.new w _ _
    have hB : Below w.heap.size w (w.alloc (.cells #[.float .f64 t, .int .i64 s, .int .i64 n] 42)) := (Below.refl _ _).alloc (Nat.le_refl _) _
    generalize w.alloc (.cells #[.float .f64 t, .int .i64 s, .int .i64 n] 42) = w1 at *
    obtain ⟨c0, c1, c2⟩ := h1.cells
    go_region_held3 (fun w' => w'.cell? ⟨w.heap.size, 1, none⟩ = some (.int .i64 s) ∧ w'.cell? ⟨w.heap.size, 2, none⟩ = some (.int .i64 n))
      (first
        | go_keep
        | (go_split_ands; exact ⟨keep1 hb4 (by assumption), keep1 hb4 (by assumption)⟩)
        | (go_split_ands; exact ⟨keep1 hb3 (by assumption), keep1 hb3 (by assumption)⟩)
        | (go_split_ands; exact ⟨keep1 hb2 (by assumption), keep1 hb2 (by assumption)⟩))
      (first
        | (go_at_call 23; refine (u_any _ _ hk.1 hk.2).mono ?_; rintro e w2 ⟨rfl, hb2⟩)
        | (go_at_call_of 25 (Value.int IntKind.i64 s); refine (i_any s _).mono ?_; rintro e w3 ⟨rfl, hb3⟩)
        | (go_at_call_of 25 (Value.int IntKind.i64 n); refine (i_any n _).mono ?_; rintro e w4 ⟨rfl, hb4⟩))
    go_wp2
    go_ret2
    exact ⟨by rw [Hb.out]; rfl, below_after (below_after (below_after hB.drew hb2) hb3) hb4⟩
theorem rkey_nan (t : Nat) (s n : Int) (w : World) (h : isNan t) : Calls Try.prog 52 #[.agg #[.float .f64 t, .int .i64 s, .int .i64 n]] w fun e w' => e = .returned (.tuple #[.string ⟨#[]⟩, .int .i64 7]) ∧ Below w.heap.size w w' := by
  have he : normE t = 7 := by unfold normE; rw [if_pos h]
  have He := hide he
  clear he
  go_enter Try.func52, Try.ntmps52
  go_wp2_with fail
  refine (rnorm_any _ _).mono ?_
  rw [He.out]
  rintro e w' ⟨rfl, rfl⟩
  go_wp2
  go_ret2
  exact ⟨rfl, (Below.refl _ _).alloc (Nat.le_refl _) _⟩
set_option maxHeartbeats 800000 in
theorem rkey_any (t : Nat) (s n : Int) (w : World) (ht : t < 18446744073709551616) (h : ¬ isNan t) : Calls Try.prog 52 #[.agg #[.float .f64 t, .int .i64 s, .int .i64 n]] w fun e w' => e = .returned (.tuple #[.string (keyS t s n), .int .i64 0]) ∧ Below w.heap.size w w' := by
  have He := hide (normE_num h)
  have hsg := normF_sign t ht h
  have hlt := normF_lt t ht
  have hnn := (normF_key h).1
  unfold keyS
  have fb := f64bits_run
  have hk := keyB_rng (normF t) hlt
  have hz1 := us_size (keyB (normF t))
  have hz2 := is_size s
  have hz3 := is_size n
  have hcat1 := run_cat (uS (keyB (normF t))) (iS s) (by omega)
  have hcat2 := run_cat (uS (keyB (normF t)) ++ iS s) (iS n) (by rw [ByteArray.size_append]; omega)
  clear hz1 hz2 hz3
  go_enter Try.func52, Try.ntmps52
  go_wp2_with fail
  refine (rnorm_any _ _).mono ?_
  rw [He.out]
  rintro e w' ⟨rfl, rfl⟩
  clear He
  generalize hb0 : normF t = b at *
  have Hb := hide hb0
  clear hb0
  have hli : (b : Int) ≤ 18446744073709551615 := by omega
  rcases hsg with ⟨hb, hs0⟩ | ⟨hb, hs0⟩
  · have hbi : (9223372036854775808 : Int) ≤ (b : Int) := by omega
    clear hb hlt
    have hx : 18446744073709551615 - (b : Int) = keyB b := by
      unfold keyB
      rw [if_pos (by omega)]
    have ho := fo_lt b 0 hnn zero_num (by rw [skey_zero]; exact hs0)
    clear hs0
    go_wp2_with fail
    have h1 : StAt (w.alloc (.cells #[.float .f64 t, .int .i64 s, .int .i64 n] 42)) w.heap.size t s n := Blk.new w _ _
    have hB : Below w.heap.size w (w.alloc (.cells #[.float .f64 t, .int .i64 s, .int .i64 n] 42)) := (Below.refl _ _).alloc (Nat.le_refl _) _
    generalize w.alloc (.cells #[.float .f64 t, .int .i64 s, .int .i64 n] 42) = w1 at *
    obtain ⟨c0, c1, c2⟩ := h1.cells
    go_region_held3 (fun w' => w'.cell? ⟨w.heap.size, 1, none⟩ = some (.int .i64 s) ∧ w'.cell? ⟨w.heap.size, 2, none⟩ = some (.int .i64 n))
      (first
        | go_keep
        | (go_split_ands; exact ⟨keep1 hb4 (by assumption), keep1 hb4 (by assumption)⟩)
        | (go_split_ands; exact ⟨keep1 hb3 (by assumption), keep1 hb3 (by assumption)⟩)
        | (go_split_ands; exact ⟨keep1 hb2 (by assumption), keep1 hb2 (by assumption)⟩))
      (first
        | (go_at_call 24; refine (ru_any _ _ hk.1 hk.2).mono ?_; rintro e w2 ⟨rfl, hb2⟩)
        | (go_at_call_of 26 (Value.int IntKind.i64 s); refine (ri_any s _).mono ?_; rintro e w3 ⟨rfl, hb3⟩)
        | (go_at_call_of 26 (Value.int IntKind.i64 n); refine (ri_any n _).mono ?_; rintro e w4 ⟨rfl, hb4⟩))
    go_wp2
    go_ret2
    exact ⟨by rw [Hb.out]; rfl, below_after (below_after (below_after hB.drew hb2) hb3) hb4⟩
  · have hbi : (b : Int) ≤ 9223372036854775807 := by omega
    clear hb hlt
    have hx : (b : Int) + 9223372036854775808 = keyB b := by
      unfold keyB
      rw [if_neg (by omega)]
    have ho : (FloatKind.f64.format.order b 0 == some .lt) = false := by
      rcases fo_ways b 0 hnn zero_num with ⟨h5, h6⟩ | ⟨_, h6⟩ | ⟨_, h6⟩
      · rw [skey_zero] at h5
        omega
      · rw [h6]; rfl
      · rw [h6]; rfl
    clear hs0
    have hd : decide ((9223372036854775808 : Int) ≤ (b : Int)) = false := by
      rw [decide_eq_false_iff_not]
      omega
    go_wp2_with fail
    have h1 : StAt (w.alloc (.cells #[.float .f64 t, .int .i64 s, .int .i64 n] 42)) w.heap.size t s n := Blk.new w _ _
    have hB : Below w.heap.size w (w.alloc (.cells #[.float .f64 t, .int .i64 s, .int .i64 n] 42)) := (Below.refl _ _).alloc (Nat.le_refl _) _
    generalize w.alloc (.cells #[.float .f64 t, .int .i64 s, .int .i64 n] 42) = w1 at *
    obtain ⟨c0, c1, c2⟩ := h1.cells
    go_region_held3 (fun w' => w'.cell? ⟨w.heap.size, 1, none⟩ = some (.int .i64 s) ∧ w'.cell? ⟨w.heap.size, 2, none⟩ = some (.int .i64 n))
      (first
        | go_keep
        | (go_split_ands; exact ⟨keep1 hb4 (by assumption), keep1 hb4 (by assumption)⟩)
        | (go_split_ands; exact ⟨keep1 hb3 (by assumption), keep1 hb3 (by assumption)⟩)
        | (go_split_ands; exact ⟨keep1 hb2 (by assumption), keep1 hb2 (by assumption)⟩))
      (first
        | (go_at_call 24; refine (ru_any _ _ hk.1 hk.2).mono ?_; rintro e w2 ⟨rfl, hb2⟩)
        | (go_at_call_of 26 (Value.int IntKind.i64 s); refine (ri_any s _).mono ?_; rintro e w3 ⟨rfl, hb3⟩)
        | (go_at_call_of 26 (Value.int IntKind.i64 n); refine (ri_any n _).mono ?_; rintro e w4 ⟨rfl, hb4⟩))
    go_wp2
    go_ret2
    exact ⟨by rw [Hb.out]; rfl, below_after (below_after (below_after hB.drew hb2) hb3) hb4⟩
end Go.Proofs.Ytpgbfglfmmohdaa
