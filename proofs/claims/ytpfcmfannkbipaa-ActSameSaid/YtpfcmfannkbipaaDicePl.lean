/- Plain laws of dice: stirring as numbers, and that it loses nothing. No program in sight. No condition. -/
import Derived.Test.YtpfcmfannkbipaaBase
set_option linter.unusedVariables false
namespace Go.Proofs.Ytpfcmfannkbipaa
open Go.RowKit

/-- Stirring, on natural numbers. -/
def stirN (z : Nat) : Nat :=
  let a := (z ^^^ z / 1073741824) * 13787848793156543929 % 18446744073709551616
  let b := (a ^^^ a / 134217728) * 10723151780598845931 % 18446744073709551616
  b ^^^ b / 2147483648
def stirI (z : Int) : Int := (stirN z.toNat : Int)
def stepI (z n : Int) : Int := stirI ((z + (n + 1) * 11400714819323198485) % 18446744073709551616)
def wordI (s p : Int) : Int := stepI (s % 18446744073709551616) p
def rollI (s p c : Int) : Int := stepI (wordI s p) c
def belowI (r n : Int) : Int := if n < 1 then 0 else r % n

theorem xs_lt (a s : Nat) (h : a < 18446744073709551616) : a ^^^ a / s < 18446744073709551616 := by
  have : a ^^^ a / s < 2 ^ 64 := Nat.xor_lt_two_pow (by omega) (Nat.lt_of_le_of_lt (Nat.div_le_self _ _) (by omega))
  omega
theorem stirN_lt (z : Nat) : stirN z < 18446744073709551616 := by
  unfold stirN
  exact xs_lt _ _ (by omega)
theorem stirI_nn (z : Int) : 0 ≤ stirI z := by unfold stirI; omega
theorem stirI_lt (z : Int) : stirI z ≤ 18446744073709551615 := by
  unfold stirI
  have := stirN_lt z.toNat
  omega
theorem stepI_nn (z n : Int) : 0 ≤ stepI z n := stirI_nn _
theorem stepI_lt (z n : Int) : stepI z n ≤ 18446744073709551615 := stirI_lt _
theorem rollI_nn (s p c : Int) : 0 ≤ rollI s p c := stirI_nn _
theorem rollI_lt (s p c : Int) : rollI s p c ≤ 18446744073709551615 := stirI_lt _

theorem mixs (X s C : Nat) (hX : X < 18446744073709551616) :
    IntKind.u64.wrap (bits .xor .u64 (X : Int) ((X : Int) / (s : Int)) * (C : Int)) = (((X ^^^ X / s) * C % 18446744073709551616 : Nat) : Int) := mixStep_u64 X s C hX

/-- The walk's own spelling of dice.Stir. -/
theorem stir_walk (z : Int) (h0 : 0 ≤ z) (h1 : z ≤ 18446744073709551615) :
    bits .xor .u64 (IntKind.u64.wrap (bits .xor .u64 (IntKind.u64.wrap (bits .xor .u64 z (z / 1073741824) * 13787848793156543929)) (IntKind.u64.wrap (bits .xor .u64 z (z / 1073741824) * 13787848793156543929) / 134217728) * 10723151780598845931))
      (IntKind.u64.wrap (bits .xor .u64 (IntKind.u64.wrap (bits .xor .u64 z (z / 1073741824) * 13787848793156543929)) (IntKind.u64.wrap (bits .xor .u64 z (z / 1073741824) * 13787848793156543929) / 134217728) * 10723151780598845931) / 2147483648) = stirI z := by
  obtain ⟨n, rfl⟩ := Int.eq_ofNat_of_zero_le h0
  have hn : n < 18446744073709551616 := by omega
  have e1 := mixs n 1073741824 13787848793156543929 hn
  have l1 : (n ^^^ n / 1073741824) * 13787848793156543929 % 18446744073709551616 < 18446744073709551616 := Nat.mod_lt _ (by decide)
  have e2 := mixs _ 134217728 10723151780598845931 l1
  have e3 := xorShift_u64 _ 2147483648 (Nat.mod_lt ((((n ^^^ n / 1073741824) * 13787848793156543929 % 18446744073709551616) ^^^ ((n ^^^ n / 1073741824) * 13787848793156543929 % 18446744073709551616) / 134217728) * 10723151780598845931) (by decide : 0 < 18446744073709551616))
  simp only [Int.cast_ofNat_Int] at e1 e2 e3
  rw [e1, e2, e3]
  rfl

/-- The walk's own spelling of the reference's Stir. -/
theorem rstir_walk (z : Int) (h0 : 0 ≤ z) (h1 : z ≤ 18446744073709551615) :
    bits .xor .u64 (IntKind.u64.wrap (bits .xor .u64 (IntKind.u64.wrap (bits .xor .u64 z (z / 1073741824) * 13787848793156543929)) (IntKind.u64.wrap ((IntKind.u64.wrap (bits .xor .u64 z (z / 1073741824) * 13787848793156543929)).tdiv 134217728)) * 10723151780598845931))
      (IntKind.u64.wrap ((IntKind.u64.wrap (bits .xor .u64 (IntKind.u64.wrap (bits .xor .u64 z (z / 1073741824) * 13787848793156543929)) (IntKind.u64.wrap ((IntKind.u64.wrap (bits .xor .u64 z (z / 1073741824) * 13787848793156543929)).tdiv 134217728)) * 10723151780598845931)).tdiv 2147483648)) = stirI z := by
  have key : ∀ x k : Int, 0 < k → IntKind.u64.wrap ((IntKind.u64.wrap x).tdiv k) = IntKind.u64.wrap x / k := by
    intro x k hk
    rw [IntKind.wrap_u64, IntKind.wrap_u64]
    have h : 0 ≤ x % 18446744073709551616 := by omega
    have h2 : x % 18446744073709551616 < 18446744073709551616 := by omega
    rw [Int.tdiv_eq_ediv_of_nonneg h]
    have h3 : 0 ≤ x % 18446744073709551616 / k := Int.ediv_nonneg h (by omega)
    have h4 : x % 18446744073709551616 / k ≤ x % 18446744073709551616 := Int.ediv_le_self _ h
    omega
  rw [key _ 134217728 (by decide), key _ 2147483648 (by decide)]
  exact stir_walk z h0 h1

theorem step_arg (z n : Int) : IntKind.u64.wrap (z + IntKind.u64.wrap (IntKind.u64.wrap (IntKind.u64.wrap n + 1) * 11400714819323198485)) = (z + (n + 1) * 11400714819323198485) % 18446744073709551616 := by
  simp only [IntKind.wrap_u64]
  omega

/-! ### Stirring loses nothing -/
theorem xorshift_inj (s : Nat) (a b : BitVec 64) (hs : 22 ≤ s) (h : a ^^^ a >>> s = b ^^^ b >>> s) : a = b := by
  have h1 : a ^^^ b = (a ^^^ b) >>> s := by
    have e : (a ^^^ b) >>> s = a >>> s ^^^ b >>> s := BitVec.ushiftRight_xor_distrib a b s
    rw [e]
    have : a ^^^ (a ^^^ a >>> s) = a ^^^ (b ^^^ b >>> s) := by rw [h]
    rw [← BitVec.xor_assoc, BitVec.xor_self, BitVec.zero_xor] at this
    rw [this]
    rw [← BitVec.xor_assoc, BitVec.xor_assoc (a ^^^ b), BitVec.xor_self, BitVec.xor_zero]
  have h3 : a ^^^ b = (((a ^^^ b) >>> s) >>> s) >>> s := by rw [← h1, ← h1, ← h1]
  have h4 : a ^^^ b = 0#64 := by
    rw [h3]
    apply BitVec.eq_of_toNat_eq
    simp only [BitVec.toNat_ushiftRight, BitVec.toNat_ofNat, Nat.zero_mod, ← Nat.shiftRight_add]
    rw [Nat.shiftRight_eq_div_pow]
    apply Nat.div_eq_of_lt
    have := (a ^^^ b).isLt
    exact Nat.lt_of_lt_of_le this (Nat.pow_le_pow_right (by decide) (by omega))
  have h5 : a ^^^ (a ^^^ b) = a := by rw [h4, BitVec.xor_zero]
  rw [← BitVec.xor_assoc, BitVec.xor_self, BitVec.zero_xor] at h5
  exact h5.symm

theorem mul_inj (c d a b : BitVec 64) (hcd : c * d = 1#64) (h : a * c = b * c) : a = b := by
  have : a * c * d = b * c * d := by rw [h]
  rwa [BitVec.mul_assoc, BitVec.mul_assoc, hcd, BitVec.mul_one, BitVec.mul_one] at this

def stirB (z : BitVec 64) : BitVec 64 :=
  let a := (z ^^^ z >>> 30) * 13787848793156543929#64
  let b := (a ^^^ a >>> 27) * 10723151780598845931#64
  b ^^^ b >>> 31

theorem stirB_inj (a b : BitVec 64) (h : stirB a = stirB b) : a = b := by
  have h1 := xorshift_inj 31 _ _ (by decide) h
  have h2 := mul_inj 10723151780598845931#64 3573116690164977347#64 _ _ (by decide) h1
  have h3 := xorshift_inj 27 _ _ (by decide) h2
  have h4 := mul_inj 13787848793156543929#64 10871156337175269513#64 _ _ (by decide) h3
  exact xorshift_inj 30 _ _ (by decide) h4

theorem xs_toNat (a : BitVec 64) (s k : Nat) (hk : 2 ^ s = k) : (a ^^^ a >>> s).toNat = a.toNat ^^^ a.toNat / k := by
  rw [BitVec.toNat_xor, BitVec.toNat_ushiftRight, Nat.shiftRight_eq_div_pow, hk]
theorem stirN_eq (z : BitVec 64) : stirN z.toNat = (stirB z).toNat := by
  have e : ∀ (x : BitVec 64) (c : BitVec 64), (x * c).toNat = x.toNat * c.toNat % 18446744073709551616 := fun x c => BitVec.toNat_mul x c
  unfold stirN stirB
  simp only [xs_toNat _ 30 1073741824 rfl, xs_toNat _ 27 134217728 rfl, xs_toNat _ 31 2147483648 rfl, e, BitVec.toNat_ofNat]
theorem stirN_inj (a b : Nat) (ha : a < 18446744073709551616) (hb : b < 18446744073709551616) (h : stirN a = stirN b) : a = b := by
  have ea : (BitVec.ofNat 64 a).toNat = a := by rw [BitVec.toNat_ofNat]; exact Nat.mod_eq_of_lt ha
  have eb : (BitVec.ofNat 64 b).toNat = b := by rw [BitVec.toNat_ofNat]; exact Nat.mod_eq_of_lt hb
  rw [← ea, ← eb, stirN_eq, stirN_eq] at h
  have := stirB_inj _ _ (BitVec.eq_of_toNat_eq h)
  rw [← ea, ← eb, this]
theorem stirI_inj (a b : Int) (ha : 0 ≤ a) (ha' : a ≤ 18446744073709551615) (hb : 0 ≤ b) (hb' : b ≤ 18446744073709551615) : stirI a = stirI b ↔ a = b := by
  constructor
  · intro h
    unfold stirI at h
    have := stirN_inj a.toNat b.toNat (by omega) (by omega) (by omega)
    omega
  · intro h; rw [h]
theorem golden_back (a : Int) : a * 11400714819323198485 * 17428512612931826493 % 18446744073709551616 = a % 18446744073709551616 := by
  have h : a * 11400714819323198485 * 17428512612931826493 = a + 18446744073709551616 * (a * 10771413168148108919) := by
    rw [Int.mul_assoc, show (11400714819323198485 : Int) * 17428512612931826493 = 1 + 18446744073709551616 * 10771413168148108919 from by decide, Int.mul_add, Int.mul_one, Int.mul_left_comm]
  rw [h, Int.add_mul_emod_self_left]
theorem stepI_inj (z a b : Int) (ha : -9223372036854775808 ≤ a) (ha' : a ≤ 9223372036854775807) (hb : -9223372036854775808 ≤ b) (hb' : b ≤ 9223372036854775807) : stepI z a = stepI z b ↔ a = b := by
  constructor
  · intro h
    unfold stepI at h
    have ra : ∀ x : Int, 0 ≤ x % 18446744073709551616 ∧ x % 18446744073709551616 ≤ 18446744073709551615 := fun x => by omega
    have h0 := (stirI_inj _ _ (ra _).1 (ra _).2 (ra _).1 (ra _).2).1 h
    have h1 := Int.emod_eq_emod_iff_emod_sub_eq_zero.1 h0
    have e : (z + (a + 1) * 11400714819323198485) - (z + (b + 1) * 11400714819323198485) = (a - b) * 11400714819323198485 := by
      rw [Int.add_mul, Int.add_mul, Int.sub_mul]
      generalize a * 11400714819323198485 = x
      generalize b * 11400714819323198485 = y
      clear h0 h1 ha ha' hb hb' ra h
      omega
    rw [e] at h1
    have h2 : ((a - b) * 11400714819323198485 * 17428512612931826493) % 18446744073709551616 = 0 := by
      rw [Int.mul_emod, h1, Int.zero_mul, Int.zero_emod]
    rw [golden_back] at h2
    clear e h1 h0 h
    omega
  · intro h; rw [h]

/-- Below, as the reference spells it. -/
theorem below_ref (r n : Int) (h0 : 0 ≤ r) (hn : 1 ≤ n) : r - r / n * n = r % n := by
  rw [Int.emod_def, Int.mul_comm]
theorem emod_le_self_aux (r n : Int) (h0 : 0 ≤ r) (hn : 1 ≤ n) : r % n ≤ r := by
  have h : r / n * n = r - r % n := by rw [← below_ref r n h0 hn]; omega
  have h1 : 0 ≤ r / n := Int.ediv_nonneg h0 (by omega)
  have h2 : 0 ≤ r / n * n := Int.mul_nonneg h1 (by omega)
  omega
theorem belowI_lo (r n : Int) : 0 ≤ belowI r n := by
  unfold belowI
  split
  · omega
  · exact Int.emod_nonneg _ (by omega)
theorem belowI_hi (r n : Int) (hn : 1 ≤ n) : belowI r n < n := by
  unfold belowI
  rw [if_neg (by omega)]
  exact Int.emod_lt_of_pos _ (by omega)
end Go.Proofs.Ytpfcmfannkbipaa
