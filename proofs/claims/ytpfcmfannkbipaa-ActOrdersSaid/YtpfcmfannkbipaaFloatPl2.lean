/- Plain laws of floats: adding one number to two others keeps their order, rounded to the nearest. No program in sight. No condition. -/
import Derived.Test.YtpfcmfannkbipaaFloatPl
set_option linter.unusedVariables false
set_option maxRecDepth 20000
namespace Go.Proofs.Ytpfcmfannkbipaa

/-! ### Rounding a quotient to the nearest whole number, ties to even -/
/-- 'n / 2 ^ k', to the nearest, ties to even. -/
def rne (n k : Nat) : Nat := n / 2 ^ k + (if 2 ^ k < 2 * (n % 2 ^ k) ∨ (2 ^ k = 2 * (n % 2 ^ k) ∧ n / 2 ^ k % 2 = 1) then 1 else 0)
/-- It is the number that is at most r just where n lies below the middle of r and r + 1, or on it, r being even. -/
theorem rne_le (n k r : Nat) : rne n k ≤ r ↔ (2 * n < (2 * r + 1) * 2 ^ k ∨ (2 * n = (2 * r + 1) * 2 ^ k ∧ r % 2 = 0)) := by
  have hp : 0 < 2 ^ k := Nat.two_pow_pos k
  have hd : n = 2 ^ k * (n / 2 ^ k) + n % 2 ^ k := (Nat.div_add_mod n (2 ^ k)).symm
  have hm : n % 2 ^ k < 2 ^ k := Nat.mod_lt _ hp
  unfold rne
  generalize n / 2 ^ k = q at *
  generalize n % 2 ^ k = m at *
  generalize 2 ^ k = P at *
  subst hd
  rcases Nat.lt_trichotomy q r with h | h | h
  · have h2 : P * (q + 1) ≤ P * r := Nat.mul_le_mul_left P h
    rw [Nat.mul_add] at h2
    have e : (2 * r + 1) * P = 2 * (P * r) + P := by rw [Nat.add_mul, Nat.mul_assoc, Nat.mul_comm r P, Nat.one_mul]
    rw [e]
    constructor
    · intro _
      left
      omega
    · intro _
      split <;> omega
  · subst h
    have e : (2 * q + 1) * P = 2 * (P * q) + P := by rw [Nat.add_mul, Nat.mul_assoc, Nat.mul_comm q P, Nat.one_mul]
    rw [e]
    split <;> omega
  · have h2 : P * (r + 1) ≤ P * q := Nat.mul_le_mul_left P h
    rw [Nat.mul_add] at h2
    have e : (2 * r + 1) * P = 2 * (P * r) + P := by rw [Nat.add_mul, Nat.mul_assoc, Nat.mul_comm r P, Nat.one_mul]
    rw [e]
    constructor
    · intro h3
      split at h3 <;> omega
    · intro h3
      omega
theorem rne_mono {n m : Nat} (k : Nat) (h : n ≤ m) : rne n k ≤ rne m k := by
  rw [rne_le]
  have := (rne_le m k (rne m k)).1 (Nat.le_refl _)
  omega
theorem rne_scale (n k j : Nat) : rne (n * 2 ^ j) (k + j) = rne n k := by
  apply Nat.le_antisymm
  · rw [rne_le]
    have h := (rne_le n k (rne n k)).1 (Nat.le_refl _)
    generalize rne n k = r at *
    rw [Nat.pow_add, ← Nat.mul_assoc, ← Nat.mul_assoc]
    rcases h with h | ⟨h, h2⟩
    · left
      exact Nat.mul_lt_mul_of_pos_right h (Nat.two_pow_pos j)
    · right
      exact ⟨by rw [h], h2⟩
  · rw [rne_le]
    have h := (rne_le (n * 2 ^ j) (k + j) (rne (n * 2 ^ j) (k + j))).1 (Nat.le_refl _)
    generalize rne (n * 2 ^ j) (k + j) = r at *
    rw [Nat.pow_add, ← Nat.mul_assoc, ← Nat.mul_assoc] at h
    rcases h with h | ⟨h, h2⟩
    · left
      exact Nat.lt_of_mul_lt_mul_right h
    · right
      exact ⟨Nat.eq_of_mul_eq_mul_right (Nat.two_pow_pos j) h, h2⟩
theorem rne_zero (n : Nat) : rne n 0 = n := by
  unfold rne
  rw [Nat.pow_zero, Nat.div_one, Nat.mod_one]
  simp
/-- The model's cut is that, whatever it cuts its own gap to. -/
theorem cut_eq (s : Bool) (n k : Nat) : Ieee.Toward.even.cut s n k = rne n k := by
  unfold Ieee.Toward.cut
  simp only [Nat.one_shiftLeft]
  by_cases h : k ≤ n.log2 + 2
  · rw [Nat.min_eq_left h]
    unfold rne
    congr 1
    generalize n / 2 ^ k = q
    generalize n % 2 ^ k = m
    generalize 2 ^ k = P
    by_cases h1 : P < 2 * m
    · simp [h1]
    · by_cases h2 : P = 2 * m ∧ q % 2 = 1
      · rw [if_pos (.inr h2)]
        simp [h2.1, h2.2]
      · rw [if_neg (by rintro (h3 | h3); exact h1 h3; exact h2 h3)]
        simp only [Bool.toNat_eq_zero, Bool.or_eq_false_iff, Bool.and_eq_false_imp, decide_eq_false_iff_not, beq_iff_eq, beq_eq_false_iff_ne]
        exact ⟨h1, fun h3 h4 => h2 ⟨h3, h4⟩⟩
  · rw [Nat.min_eq_right (by omega)]
    have hn : n < 2 ^ (n.log2 + 1) := Nat.lt_log2_self
    have hp : 2 ^ (n.log2 + 2) = 2 * 2 ^ (n.log2 + 1) := by rw [Nat.pow_succ, Nat.mul_comm]
    have hk : 2 ^ (n.log2 + 2) ≤ 2 ^ k := Nat.pow_le_pow_right (by decide) (by omega)
    unfold rne
    rw [Nat.div_eq_of_lt (show n < 2 ^ (n.log2 + 2) by omega), Nat.mod_eq_of_lt (show n < 2 ^ (n.log2 + 2) by omega), Nat.div_eq_of_lt (show n < 2 ^ k by omega), Nat.mod_eq_of_lt (show n < 2 ^ k by omega)]
    rw [if_neg (by rintro (h3 | h3) <;> omega)]
    have h1 : ¬ 2 ^ (n.log2 + 2) < 2 * n := by omega
    simp [h1]

/-! ### The word nearest to a magnitude in units of the least place -/
/-- The last place that is kept, above the least. -/
def lastP (v : Nat) : Nat := v.log2 - 52
/-- The rung that is written of a magnitude in units of the least place. -/
def rnd (v : Nat) : Nat := min (lastP v * 4503599627370496 + rne v (lastP v)) 9218868437227405312
theorem rnd_zero : rnd 0 = 0 := by decide
theorem log2_scale (m k : Nat) (h : m ≠ 0) : (m * 2 ^ k).log2 = m.log2 + k := by
  induction k with
  | zero => simp
  | succ k ih =>
    have hp : m * 2 ^ k ≠ 0 := Nat.mul_ne_zero h (Nat.ne_of_gt (Nat.two_pow_pos k))
    rw [Nat.pow_succ, ← Nat.mul_assoc, Nat.mul_comm (m * 2 ^ k) 2, Nat.log2_two_mul hp, ih]
    omega
theorem nearest_rnd (s : Bool) (m k : Nat) : Ieee.double.nearest s m (-1074 + (k : Int)) = Ieee.double.word s (rnd (m * 2 ^ k)) := by
  unfold Ieee.Format.nearest
  by_cases h : m = 0
  · subst h
    rw [if_pos rfl, Nat.zero_mul, rnd_zero]
  · rw [if_neg h]
    have hf : Ieee.double.fractionBits = 52 := rfl
    simp only [d_bin, d_inf, d_least, hf]
    have e1 : (max (-1074 + (k : Int) + (m.log2 : Int) - ((52 : Nat) : Int)) (-1074) - -1074).toNat = m.log2 + k - 52 := by omega
    have hc : rne (m <<< (-1074 + (k : Int) - max (-1074 + (k : Int) + (m.log2 : Int) - ((52 : Nat) : Int)) (-1074)).toNat) (max (-1074 + (k : Int) + (m.log2 : Int) - ((52 : Nat) : Int)) (-1074) - (-1074 + (k : Int))).toNat = rne (m * 2 ^ k) (m.log2 + k - 52) := by
      clear e1
      by_cases hk : m.log2 ≤ 52
      · by_cases hk2 : m.log2 + k ≤ 52
        · have e2 : (-1074 + (k : Int) - max (-1074 + (k : Int) + (m.log2 : Int) - ((52 : Nat) : Int)) (-1074)).toNat = k := by omega
          have e3 : (max (-1074 + (k : Int) + (m.log2 : Int) - ((52 : Nat) : Int)) (-1074) - (-1074 + (k : Int))).toNat = 0 := by omega
          rw [e2, e3, rne_zero, show m.log2 + k - 52 = 0 by omega, rne_zero, Nat.shiftLeft_eq]
        · have e2 : (-1074 + (k : Int) - max (-1074 + (k : Int) + (m.log2 : Int) - ((52 : Nat) : Int)) (-1074)).toNat = 52 - m.log2 := by omega
          have e3 : (max (-1074 + (k : Int) + (m.log2 : Int) - ((52 : Nat) : Int)) (-1074) - (-1074 + (k : Int))).toNat = 0 := by omega
          rw [e2, e3, rne_zero, Nat.shiftLeft_eq]
          have e4 := rne_scale (m * 2 ^ (52 - m.log2)) 0 (m.log2 + k - 52)
          rw [rne_zero, Nat.zero_add, Nat.mul_assoc, ← Nat.pow_add, show 52 - m.log2 + (m.log2 + k - 52) = k by omega] at e4
          exact e4.symm
      · have e2 : (-1074 + (k : Int) - max (-1074 + (k : Int) + (m.log2 : Int) - ((52 : Nat) : Int)) (-1074)).toNat = 0 := by omega
        have e3 : (max (-1074 + (k : Int) + (m.log2 : Int) - ((52 : Nat) : Int)) (-1074) - (-1074 + (k : Int))).toNat = m.log2 - 52 := by omega
        rw [e2, e3, Nat.shiftLeft_zero, show m.log2 + k - 52 = m.log2 - 52 + k by omega, rne_scale]
    unfold rnd lastP
    rw [log2_scale m k h, e1, cut_eq, hc]
theorem rnd_mono {v u : Nat} (h : v ≤ u) : rnd v ≤ rnd u := by
  by_cases hv : v = 0
  · subst hv
    rw [rnd_zero]
    exact Nat.zero_le _
  have hu : u ≠ 0 := by omega
  have hl : v.log2 ≤ u.log2 := (Nat.le_log2 hu).2 (Nat.le_trans (Nat.log2_self_le hv) h)
  unfold rnd
  have key : lastP v * 4503599627370496 + rne v (lastP v) ≤ lastP u * 4503599627370496 + rne u (lastP u) := by
    by_cases he : lastP v = lastP u
    · rw [he]
      have := rne_mono (lastP u) h
      omega
    · have hlt : lastP v < lastP u := by
        unfold lastP at he ⊢
        omega
      have h1 : rne v (lastP v) ≤ 9007199254740992 := by
        rw [rne_le]
        left
        have : v < 2 ^ (lastP v + 53) := Nat.lt_of_lt_of_le Nat.lt_log2_self (Nat.pow_le_pow_right (by decide) (by unfold lastP; omega))
        rw [Nat.pow_add] at this
        have hp := Nat.two_pow_pos (lastP v)
        generalize 2 ^ lastP v = P at *
        omega
      have h2 : 4503599627370496 ≤ rne u (lastP u) := by
        have h3 : 2 ^ (lastP u + 52) ≤ u := Nat.le_trans (Nat.pow_le_pow_right (by decide) (by unfold lastP at hlt ⊢; omega)) (Nat.log2_self_le hu)
        have h4 : 2 ^ 52 ≤ u / 2 ^ lastP u := by
          rw [Nat.le_div_iff_mul_le (Nat.two_pow_pos _), ← Nat.pow_add, Nat.add_comm]
          exact h3
        unfold rne
        exact Nat.le_trans h4 (Nat.le_add_right _ _)
      have h5 : (lastP v + 1) * 4503599627370496 ≤ lastP u * 4503599627370496 := Nat.mul_le_mul_right _ hlt
      omega
  omega
end Go.Proofs.Ytpfcmfannkbipaa
