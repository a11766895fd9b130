/- Plain laws of floats as bits: how two words stand to each other is how their signed rungs stand. No program in sight. No condition. -/
import Derived.Test.YtegegljpmelomaaBase
set_option linter.unusedVariables false
namespace Go.Proofs.Ytegegljpmelomaa

theorem d_sw : Ieee.double.signWeight = 9223372036854775808 := by decide
theorem d_bin : Ieee.double.binade = 4503599627370496 := by decide
theorem d_inf : Ieee.double.infRung = 9218868437227405312 := by decide
theorem d_least : Ieee.double.leastPlace = -1074 := by decide

/-- A word's rung, and its signed one. -/
def rung (x : Nat) : Nat := x % 9223372036854775808
def sgnB (x : Nat) : Bool := x / 9223372036854775808 % 2 == 1
def skey (x : Nat) : Int := if sgnB x then -(rung x : Int) else rung x
def isNan (x : Nat) : Prop := 9218868437227405312 < rung x
instance (x : Nat) : Decidable (isNan x) := by unfold isNan; infer_instance

/-- What a finite word's magnitude is, in units of the least place. -/
def mag (r : Nat) : Nat := if r < 4503599627370496 then r else (4503599627370496 + r % 4503599627370496) * 2 ^ (r / 4503599627370496 - 1)

theorem mag_lo (r : Nat) (h : 4503599627370496 ≤ r) : 2 ^ (52 + (r / 4503599627370496 - 1)) ≤ mag r := by
  unfold mag
  rw [if_neg (by omega), Nat.pow_add]
  exact Nat.mul_le_mul_right _ (by omega)
theorem mag_hi (r : Nat) : mag r < 2 ^ (52 + r / 4503599627370496) := by
  unfold mag
  by_cases h : r < 4503599627370496
  · rw [if_pos h, Nat.div_eq_of_lt h]
    omega
  · rw [if_neg h]
    have h1 : 1 ≤ r / 4503599627370496 := by omega
    obtain ⟨e, he⟩ : ∃ e, r / 4503599627370496 = e + 1 := ⟨r / 4503599627370496 - 1, by omega⟩
    rw [he, Nat.add_sub_cancel, show 52 + (e + 1) = 53 + e by omega, Nat.pow_add]
    exact Nat.mul_lt_mul_of_pos_right (by have := Nat.mod_lt r (show 0 < 4503599627370496 by decide); omega) (Nat.two_pow_pos e)
theorem mag_lt {r r' : Nat} (h : r < r') : mag r < mag r' := by
  by_cases he : r / 4503599627370496 = r' / 4503599627370496
  · by_cases h1 : r' < 4503599627370496
    · unfold mag
      rw [if_pos h1, if_pos (by omega)]
      exact h
    · have h2 : ¬ r < 4503599627370496 := by omega
      unfold mag
      rw [if_neg h1, if_neg h2, he]
      exact Nat.mul_lt_mul_of_pos_right (by omega) (Nat.two_pow_pos _)
  · have hd : r / 4503599627370496 < r' / 4503599627370496 := Nat.lt_of_le_of_ne (Nat.div_le_div_right (by omega)) he
    have h1 := mag_hi r
    have h2 := mag_lo r' (by omega)
    exact Nat.lt_of_lt_of_le h1 (Nat.le_trans (Nat.pow_le_pow_right (by decide) (by omega)) h2)
theorem mag_le {r r' : Nat} (h : r ≤ r') : mag r ≤ mag r' := by
  rcases Nat.eq_or_lt_of_le h with h | h
  · rw [h]
    exact Nat.le_refl _
  · exact Nat.le_of_lt (mag_lt h)
theorem mag_inj {r r' : Nat} (h : mag r = mag r') : r = r' := by
  rcases Nat.lt_trichotomy r r' with h1 | h1 | h1
  · have := mag_lt h1; omega
  · exact h1
  · have := mag_lt h1; omega

/-- What a word reads as: a number in units of the least place, an infinity, or none. -/
theorem read_finite (x : Nat) (h : rung x < 9218868437227405312) :
    ∃ m : Nat, ∃ k : Nat, Ieee.double.read x = .number (sgnB x) m (-1074 + (k : Int)) ∧ m * 2 ^ k = mag (rung x) := by
  unfold Ieee.Format.read
  simp only [d_sw, d_bin, d_inf, d_least]
  by_cases h1 : x % 9223372036854775808 < 4503599627370496
  · refine ⟨x % 9223372036854775808, 0, ?_, ?_⟩
    · rw [if_pos h1]
      rfl
    · unfold mag rung
      rw [if_pos h1, Nat.pow_zero, Nat.mul_one]
  · refine ⟨4503599627370496 + x % 9223372036854775808 % 4503599627370496, x % 9223372036854775808 / 4503599627370496 - 1, ?_, ?_⟩
    · unfold rung at h
      rw [if_neg h1, if_pos h]
      rfl
    · unfold mag rung
      rw [if_neg h1]
theorem read_inf (x : Nat) (h : rung x = 9218868437227405312) : Ieee.double.read x = .infinity (sgnB x) := by
  unfold rung at h
  unfold Ieee.Format.read
  simp only [d_sw, d_bin, d_inf, d_least, h]
  rfl
theorem read_nan (x : Nat) (h : isNan x) : ∃ f, Ieee.double.read x = .nan (sgnB x) f := by
  unfold isNan rung at h
  unfold Ieee.Format.read
  simp only [d_sw, d_bin, d_inf, d_least]
  rw [if_neg (by omega), if_neg (by omega), if_neg (by omega)]
  exact ⟨_, rfl⟩

/-- A magnitude with its sign. -/
def sg (n : Bool) (m : Nat) : Int := if n then -(m : Int) else m
theorem signed_eq (s : Bool) (m u : Nat) : Ieee.signed s m u = sg s (m * 2 ^ u) := by
  unfold Ieee.signed sg
  rw [Nat.shiftLeft_eq]
theorem sg_mul (s : Bool) (m k : Nat) : sg s (m * k) = sg s m * (k : Int) := by
  unfold sg
  split
  · rw [Int.natCast_mul, Int.neg_mul]
  · rw [Int.natCast_mul]
theorem compare_scale (a b : Int) (k : Nat) (hk : 0 < k) : compare (a * (k : Int)) (b * (k : Int)) = compare a b := by
  have hk' : (0 : Int) < (k : Int) := by omega
  rcases Int.lt_trichotomy a b with h | h | h
  · rw [Int.compare_eq_lt.2 h, Int.compare_eq_lt.2 (Int.mul_lt_mul_of_pos_right h hk')]
  · rw [h, Int.compare_eq_eq.2 rfl, Int.compare_eq_eq.2 rfl]
  · rw [Int.compare_eq_gt.2 h, Int.compare_eq_gt.2 (Int.mul_lt_mul_of_pos_right h hk')]

/-- Two finite numbers are compared by their magnitudes in units of the least place. -/
theorem order_number (s t : Bool) (m n : Nat) (i j : Nat) :
    (Ieee.Datum.number s m (-1074 + (i : Int))).order (.number t n (-1074 + (j : Int))) = some (compare (sg s (m * 2 ^ i)) (sg t (n * 2 ^ j))) := by
  unfold Ieee.Datum.order
  simp only
  congr 1
  have hmin : min (-1074 + (i : Int)) (-1074 + (j : Int)) = -1074 + ((min i j : Nat) : Int) := by omega
  rw [hmin, signed_eq, signed_eq]
  have e1 : (-1074 + (i : Int) - (-1074 + ((min i j : Nat) : Int))).toNat = i - min i j := by omega
  have e2 : (-1074 + (j : Int) - (-1074 + ((min i j : Nat) : Int))).toNat = j - min i j := by omega
  rw [e1, e2, ← compare_scale _ _ (2 ^ min i j) (Nat.two_pow_pos _), ← sg_mul, ← sg_mul, Nat.mul_assoc, Nat.mul_assoc, ← Nat.pow_add, ← Nat.pow_add, Nat.sub_add_cancel (Nat.min_le_left i j), Nat.sub_add_cancel (Nat.min_le_right i j)]

theorem sg_compare (s t : Bool) (a b : Nat) : compare (sg s (mag a)) (sg t (mag b)) = compare (sg s a) (sg t b) := by
  have h0 : ∀ r, mag r = 0 ↔ r = 0 := fun r => by
    constructor
    · intro h
      have : mag 0 = 0 := rfl
      exact mag_inj (h.trans this.symm)
    · rintro rfl
      rfl
  have ha := h0 a
  have hb := h0 b
  have hlt : a < b ↔ mag a < mag b := ⟨mag_lt, fun h => by
    rcases Nat.lt_or_ge a b with h1 | h1
    · exact h1
    · have := mag_le h1; omega⟩
  have hgt : b < a ↔ mag b < mag a := ⟨mag_lt, fun h => by
    rcases Nat.lt_or_ge b a with h1 | h1
    · exact h1
    · have := mag_le h1; omega⟩
  generalize mag a = A at *
  generalize mag b = B at *
  have key : ∀ x y u v : Int, (x < y ↔ u < v) → (y < x ↔ v < u) → compare x y = compare u v := by
    intro x y u v h1 h2
    rcases Int.lt_trichotomy u v with h | h | h
    · rw [Int.compare_eq_lt.2 h, Int.compare_eq_lt.2 (h1.2 h)]
    · have : x = y := by omega
      rw [h, this, Int.compare_eq_eq.2 rfl, Int.compare_eq_eq.2 rfl]
    · rw [Int.compare_eq_gt.2 h, Int.compare_eq_gt.2 (h2.2 h)]
  apply key <;> unfold sg <;> cases s <;> cases t <;> simp <;> omega
theorem skey_sg (x : Nat) : skey x = sg (sgnB x) (rung x) := rfl

/-- HOW TWO WORDS STAND. -/
theorem order_eq (x y : Nat) (hx : ¬ isNan x) (hy : ¬ isNan y) : Ieee.double.order x y = some (compare (skey x) (skey y)) := by
  unfold isNan at hx hy
  unfold Ieee.Format.order
  by_cases h1 : rung x < 9218868437227405312 <;> by_cases h2 : rung y < 9218868437227405312
  · obtain ⟨m, i, e1, e2⟩ := read_finite x h1
    obtain ⟨n, j, e3, e4⟩ := read_finite y h2
    rw [e1, e3, order_number, e2, e4, sg_compare, skey_sg, skey_sg]
  · obtain ⟨m, i, e1, e2⟩ := read_finite x h1
    have h3 : rung y = 9218868437227405312 := by omega
    rw [e1, read_inf y h3]
    unfold Ieee.Datum.order skey
    simp only
    rw [h3]
    congr 1
    cases sgnB y <;> cases sgnB x <;> simp <;> symm <;> first | (apply Int.compare_eq_lt.2; omega) | (apply Int.compare_eq_gt.2; omega)
  · obtain ⟨m, i, e1, e2⟩ := read_finite y h2
    have h3 : rung x = 9218868437227405312 := by omega
    rw [e1, read_inf x h3]
    unfold Ieee.Datum.order skey
    simp only
    rw [h3]
    congr 1
    cases sgnB y <;> cases sgnB x <;> simp <;> symm <;> first | (apply Int.compare_eq_lt.2; omega) | (apply Int.compare_eq_gt.2; omega)
  · have h3 : rung x = 9218868437227405312 := by omega
    have h4 : rung y = 9218868437227405312 := by omega
    rw [read_inf x h3, read_inf y h4]
    unfold Ieee.Datum.order skey
    simp only
    rw [h3, h4]
    congr 1
    cases sgnB y <;> cases sgnB x <;> simp <;> decide
theorem order_nan (x y : Nat) (h : isNan x ∨ isNan y) : Ieee.double.order x y = none := by
  unfold Ieee.Format.order
  rcases h with h | h
  · obtain ⟨f, e⟩ := read_nan x h
    rw [e]
    rfl
  · obtain ⟨f, e⟩ := read_nan y h
    rw [e]
    cases Ieee.double.read x <;> rfl
end Go.Proofs.Ytegegljpmelomaa
