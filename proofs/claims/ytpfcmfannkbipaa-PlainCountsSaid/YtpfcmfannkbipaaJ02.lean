/- Texts of this claim in one. No condition. -/
import Derived.Test.YtpfcmfannkbipaaJ01
import Derived.Laws.Externs
import Derived.Laws.FloatArith
section
set_option linter.unusedVariables false
namespace Go.Proofs.Ytpfcmfannkbipaa

theorem d_sw : Ieee.double.signWeight = 9223372036854775808 := by decide
theorem d_bin : Ieee.double.binade = 4503599627370496 := by decide
theorem d_inf : Ieee.double.infRung = 9218868437227405312 := by decide
theorem d_least : Ieee.double.leastPlace = -1074 := by decide

/-- A word's rung, and its signed one. -/
def rung (x : Nat) : Nat := x % 9223372036854775808
def sgnB (x : Nat) : Bool := x / 9223372036854775808 % 2 == 1
def skey (x : Nat) : Int := if sgnB x then -(rung x : Int) else rung x
def isNan (x : Nat) : Prop := 9218868437227405312 < rung x
instance (x : Nat) : Decidable (isNan x) := by unfold isNan; infer_instance

/-- What a finite word's magnitude is, in units of the least place. -/
def mag (r : Nat) : Nat := if r < 4503599627370496 then r else (4503599627370496 + r % 4503599627370496) * 2 ^ (r / 4503599627370496 - 1)

theorem mag_lo (r : Nat) (h : 4503599627370496 ≤ r) : 2 ^ (52 + (r / 4503599627370496 - 1)) ≤ mag r := by
  unfold mag
  rw [if_neg (by omega), Nat.pow_add]
  exact Nat.mul_le_mul_right _ (by omega)
theorem mag_hi (r : Nat) : mag r < 2 ^ (52 + r / 4503599627370496) := by
  unfold mag
  by_cases h : r < 4503599627370496
  · rw [if_pos h, Nat.div_eq_of_lt h]
    omega
  · rw [if_neg h]
    have h1 : 1 ≤ r / 4503599627370496 := by omega
    obtain ⟨e, he⟩ : ∃ e, r / 4503599627370496 = e + 1 := ⟨r / 4503599627370496 - 1, by omega⟩
    rw [he, Nat.add_sub_cancel, show 52 + (e + 1) = 53 + e by omega, Nat.pow_add]
    exact Nat.mul_lt_mul_of_pos_right (by have := Nat.mod_lt r (show 0 < 4503599627370496 by decide); omega) (Nat.two_pow_pos e)
theorem mag_lt {r r' : Nat} (h : r < r') : mag r < mag r' := by
  by_cases he : r / 4503599627370496 = r' / 4503599627370496
  · by_cases h1 : r' < 4503599627370496
    · unfold mag
      rw [if_pos h1, if_pos (by omega)]
      exact h
    · have h2 : ¬ r < 4503599627370496 := by omega
      unfold mag
      rw [if_neg h1, if_neg h2, he]
      exact Nat.mul_lt_mul_of_pos_right (by omega) (Nat.two_pow_pos _)
  · have hd : r / 4503599627370496 < r' / 4503599627370496 := Nat.lt_of_le_of_ne (Nat.div_le_div_right (by omega)) he
    have h1 := mag_hi r
    have h2 := mag_lo r' (by omega)
    exact Nat.lt_of_lt_of_le h1 (Nat.le_trans (Nat.pow_le_pow_right (by decide) (by omega)) h2)
theorem mag_le {r r' : Nat} (h : r ≤ r') : mag r ≤ mag r' := by
  rcases Nat.eq_or_lt_of_le h with h | h
  · rw [h]
    exact Nat.le_refl _
  · exact Nat.le_of_lt (mag_lt h)
theorem mag_inj {r r' : Nat} (h : mag r = mag r') : r = r' := by
  rcases Nat.lt_trichotomy r r' with h1 | h1 | h1
  · have := mag_lt h1; omega
  · exact h1
  · have := mag_lt h1; omega

/-- What a word reads as: a number in units of the least place, an infinity, or none. -/
theorem read_finite (x : Nat) (h : rung x < 9218868437227405312) :
    ∃ m : Nat, ∃ k : Nat, Ieee.double.read x = .number (sgnB x) m (-1074 + (k : Int)) ∧ m * 2 ^ k = mag (rung x) := by
  unfold Ieee.Format.read
  simp only [d_sw, d_bin, d_inf, d_least]
  by_cases h1 : x % 9223372036854775808 < 4503599627370496
  · refine ⟨x % 9223372036854775808, 0, ?_, ?_⟩
    · rw [if_pos h1]
      rfl
    · unfold mag rung
      rw [if_pos h1, Nat.pow_zero, Nat.mul_one]
  · refine ⟨4503599627370496 + x % 9223372036854775808 % 4503599627370496, x % 9223372036854775808 / 4503599627370496 - 1, ?_, ?_⟩
    · unfold rung at h
      rw [if_neg h1, if_pos h]
      rfl
    · unfold mag rung
      rw [if_neg h1]
theorem read_inf (x : Nat) (h : rung x = 9218868437227405312) : Ieee.double.read x = .infinity (sgnB x) := by
  unfold rung at h
  unfold Ieee.Format.read
  simp only [d_sw, d_bin, d_inf, d_least, h]
  rfl
theorem read_nan (x : Nat) (h : isNan x) : ∃ f, Ieee.double.read x = .nan (sgnB x) f := by
  unfold isNan rung at h
  unfold Ieee.Format.read
  simp only [d_sw, d_bin, d_inf, d_least]
  rw [if_neg (by omega), if_neg (by omega), if_neg (by omega)]
  exact ⟨_, rfl⟩

/-- A magnitude with its sign. -/
def sg (n : Bool) (m : Nat) : Int := if n then -(m : Int) else m
theorem signed_eq (s : Bool) (m u : Nat) : Ieee.signed s m u = sg s (m * 2 ^ u) := by
  unfold Ieee.signed sg
  rw [Nat.shiftLeft_eq]
theorem sg_mul (s : Bool) (m k : Nat) : sg s (m * k) = sg s m * (k : Int) := by
  unfold sg
  split
  · rw [Int.natCast_mul, Int.neg_mul]
  · rw [Int.natCast_mul]
theorem compare_scale (a b : Int) (k : Nat) (hk : 0 < k) : compare (a * (k : Int)) (b * (k : Int)) = compare a b := by
  have hk' : (0 : Int) < (k : Int) := by omega
  rcases Int.lt_trichotomy a b with h | h | h
  · rw [Int.compare_eq_lt.2 h, Int.compare_eq_lt.2 (Int.mul_lt_mul_of_pos_right h hk')]
  · rw [h, Int.compare_eq_eq.2 rfl, Int.compare_eq_eq.2 rfl]
  · rw [Int.compare_eq_gt.2 h, Int.compare_eq_gt.2 (Int.mul_lt_mul_of_pos_right h hk')]

/-- Two finite numbers are compared by their magnitudes in units of the least place. -/
theorem order_number (s t : Bool) (m n : Nat) (i j : Nat) :
    (Ieee.Datum.number s m (-1074 + (i : Int))).order (.number t n (-1074 + (j : Int))) = some (compare (sg s (m * 2 ^ i)) (sg t (n * 2 ^ j))) := by
  unfold Ieee.Datum.order
  simp only
  congr 1
  have hmin : min (-1074 + (i : Int)) (-1074 + (j : Int)) = -1074 + ((min i j : Nat) : Int) := by omega
  rw [hmin, signed_eq, signed_eq]
  have e1 : (-1074 + (i : Int) - (-1074 + ((min i j : Nat) : Int))).toNat = i - min i j := by omega
  have e2 : (-1074 + (j : Int) - (-1074 + ((min i j : Nat) : Int))).toNat = j - min i j := by omega
  rw [e1, e2, ← compare_scale _ _ (2 ^ min i j) (Nat.two_pow_pos _), ← sg_mul, ← sg_mul, Nat.mul_assoc, Nat.mul_assoc, ← Nat.pow_add, ← Nat.pow_add, Nat.sub_add_cancel (Nat.min_le_left i j), Nat.sub_add_cancel (Nat.min_le_right i j)]

theorem sg_compare (s t : Bool) (a b : Nat) : compare (sg s (mag a)) (sg t (mag b)) = compare (sg s a) (sg t b) := by
  have h0 : ∀ r, mag r = 0 ↔ r = 0 := fun r => by
    constructor
    · intro h
      have : mag 0 = 0 := rfl
      exact mag_inj (h.trans this.symm)
    · rintro rfl
      rfl
  have ha := h0 a
  have hb := h0 b
  have hlt : a < b ↔ mag a < mag b := ⟨mag_lt, fun h => by
    rcases Nat.lt_or_ge a b with h1 | h1
    · exact h1
    · have := mag_le h1; omega⟩
  have hgt : b < a ↔ mag b < mag a := ⟨mag_lt, fun h => by
    rcases Nat.lt_or_ge b a with h1 | h1
    · exact h1
    · have := mag_le h1; omega⟩
  generalize mag a = A at *
  generalize mag b = B at *
  have key : ∀ x y u v : Int, (x < y ↔ u < v) → (y < x ↔ v < u) → compare x y = compare u v := by
    intro x y u v h1 h2
    rcases Int.lt_trichotomy u v with h | h | h
    · rw [Int.compare_eq_lt.2 h, Int.compare_eq_lt.2 (h1.2 h)]
    · have : x = y := by omega
      rw [h, this, Int.compare_eq_eq.2 rfl, Int.compare_eq_eq.2 rfl]
    · rw [Int.compare_eq_gt.2 h, Int.compare_eq_gt.2 (h2.2 h)]
  apply key <;> unfold sg <;> cases s <;> cases t <;> simp <;> omega
theorem skey_sg (x : Nat) : skey x = sg (sgnB x) (rung x) := rfl

/-- HOW TWO WORDS STAND. -/
theorem order_eq (x y : Nat) (hx : ¬ isNan x) (hy : ¬ isNan y) : Ieee.double.order x y = some (compare (skey x) (skey y)) := by
  unfold isNan at hx hy
  unfold Ieee.Format.order
  by_cases h1 : rung x < 9218868437227405312 <;> by_cases h2 : rung y < 9218868437227405312
  · obtain ⟨m, i, e1, e2⟩ := read_finite x h1
    obtain ⟨n, j, e3, e4⟩ := read_finite y h2
    rw [e1, e3, order_number, e2, e4, sg_compare, skey_sg, skey_sg]
  · obtain ⟨m, i, e1, e2⟩ := read_finite x h1
    have h3 : rung y = 9218868437227405312 := by omega
    rw [e1, read_inf y h3]
    unfold Ieee.Datum.order skey
    simp only
    rw [h3]
    congr 1
    cases sgnB y <;> cases sgnB x <;> simp <;> symm <;> first | (apply Int.compare_eq_lt.2; omega) | (apply Int.compare_eq_gt.2; omega)
  · obtain ⟨m, i, e1, e2⟩ := read_finite y h2
    have h3 : rung x = 9218868437227405312 := by omega
    rw [e1, read_inf x h3]
    unfold Ieee.Datum.order skey
    simp only
    rw [h3]
    congr 1
    cases sgnB y <;> cases sgnB x <;> simp <;> symm <;> first | (apply Int.compare_eq_lt.2; omega) | (apply Int.compare_eq_gt.2; omega)
  · have h3 : rung x = 9218868437227405312 := by omega
    have h4 : rung y = 9218868437227405312 := by omega
    rw [read_inf x h3, read_inf y h4]
    unfold Ieee.Datum.order skey
    simp only
    rw [h3, h4]
    congr 1
    cases sgnB y <;> cases sgnB x <;> simp <;> decide
theorem order_nan (x y : Nat) (h : isNan x ∨ isNan y) : Ieee.double.order x y = none := by
  unfold Ieee.Format.order
  rcases h with h | h
  · obtain ⟨f, e⟩ := read_nan x h
    rw [e]
    rfl
  · obtain ⟨f, e⟩ := read_nan y h
    rw [e]
    cases Ieee.double.read x <;> rfl
end Go.Proofs.Ytpfcmfannkbipaa
end

section
set_option linter.unusedVariables false
set_option maxRecDepth 20000
namespace Go.Proofs.Ytpfcmfannkbipaa
open Go.RowKit Go.Deep

theorem f64bits_run (b : Nat) (w : World) : (callFunc 94 #[.float .f64 b]).run Try.prog w = .ok (.value (.int .u64 b)) w := by
  rw [run_callFunc_extern (e := Extern.MathFloatBits.float64bits) Try.func94 (by kernel_rfl) (by kernel_rfl) (by kernel_rfl) (by kernel_rfl)]
  rfl
theorem fo_nan (t u : Nat) (h : isNan t ∨ isNan u) : FloatKind.f64.format.order t u = none := order_nan t u h
theorem fo_num (t u : Nat) (h : ¬ isNan t) (h' : ¬ isNan u) : FloatKind.f64.format.order t u = some (compare (skey t) (skey u)) := order_eq t u h h'
theorem fo_self (t : Nat) (h : ¬ isNan t) : FloatKind.f64.format.order t t = some .eq := by
  rw [fo_num t t h h, Int.compare_eq_eq.2 rfl]
theorem fo_lt (t u : Nat) (h : ¬ isNan t) (h' : ¬ isNan u) (hk : skey t < skey u) : FloatKind.f64.format.order t u = some .lt := by
  rw [fo_num t u h h', Int.compare_eq_lt.2 hk]
theorem fo_eq (t u : Nat) (h : ¬ isNan t) (h' : ¬ isNan u) (hk : skey t = skey u) : FloatKind.f64.format.order t u = some .eq := by
  rw [fo_num t u h h', Int.compare_eq_eq.2 hk]
theorem fo_gt (t u : Nat) (h : ¬ isNan t) (h' : ¬ isNan u) (hk : skey u < skey t) : FloatKind.f64.format.order t u = some .gt := by
  rw [fo_num t u h h', Int.compare_eq_gt.2 hk]
theorem zero_num : ¬ isNan 0 := by decide
theorem skey_zero : skey 0 = 0 := by decide
theorem fo_ways (a b : Nat) (ha : ¬ isNan a) (hb : ¬ isNan b) :
    (skey a < skey b ∧ FloatKind.f64.format.order a b = some .lt) ∨ (skey a = skey b ∧ FloatKind.f64.format.order a b = some .eq) ∨ (skey b < skey a ∧ FloatKind.f64.format.order a b = some .gt) := by
  rcases Int.lt_trichotomy (skey a) (skey b) with h | h | h
  · exact .inl ⟨h, fo_lt a b ha hb h⟩
  · exact .inr (.inl ⟨h, fo_eq a b ha hb h⟩)
  · exact .inr (.inr ⟨h, fo_gt a b ha hb h⟩)
theorem run_fadd_some {P : Program} (t : TypeId) (x y r : Nat) (h : FloatKind.f64.format.add x y = some r) (w : World) : (binOp .add t (.float .f64 x) (.float .f64 y)).run P w = .ok (.float .f64 r) w := by
  simp [binOp, Op.floatArith, h]
theorem run_fadd_none {P : Program} (t : TypeId) (x y : Nat) (h : FloatKind.f64.format.add x y = none) (w : World) :
    ∃ r, isNan r ∧ (binOp .add t (.float .f64 x) (.float .f64 y)).run P w = .ok (.float .f64 r) w.drew := by
  refine ⟨(Question.nanBits .f64 x y).cut (w.tape w.drawn (.nanBits .f64 x y)), ?_, ?_⟩
  · generalize w.tape w.drawn (.nanBits .f64 x y) = q
    show isNan ((q % 2) * 2 ^ 63 + 0x7ff0000000000000 + 1 + (q / 2) % (2 ^ 52 - 1))
    unfold isNan rung
    have hv : (q / 2) % (2 ^ 52 - 1) < 4503599627370495 := Nat.mod_lt _ (by decide)
    generalize (q / 2) % (2 ^ 52 - 1) = v at *
    rcases Nat.mod_two_eq_zero_or_one q with h | h <;> rw [h]
    · omega
    · omega
  · simp [binOp, Op.floatArith, h, Question.forced]
theorem isnan_any (t : Nat) (w : World) : Calls Try.prog 96 #[.float .f64 t] w fun e w' => e = .returned (.bool (decide (isNan t))) ∧ w = w' := by
  by_cases h : isNan t
  · have ho := fo_nan t t (.inl h)
    go_enter Try.func96, Try.ntmps96
    go_wp2
    go_ret
    exact ⟨ret_bool (by simp [h]), rfl⟩
  · have ho := fo_self t h
    go_enter Try.func96, Try.ntmps96
    go_wp2
    go_ret
    exact ⟨ret_bool (by simp [h]), rfl⟩
end Go.Proofs.Ytpfcmfannkbipaa
end

section
set_option linter.unusedVariables false
set_option maxRecDepth 20000
namespace Go.Proofs.Ytpfcmfannkbipaa
open Go.RowKit Go.Deep

def normF (t : Nat) : Nat := if isNan t ∨ skey t = 0 then 0 else t
def normE (t : Nat) : Int := if isNan t then 7 else 0
theorem norm_any (t : Nat) (w : World) : Calls Try.prog 85 #[.float .f64 t] w fun e w' => e = .returned (.tuple #[.float .f64 (normF t), .int .i64 (normE t)]) ∧ w = w' := by
  by_cases h : isNan t
  · go_enter Try.func85, Try.ntmps85
    go_wp2_with fail
    refine (isnan_any _ _).mono ?_
    rw [decide_eq_true h]
    rintro e w' ⟨rfl, rfl⟩
    go_wp2
    go_ret2
    exact ⟨by unfold normF normE; rw [if_pos (.inl h), if_pos h]; rfl, rfl⟩
  · by_cases h0 : skey t = 0
    · have ho := fo_eq t 0 h zero_num h0
      have hf : normF t = 0 ∧ normE t = 0 := ⟨by unfold normF; rw [if_pos (.inr h0)], by unfold normE; rw [if_neg h]⟩
      rw [hf.1, hf.2]
      clear hf h0
      go_enter Try.func85, Try.ntmps85
      go_wp2_with fail
      refine (isnan_any _ _).mono ?_
      rw [decide_eq_false h]
      rintro e w' ⟨rfl, rfl⟩
      go_wp2
      go_ret2
      exact ⟨rfl, rfl⟩
    · have hf : normF t = t ∧ normE t = 0 := ⟨by unfold normF; rw [if_neg (by rintro (h1 | h1); exact h h1; exact h0 h1)], by unfold normE; rw [if_neg h]⟩
      rw [hf.1, hf.2]
      have ho : (FloatKind.f64.format.order t 0 == some .eq) = false := by
        rw [fo_num t 0 h zero_num, skey_zero]
        simpa [Int.compare_eq_eq] using h0
      clear hf h0
      go_enter Try.func85, Try.ntmps85
      go_wp2_with fail
      refine (isnan_any _ _).mono ?_
      rw [decide_eq_false h]
      rintro e w' ⟨rfl, rfl⟩
      go_wp2
      go_ret2
      exact ⟨rfl, rfl⟩
theorem rnumber_any (t : Nat) (w : World) : Calls Try.prog 74 #[.float .f64 t] w fun e w' => e = .returned (.bool (decide (¬ isNan t))) ∧ w = w' := by
  by_cases h : isNan t
  · have ho := fo_nan t t (.inl h)
    go_enter Try.func74, Try.ntmps74
    go_wp2
    go_ret
    exact ⟨ret_bool (by simp [h]), rfl⟩
  · have ho := fo_self t h
    go_enter Try.func74, Try.ntmps74
    go_wp2
    go_ret
    exact ⟨ret_bool (by simp [h]), rfl⟩
theorem rnorm_any (t : Nat) (w : World) : Calls Try.prog 86 #[.float .f64 t] w fun e w' => e = .returned (.tuple #[.float .f64 (normF t), .int .i64 (normE t)]) ∧ w = w' := by
  by_cases h : isNan t
  · go_enter Try.func86, Try.ntmps86
    go_wp2_with fail
    refine (rnumber_any _ _).mono ?_
    rw [decide_eq_false (not_not_intro h)]
    rintro e w' ⟨rfl, rfl⟩
    go_wp2
    go_ret2
    exact ⟨by unfold normF normE; rw [if_pos (.inl h), if_pos h]; rfl, rfl⟩
  · by_cases h0 : skey t = 0
    · have ho := fo_eq t 0 h zero_num h0
      have hf : normF t = 0 ∧ normE t = 0 := ⟨by unfold normF; rw [if_pos (.inr h0)], by unfold normE; rw [if_neg h]⟩
      rw [hf.1, hf.2]
      clear hf h0
      go_enter Try.func86, Try.ntmps86
      go_wp2_with fail
      refine (rnumber_any _ _).mono ?_
      rw [decide_eq_true h]
      rintro e w' ⟨rfl, rfl⟩
      go_wp2
      go_ret2
      exact ⟨rfl, rfl⟩
    · have hf : normF t = t ∧ normE t = 0 := ⟨by unfold normF; rw [if_neg (by rintro (h1 | h1); exact h h1; exact h0 h1)], by unfold normE; rw [if_neg h]⟩
      rw [hf.1, hf.2]
      have ho : (FloatKind.f64.format.order t 0 == some .eq) = false := by
        rw [fo_num t 0 h zero_num, skey_zero]
        simpa [Int.compare_eq_eq] using h0
      clear hf h0
      go_enter Try.func86, Try.ntmps86
      go_wp2_with fail
      refine (rnumber_any _ _).mono ?_
      rw [decide_eq_true h]
      rintro e w' ⟨rfl, rfl⟩
      go_wp2
      go_ret2
      exact ⟨rfl, rfl⟩

/-! What comes so much later. -/
def laterS (t d : Nat) : Option Nat :=
  if isNan t ∨ isNan d ∨ skey d ≤ 0 then none
  else match FloatKind.f64.format.add t d with
    | none => none
    | some s => if isNan s ∨ skey s ≤ skey t then none else some s
def laterF (t d : Nat) : Nat := match laterS t d with | none => 0 | some s => normF s
def laterE (t d : Nat) : Int := match laterS t d with | none => 7 | some s => normE s
theorem later_none {t d : Nat} (h : laterS t d = none) : laterF t d = 0 ∧ laterE t d = 7 := by
  unfold laterF laterE
  rw [h]
  exact ⟨rfl, rfl⟩
theorem later_some {t d s : Nat} (h : laterS t d = some s) : laterF t d = normF s ∧ laterE t d = normE s := by
  unfold laterF laterE
  rw [h]
  exact ⟨rfl, rfl⟩
theorem later_bad {t d : Nat} (h : isNan t ∨ isNan d ∨ skey d ≤ 0) : laterS t d = none := by unfold laterS; rw [if_pos h]
theorem later_nan {t d : Nat} (h : ¬ (isNan t ∨ isNan d ∨ skey d ≤ 0)) (hs : FloatKind.f64.format.add t d = none) : laterS t d = none := by unfold laterS; rw [if_neg h, hs]
theorem later_low {t d s : Nat} (h : ¬ (isNan t ∨ isNan d ∨ skey d ≤ 0)) (hs : FloatKind.f64.format.add t d = some s) (h2 : isNan s ∨ skey s ≤ skey t) : laterS t d = none := by
  unfold laterS
  rw [if_neg h, hs]
  simp only
  rw [if_pos h2]
theorem later_yes {t d s : Nat} (h : ¬ (isNan t ∨ isNan d ∨ skey d ≤ 0)) (hs : FloatKind.f64.format.add t d = some s) (h2 : ¬ (isNan s ∨ skey s ≤ skey t)) : laterS t d = some s := by
  unfold laterS
  rw [if_neg h, hs]
  simp only
  rw [if_neg h2]
theorem later_any (t d : Nat) (w : World) : Calls Try.prog 104 #[.float .f64 t, .float .f64 d] w fun e w' => e = .returned (.tuple #[.float .f64 (laterF t d), .int .i64 (laterE t d)]) ∧ Below w.heap.size w w' := by
  by_cases h1 : isNan t
  · rw [(later_none (later_bad (d := d) (.inl h1))).1, (later_none (later_bad (d := d) (.inl h1))).2]
    go_enter Try.func104, Try.ntmps104
    go_wp2_with fail
    refine (isnan_any _ _).mono ?_
    rw [decide_eq_true h1]
    rintro e w' ⟨rfl, rfl⟩
    go_wp2
    go_ret2
    exact ⟨rfl, Below.refl _ _⟩
  by_cases h2 : isNan d
  · rw [(later_none (later_bad (t := t) (.inr (.inl h2)))).1, (later_none (later_bad (t := t) (.inr (.inl h2)))).2]
    go_enter Try.func104, Try.ntmps104
    go_wp2_with fail
    refine (isnan_any _ _).mono ?_
    rw [decide_eq_false h1]
    rintro e w' ⟨rfl, rfl⟩
    go_wp2_with fail
    refine (isnan_any _ _).mono ?_
    rw [decide_eq_true h2]
    rintro e w' ⟨rfl, rfl⟩
    go_wp2
    go_ret2
    exact ⟨rfl, Below.refl _ _⟩
  rcases fo_ways d 0 h2 zero_num with ⟨h3, ho⟩ | ⟨h3, ho⟩ | ⟨h3, ho⟩ <;> rw [skey_zero] at h3
  · rw [(later_none (later_bad (t := t) (d := d) (.inr (.inr (by omega))))).1, (later_none (later_bad (t := t) (d := d) (.inr (.inr (by omega))))).2]
    clear h3
    go_enter Try.func104, Try.ntmps104
    go_wp2_with fail
    refine (isnan_any _ _).mono ?_
    rw [decide_eq_false h1]
    rintro e w' ⟨rfl, rfl⟩
    go_wp2_with fail
    refine (isnan_any _ _).mono ?_
    rw [decide_eq_false h2]
    rintro e w' ⟨rfl, rfl⟩
    go_wp2
    go_ret2
    exact ⟨rfl, Below.refl _ _⟩
  · rw [(later_none (later_bad (t := t) (d := d) (.inr (.inr (by omega))))).1, (later_none (later_bad (t := t) (d := d) (.inr (.inr (by omega))))).2]
    clear h3
    go_enter Try.func104, Try.ntmps104
    go_wp2_with fail
    refine (isnan_any _ _).mono ?_
    rw [decide_eq_false h1]
    rintro e w' ⟨rfl, rfl⟩
    go_wp2_with fail
    refine (isnan_any _ _).mono ?_
    rw [decide_eq_false h2]
    rintro e w' ⟨rfl, rfl⟩
    go_wp2
    go_ret2
    exact ⟨rfl, Below.refl _ _⟩
  · have hc : ¬ (isNan t ∨ isNan d ∨ skey d ≤ 0) := by
      rintro (h | h | h)
      · exact h1 h
      · exact h2 h
      · omega
    rcases hs : FloatKind.f64.format.add t d with _ | s
    · rw [(later_none (later_nan hc hs)).1, (later_none (later_nan hc hs)).2]
      clear hc h3
      obtain ⟨r, hr, hrun⟩ := run_fadd_none (P := Try.prog) 27 t d hs w
      have ho2 := fo_nan r t (.inl hr)
      have Hs := hide hs
      clear hs
      go_enter Try.func104, Try.ntmps104
      go_wp2_with fail
      refine (isnan_any _ _).mono ?_
      rw [decide_eq_false h1]
      rintro e w' ⟨rfl, rfl⟩
      go_wp2_with fail
      refine (isnan_any _ _).mono ?_
      rw [decide_eq_false h2]
      rintro e w' ⟨rfl, rfl⟩
      go_wp2
      go_ret2
      exact ⟨rfl, (Below.refl _ _).drew⟩
    · have hrun := run_fadd_some (P := Try.prog) 27 t d s hs
      by_cases h4 : isNan s ∨ skey s ≤ skey t
      · rw [(later_none (later_low hc hs h4)).1, (later_none (later_low hc hs h4)).2]
        have ho2 : (FloatKind.f64.format.order s t == some .gt) = false := by
          by_cases hn : isNan s
          · rw [fo_nan s t (.inl hn)]; rfl
          · rcases fo_ways s t hn h1 with ⟨_, h⟩ | ⟨_, h⟩ | ⟨h5, h⟩
            · rw [h]; rfl
            · rw [h]; rfl
            · exfalso
              rcases h4 with h4 | h4
              · exact hn h4
              · omega
        have Hs := hide hs
        clear hs hc h3 h4
        go_enter Try.func104, Try.ntmps104
        go_wp2_with fail
        refine (isnan_any _ _).mono ?_
        rw [decide_eq_false h1]
        rintro e w' ⟨rfl, rfl⟩
        go_wp2_with fail
        refine (isnan_any _ _).mono ?_
        rw [decide_eq_false h2]
        rintro e w' ⟨rfl, rfl⟩
        go_wp2
        go_ret2
        exact ⟨rfl, Below.refl _ _⟩
      · rw [(later_some (later_yes hc hs h4)).1, (later_some (later_yes hc hs h4)).2]
        have hn : ¬ isNan s := fun h => h4 (.inl h)
        have ho2 := fo_gt s t hn h1 (by
          rcases Int.lt_or_le (skey t) (skey s) with h | h
          · exact h
          · exact absurd (.inr h) h4)
        have Hs := hide hs
        clear hs hc h3 h4
        go_enter Try.func104, Try.ntmps104
        go_wp2_with fail
        refine (isnan_any _ _).mono ?_
        rw [decide_eq_false h1]
        rintro e w' ⟨rfl, rfl⟩
        go_wp2_with fail
        refine (isnan_any _ _).mono ?_
        rw [decide_eq_false h2]
        rintro e w' ⟨rfl, rfl⟩
        go_wp2_with fail
        refine (norm_any _ _).mono ?_
        rintro e w' ⟨rfl, rfl⟩
        go_wp2
        go_ret2
        exact ⟨rfl, Below.refl _ _⟩
end Go.Proofs.Ytpfcmfannkbipaa
end

section
set_option linter.unusedVariables false
set_option maxRecDepth 20000
namespace Go.Proofs.Ytpfcmfannkbipaa
open Go.RowKit Go.Deep

theorem rlater_any (t d : Nat) (w : World) : Calls Try.prog 81 #[.float .f64 t, .float .f64 d] w fun e w' => e = .returned (.tuple #[.float .f64 (laterF t d), .int .i64 (laterE t d)]) ∧ Below w.heap.size w w' := by
  by_cases h1 : isNan t
  · rw [(later_none (later_bad (d := d) (.inl h1))).1, (later_none (later_bad (d := d) (.inl h1))).2]
    go_enter Try.func81, Try.ntmps81
    go_wp2_with fail
    refine (rnumber_any _ _).mono ?_
    rw [decide_eq_false (not_not_intro h1)]
    rintro e w' ⟨rfl, rfl⟩
    go_wp2
    go_ret2
    exact ⟨rfl, Below.refl _ _⟩
  by_cases h2 : isNan d
  · rw [(later_none (later_bad (t := t) (.inr (.inl h2)))).1, (later_none (later_bad (t := t) (.inr (.inl h2)))).2]
    go_enter Try.func81, Try.ntmps81
    go_wp2_with fail
    refine (rnumber_any _ _).mono ?_
    rw [decide_eq_true h1]
    rintro e w' ⟨rfl, rfl⟩
    go_wp2_with fail
    refine (rnumber_any _ _).mono ?_
    rw [decide_eq_false (not_not_intro h2)]
    rintro e w' ⟨rfl, rfl⟩
    go_wp2
    go_ret2
    exact ⟨rfl, Below.refl _ _⟩
  rcases fo_ways d 0 h2 zero_num with ⟨h3, ho⟩ | ⟨h3, ho⟩ | ⟨h3, ho⟩ <;> rw [skey_zero] at h3
  · rw [(later_none (later_bad (t := t) (d := d) (.inr (.inr (by omega))))).1, (later_none (later_bad (t := t) (d := d) (.inr (.inr (by omega))))).2]
    clear h3
    go_enter Try.func81, Try.ntmps81
    go_wp2_with fail
    refine (rnumber_any _ _).mono ?_
    rw [decide_eq_true h1]
    rintro e w' ⟨rfl, rfl⟩
    go_wp2_with fail
    refine (rnumber_any _ _).mono ?_
    rw [decide_eq_true h2]
    rintro e w' ⟨rfl, rfl⟩
    go_wp2
    go_ret2
    exact ⟨rfl, Below.refl _ _⟩
  · rw [(later_none (later_bad (t := t) (d := d) (.inr (.inr (by omega))))).1, (later_none (later_bad (t := t) (d := d) (.inr (.inr (by omega))))).2]
    clear h3
    go_enter Try.func81, Try.ntmps81
    go_wp2_with fail
    refine (rnumber_any _ _).mono ?_
    rw [decide_eq_true h1]
    rintro e w' ⟨rfl, rfl⟩
    go_wp2_with fail
    refine (rnumber_any _ _).mono ?_
    rw [decide_eq_true h2]
    rintro e w' ⟨rfl, rfl⟩
    go_wp2
    go_ret2
    exact ⟨rfl, Below.refl _ _⟩
  · have hc : ¬ (isNan t ∨ isNan d ∨ skey d ≤ 0) := by
      rintro (h | h | h)
      · exact h1 h
      · exact h2 h
      · omega
    rcases hs : FloatKind.f64.format.add t d with _ | s
    · rw [(later_none (later_nan hc hs)).1, (later_none (later_nan hc hs)).2]
      clear hc h3
      obtain ⟨r, hr, hrun⟩ := run_fadd_none (P := Try.prog) 27 t d hs w
      have Hs := hide hs
      clear hs
      go_enter Try.func81, Try.ntmps81
      go_wp2_with fail
      refine (rnumber_any _ _).mono ?_
      rw [decide_eq_true h1]
      rintro e w' ⟨rfl, rfl⟩
      go_wp2_with fail
      refine (rnumber_any _ _).mono ?_
      rw [decide_eq_true h2]
      rintro e w' ⟨rfl, rfl⟩
      go_wp2_with fail
      refine (rnumber_any _ _).mono ?_
      rw [decide_eq_false (not_not_intro hr)]
      rintro e w' ⟨rfl, rfl⟩
      go_wp2
      go_ret2
      exact ⟨rfl, (Below.refl _ _).drew⟩
    · have hrun := run_fadd_some (P := Try.prog) 27 t d s hs
      by_cases hn : isNan s
      · rw [(later_none (later_low hc hs (.inl hn))).1, (later_none (later_low hc hs (.inl hn))).2]
        have Hs := hide hs
        clear hs hc h3
        go_enter Try.func81, Try.ntmps81
        go_wp2_with fail
        refine (rnumber_any _ _).mono ?_
        rw [decide_eq_true h1]
        rintro e w' ⟨rfl, rfl⟩
        go_wp2_with fail
        refine (rnumber_any _ _).mono ?_
        rw [decide_eq_true h2]
        rintro e w' ⟨rfl, rfl⟩
        go_wp2_with fail
        refine (rnumber_any _ _).mono ?_
        rw [decide_eq_false (not_not_intro hn)]
        rintro e w' ⟨rfl, rfl⟩
        go_wp2
        go_ret2
        exact ⟨rfl, Below.refl _ _⟩
      · rcases fo_ways s t hn h1 with ⟨h5, ho2⟩ | ⟨h5, ho2⟩ | ⟨h5, ho2⟩
        · rw [(later_none (later_low hc hs (.inr (by omega)))).1, (later_none (later_low hc hs (.inr (by omega)))).2]
          have Hs := hide hs
          clear hs hc h3 h5
          go_enter Try.func81, Try.ntmps81
          go_wp2_with fail
          refine (rnumber_any _ _).mono ?_
          rw [decide_eq_true h1]
          rintro e w' ⟨rfl, rfl⟩
          go_wp2_with fail
          refine (rnumber_any _ _).mono ?_
          rw [decide_eq_true h2]
          rintro e w' ⟨rfl, rfl⟩
          go_wp2_with fail
          refine (rnumber_any _ _).mono ?_
          rw [decide_eq_true hn]
          rintro e w' ⟨rfl, rfl⟩
          go_wp2
          go_ret2
          exact ⟨rfl, Below.refl _ _⟩
        · rw [(later_none (later_low hc hs (.inr (by omega)))).1, (later_none (later_low hc hs (.inr (by omega)))).2]
          have Hs := hide hs
          clear hs hc h3 h5
          go_enter Try.func81, Try.ntmps81
          go_wp2_with fail
          refine (rnumber_any _ _).mono ?_
          rw [decide_eq_true h1]
          rintro e w' ⟨rfl, rfl⟩
          go_wp2_with fail
          refine (rnumber_any _ _).mono ?_
          rw [decide_eq_true h2]
          rintro e w' ⟨rfl, rfl⟩
          go_wp2_with fail
          refine (rnumber_any _ _).mono ?_
          rw [decide_eq_true hn]
          rintro e w' ⟨rfl, rfl⟩
          go_wp2
          go_ret2
          exact ⟨rfl, Below.refl _ _⟩
        · have h4 : ¬ (isNan s ∨ skey s ≤ skey t) := by
            rintro (h | h)
            · exact hn h
            · omega
          rw [(later_some (later_yes hc hs h4)).1, (later_some (later_yes hc hs h4)).2]
          have Hs := hide hs
          clear hs hc h3 h4 h5
          go_enter Try.func81, Try.ntmps81
          go_wp2_with fail
          refine (rnumber_any _ _).mono ?_
          rw [decide_eq_true h1]
          rintro e w' ⟨rfl, rfl⟩
          go_wp2_with fail
          refine (rnumber_any _ _).mono ?_
          rw [decide_eq_true h2]
          rintro e w' ⟨rfl, rfl⟩
          go_wp2_with fail
          refine (rnumber_any _ _).mono ?_
          rw [decide_eq_true hn]
          rintro e w' ⟨rfl, rfl⟩
          go_wp2_with fail
          refine (rnorm_any _ _).mono ?_
          rintro e w' ⟨rfl, rfl⟩
          go_wp2
          go_ret2
          exact ⟨rfl, Below.refl _ _⟩

/-! Which of two times comes first. -/
def ordI (a b : Int) : Int := if a < b then -1 else if b < a then 1 else 0
def timesI (a b : Nat) : Int := if isNan a then (if isNan b then 0 else 1) else if isNan b then -1 else ordI (skey a) (skey b)
theorem ordI_lt {a b : Int} (h : a < b) : ordI a b = -1 := by unfold ordI; rw [if_pos h]
theorem ordI_gt {a b : Int} (h : b < a) : ordI a b = 1 := by unfold ordI; rw [if_neg (by omega), if_pos h]
theorem ordI_eq {a b : Int} (h : a = b) : ordI a b = 0 := by unfold ordI; rw [if_neg (by omega), if_neg (by omega)]
theorem timesI_num {a b : Nat} (ha : ¬ isNan a) (hb : ¬ isNan b) : timesI a b = ordI (skey a) (skey b) := by unfold timesI; rw [if_neg ha, if_neg hb]
theorem cmpf_any (a b : Nat) (w : World) (ha : ¬ isNan a) (hb : ¬ isNan b) : Calls Try.prog 97 #[.float .f64 a, .float .f64 b] w fun e w' => e = .returned (.int .i64 (ordI (skey a) (skey b))) ∧ w = w' := by
  rcases fo_ways a b ha hb with ⟨h, ho⟩ | ⟨h, ho⟩ | ⟨h, ho⟩
  · rw [ordI_lt h]
    clear h
    go_enter Try.func97, Try.ntmps97
    go_wp2
    go_ret
    exact ⟨rfl, rfl⟩
  · rw [ordI_eq h]
    clear h
    go_enter Try.func97, Try.ntmps97
    go_wp2
    go_ret
    exact ⟨rfl, rfl⟩
  · rw [ordI_gt h]
    clear h
    go_enter Try.func97, Try.ntmps97
    go_wp2
    go_ret
    exact ⟨rfl, rfl⟩
theorem times_any (a b : Nat) (w : World) : Calls Try.prog 73 #[.float .f64 a, .float .f64 b] w fun e w' => e = .returned (.int .i64 (timesI a b)) ∧ w = w' := by
  by_cases ha : isNan a <;> by_cases hb : isNan b
  · have ht : timesI a b = 0 := by unfold timesI; simp [ha, hb]
    rw [ht]
    clear ht
    go_enter Try.func73, Try.ntmps73
    go_wp2_with fail
    refine (isnan_any _ _).mono ?_
    rw [decide_eq_true ha]
    rintro e w' ⟨rfl, rfl⟩
    go_wp2_with fail
    refine (isnan_any _ _).mono ?_
    rw [decide_eq_true hb]
    rintro e w' ⟨rfl, rfl⟩
    go_wp2
    go_ret
    exact ⟨rfl, rfl⟩
  · have ht : timesI a b = 1 := by unfold timesI; simp [ha, hb]
    rw [ht]
    clear ht
    go_enter Try.func73, Try.ntmps73
    go_wp2_with fail
    refine (isnan_any _ _).mono ?_
    rw [decide_eq_true ha]
    rintro e w' ⟨rfl, rfl⟩
    go_wp2_with fail
    refine (isnan_any _ _).mono ?_
    rw [decide_eq_false hb]
    rintro e w' ⟨rfl, rfl⟩
    go_wp2
    go_ret
    exact ⟨rfl, rfl⟩
  · have ht : timesI a b = -1 := by unfold timesI; simp [ha, hb]
    rw [ht]
    clear ht
    go_enter Try.func73, Try.ntmps73
    go_wp2_with fail
    refine (isnan_any _ _).mono ?_
    rw [decide_eq_false ha]
    rintro e w' ⟨rfl, rfl⟩
    go_wp2_with fail
    refine (isnan_any _ _).mono ?_
    rw [decide_eq_true hb]
    rintro e w' ⟨rfl, rfl⟩
    go_wp2
    go_ret
    exact ⟨rfl, rfl⟩
  · have ht : timesI a b = ordI (skey a) (skey b) := by unfold timesI; simp [ha, hb]
    rw [ht]
    clear ht
    go_enter Try.func73, Try.ntmps73
    go_wp2_with fail
    refine (isnan_any _ _).mono ?_
    rw [decide_eq_false ha]
    rintro e w' ⟨rfl, rfl⟩
    go_wp2_with fail
    refine (isnan_any _ _).mono ?_
    rw [decide_eq_false hb]
    rintro e w' ⟨rfl, rfl⟩
    go_wp2_with fail
    refine (cmpf_any _ _ _ ha hb).mono ?_
    rintro e w' ⟨rfl, rfl⟩
    go_wp2
    go_ret
    exact ⟨rfl, rfl⟩

theorem rtimes_any (a b : Nat) (w : World) : Calls Try.prog 38 #[.float .f64 a, .float .f64 b] w fun e w' => e = .returned (.int .i64 (timesI a b)) ∧ w = w' := by
  by_cases ha : isNan a
  · have ho := fo_nan a b (.inl ha)
    by_cases hb : isNan b
    · have ht : timesI a b = 0 := by unfold timesI; simp [ha, hb]
      rw [ht]
      clear ht
      go_enter Try.func38, Try.ntmps38
      go_wp2_with fail
      refine (rnumber_any _ _).mono ?_
      rw [decide_eq_false (not_not_intro ha)]
      rintro e w' ⟨rfl, rfl⟩
      go_wp2_with fail
      refine (rnumber_any _ _).mono ?_
      rw [decide_eq_false (not_not_intro hb)]
      rintro e w' ⟨rfl, rfl⟩
      go_wp2
      go_ret
      exact ⟨rfl, rfl⟩
    · have ht : timesI a b = 1 := by unfold timesI; simp [ha, hb]
      rw [ht]
      clear ht
      go_enter Try.func38, Try.ntmps38
      go_wp2_with fail
      refine (rnumber_any _ _).mono ?_
      rw [decide_eq_false (not_not_intro ha)]
      rintro e w' ⟨rfl, rfl⟩
      go_wp2_with fail
      refine (rnumber_any _ _).mono ?_
      rw [decide_eq_true hb]
      rintro e w' ⟨rfl, rfl⟩
      go_wp2_with fail
      refine (rnumber_any _ _).mono ?_
      rw [decide_eq_true hb]
      rintro e w' ⟨rfl, rfl⟩
      go_wp2
      go_ret
      exact ⟨rfl, rfl⟩
  · by_cases hb : isNan b
    · have ho := fo_nan a b (.inr hb)
      have ht : timesI a b = -1 := by unfold timesI; simp [ha, hb]
      rw [ht]
      clear ht
      go_enter Try.func38, Try.ntmps38
      go_wp2_with fail
      refine (rnumber_any _ _).mono ?_
      rw [decide_eq_true ha]
      rintro e w' ⟨rfl, rfl⟩
      go_wp2_with fail
      refine (rnumber_any _ _).mono ?_
      rw [decide_eq_false (not_not_intro hb)]
      rintro e w' ⟨rfl, rfl⟩
      go_wp2
      go_ret
      exact ⟨rfl, rfl⟩
    · rw [timesI_num ha hb]
      rcases fo_ways a b ha hb with ⟨h, ho⟩ | ⟨h, ho⟩ | ⟨h, ho⟩
      · rw [ordI_lt h]
        clear h
        go_enter Try.func38, Try.ntmps38
        go_wp2_with fail
        refine (rnumber_any _ _).mono ?_
        rw [decide_eq_true ha]
        rintro e w' ⟨rfl, rfl⟩
        go_wp2_with fail
        refine (rnumber_any _ _).mono ?_
        rw [decide_eq_true hb]
        rintro e w' ⟨rfl, rfl⟩
        go_wp2
        go_ret
        exact ⟨rfl, rfl⟩
      · rw [ordI_eq h]
        clear h
        go_enter Try.func38, Try.ntmps38
        go_wp2_with fail
        refine (rnumber_any _ _).mono ?_
        rw [decide_eq_true ha]
        rintro e w' ⟨rfl, rfl⟩
        go_wp2
        go_ret
        exact ⟨rfl, rfl⟩
      · rw [ordI_gt h]
        clear h
        go_enter Try.func38, Try.ntmps38
        go_wp2_with fail
        refine (rnumber_any _ _).mono ?_
        rw [decide_eq_true ha]
        rintro e w' ⟨rfl, rfl⟩
        go_wp2_with fail
        refine (rnumber_any _ _).mono ?_
        rw [decide_eq_true hb]
        rintro e w' ⟨rfl, rfl⟩
        go_wp2
        go_ret
        exact ⟨rfl, rfl⟩
end Go.Proofs.Ytpfcmfannkbipaa
end
