/- Plain laws of floats: what comes of a sum of two finite words. No program in sight. No condition. -/
import Derived.Test.YtpfcmfannkbipaaFloatPl2
set_option linter.unusedVariables false
set_option maxRecDepth 20000
namespace Go.Proofs.Ytpfcmfannkbipaa

/-- A finite word's value in units of the least place. -/
def valI (x : Nat) : Int := sg (sgnB x) (mag (rung x))
def sgRnd (v : Int) : Int := if v < 0 then -(rnd v.natAbs : Int) else rnd v.natAbs
theorem rnd_le (v : Nat) : rnd v ≤ 9218868437227405312 := Nat.min_le_right _ _
theorem sgRnd_mono {a b : Int} (h : a ≤ b) : sgRnd a ≤ sgRnd b := by
  unfold sgRnd
  by_cases ha : a < 0 <;> by_cases hb : b < 0
  · rw [if_pos ha, if_pos hb]
    have := rnd_mono (show b.natAbs ≤ a.natAbs by omega)
    omega
  · rw [if_pos ha, if_neg hb]
    omega
  · omega
  · rw [if_neg ha, if_neg hb]
    have := rnd_mono (show a.natAbs ≤ b.natAbs by omega)
    omega
theorem valI_mono {x y : Nat} (h : skey x ≤ skey y) : valI x ≤ valI y := by
  rw [skey_sg, skey_sg] at h
  unfold valI
  have h1 := sg_compare (sgnB x) (sgnB y) (rung x) (rung y)
  rcases Int.lt_trichotomy (sg (sgnB x) (rung x)) (sg (sgnB y) (rung y)) with h2 | h2 | h2
  · rw [Int.compare_eq_lt.2 h2] at h1
    exact Int.le_of_lt (Int.compare_eq_lt.1 h1)
  · rw [Int.compare_eq_eq.2 h2] at h1
    exact Int.le_of_eq (Int.compare_eq_eq.1 h1)
  · omega
theorem word_key (s : Bool) (r : Nat) (h : r ≤ 9218868437227405312) : skey (Ieee.double.word s r) = sg s r ∧ ¬ isNan (Ieee.double.word s r) ∧ Ieee.double.word s r < 18446744073709551616 := by
  unfold Ieee.Format.word skey isNan rung sgnB sg
  rw [d_sw]
  cases s
  · have e1 : r % 9223372036854775808 = r := Nat.mod_eq_of_lt (by omega)
    have e2 : r / 9223372036854775808 = 0 := Nat.div_eq_of_lt (by omega)
    simp [e1, e2]
    omega
  · have e1 : (9223372036854775808 + r) % 9223372036854775808 = r := by omega
    have e2 : (9223372036854775808 + r) / 9223372036854775808 = 1 := by omega
    simp [e1, e2]
    omega
theorem word_inf (s : Bool) : skey (Ieee.double.word s 9218868437227405312) = sg s 9218868437227405312 := (word_key s _ (Nat.le_refl _)).1

theorem natAbs_mul_pow (a : Int) (k : Nat) : (a * ((2 ^ k : Nat) : Int)).natAbs = a.natAbs * 2 ^ k := by rw [Int.natAbs_mul, Int.natAbs_natCast]
/-- A sum of two finite words. -/
theorem add_finite (x y : Nat) (hx : rung x < 9218868437227405312) (hy : rung y < 9218868437227405312) :
    ∃ z, Ieee.double.add x y = some z ∧ ¬ isNan z ∧ skey z = sgRnd (valI x + valI y) ∧ z < 18446744073709551616 := by
  obtain ⟨m, i, e1, e2⟩ := read_finite x hx
  obtain ⟨n, j, e3, e4⟩ := read_finite y hy
  unfold Ieee.Format.add
  rw [e1, e3]
  unfold Ieee.Datum.sum
  simp only [Option.map_some]
  have hmin : min (-1074 + (i : Int)) (-1074 + (j : Int)) = -1074 + ((min i j : Nat) : Int) := by omega
  have k1 : (-1074 + (i : Int) - (-1074 + ((min i j : Nat) : Int))).toNat = i - min i j := by omega
  have k2 : (-1074 + (j : Int) - (-1074 + ((min i j : Nat) : Int))).toNat = j - min i j := by omega
  rw [hmin, k1, k2, signed_eq, signed_eq]
  have hv : (sg (sgnB x) (m * 2 ^ (i - min i j)) + sg (sgnB y) (n * 2 ^ (j - min i j))) * ((2 ^ min i j : Nat) : Int) = valI x + valI y := by
    unfold valI
    rw [Int.add_mul, ← sg_mul, ← sg_mul, Nat.mul_assoc, Nat.mul_assoc, ← Nat.pow_add, ← Nat.pow_add, Nat.sub_add_cancel (Nat.min_le_left i j), Nat.sub_add_cancel (Nat.min_le_right i j), e2, e4]
  generalize sg (sgnB x) (m * 2 ^ (i - min i j)) + sg (sgnB y) (n * 2 ^ (j - min i j)) = total at *
  generalize min i j = k at *
  refine ⟨_, rfl, ?_⟩
  unfold Ieee.Format.write
  simp only
  rw [nearest_rnd, ← hv]
  have hr := rnd_le (total.natAbs * 2 ^ k)
  have ha := natAbs_mul_pow total k
  have hp : (0 : Int) < ((2 ^ k : Nat) : Int) := by have := Nat.two_pow_pos k; omega
  obtain ⟨w1, w2, w3⟩ := word_key (if total = 0 then sgnB x && sgnB y else decide (total < 0)) (rnd (total.natAbs * 2 ^ k)) hr
  refine ⟨w2, ?_, w3⟩
  rw [w1]
  unfold sgRnd
  rw [ha]
  by_cases h0 : total = 0
  · subst h0
    simp [rnd_zero, sg]
  · rw [if_neg h0]
    by_cases hneg : total < 0
    · rw [if_pos (Int.mul_neg_of_neg_of_pos hneg hp)]
      simp [sg, hneg]
    · have : ¬ total * ((2 ^ k : Nat) : Int) < 0 := by
        have := Int.mul_nonneg (show 0 ≤ total by omega) (Int.le_of_lt hp)
        omega
      rw [if_neg this]
      simp [sg, hneg]
/-- An infinity on one side. -/
theorem add_inf_left (x y : Nat) (hx : rung x = 9218868437227405312) (hy : rung y < 9218868437227405312) : Ieee.double.add x y = some (Ieee.double.word (sgnB x) 9218868437227405312) := by
  obtain ⟨n, j, e3, e4⟩ := read_finite y hy
  unfold Ieee.Format.add
  rw [read_inf x hx, e3]
  rfl
theorem add_inf_right (x y : Nat) (hx : rung x < 9218868437227405312) (hy : rung y = 9218868437227405312) : Ieee.double.add x y = some (Ieee.double.word (sgnB y) 9218868437227405312) := by
  obtain ⟨n, j, e3, e4⟩ := read_finite x hx
  unfold Ieee.Format.add
  rw [read_inf y hy, e3]
  rfl
theorem add_inf_both (x y : Nat) (hx : rung x = 9218868437227405312) (hy : rung y = 9218868437227405312) : Ieee.double.add x y = if sgnB x = sgnB y then some (Ieee.double.word (sgnB x) 9218868437227405312) else none := by
  unfold Ieee.Format.add
  rw [read_inf x hx, read_inf y hy]
  unfold Ieee.Datum.sum
  simp only
  split
  · rfl
  · rfl
theorem skey_bound (x : Nat) (h : ¬ isNan x) : -9218868437227405312 ≤ skey x ∧ skey x ≤ 9218868437227405312 := by
  unfold isNan at h
  unfold skey
  split <;> omega

/-- ADDING ONE TO TWO KEEPS THEIR ORDER, where both sums are greater than what was added to. -/
theorem add_grows (t u d s1 s2 : Nat) (ht : ¬ isNan t) (hu : ¬ isNan u) (hd : ¬ isNan d) (hd0 : 0 < skey d) (h : skey t ≤ skey u)
    (h1 : Ieee.double.add t d = some s1) (h2 : Ieee.double.add u d = some s2) (g1 : skey t < skey s1) (g2 : skey u < skey s2) (n1 : ¬ isNan s1) (n2 : ¬ isNan s2) : skey s1 ≤ skey s2 := by
  have hnd : sgnB d = false := by
    unfold skey at hd0
    cases hs : sgnB d
    · rfl
    · rw [hs] at hd0
      simp at hd0
      omega
  have bt := skey_bound s1 n1
  have bu := skey_bound s2 n2
  by_cases hdi : rung d = 9218868437227405312
  · have hs2 : skey s2 = 9218868437227405312 := by
      by_cases hui : rung u = 9218868437227405312
      · rw [add_inf_both u d hui hdi] at h2
        split at h2
        · injection h2 with h2
          rw [← h2, word_inf]
          rename_i he
          rw [he, hnd]
          rfl
        · cases h2
      · rw [add_inf_right u d (by unfold isNan at hu; omega) hdi] at h2
        injection h2 with h2
        rw [← h2, word_inf, hnd]
        rfl
    omega
  · have hdf : rung d < 9218868437227405312 := by unfold isNan at hd; omega
    have hti : rung t ≠ 9218868437227405312 := by
      intro hti
      rw [add_inf_left t d hti hdf] at h1
      injection h1 with h1
      rw [← h1, word_inf, skey_sg, hti] at g1
      exact Int.lt_irrefl _ g1
    have hui : rung u ≠ 9218868437227405312 := by
      intro hui
      rw [add_inf_left u d hui hdf] at h2
      injection h2 with h2
      rw [← h2, word_inf, skey_sg, hui] at g2
      exact Int.lt_irrefl _ g2
    obtain ⟨z1, a1, _, a3, _⟩ := add_finite t d (by unfold isNan at ht; omega) hdf
    obtain ⟨z2, b1, _, b3, _⟩ := add_finite u d (by unfold isNan at hu; omega) hdf
    rw [h1] at a1
    rw [h2] at b1
    injection a1 with a1
    injection b1 with b1
    rw [a1, b1, a3, b3]
    have := valI_mono h
    exact sgRnd_mono (by omega)
end Go.Proofs.Ytpfcmfannkbipaa
