/- Plain law: keys of events are in the order of the events. -/
import Derived.Test.YtpgbfglfmmohdaaCmp08
import Derived.Test.YtpgbfglfmmohdaaKeyPl
import Derived.Test.YtpgbfglfmmohdaaRec
set_option linter.unusedVariables false
namespace Go.Proofs.Ytpgbfglfmmohdaa
open Go.RowKit Go.Deep

theorem firstNz_lt (x : Int) (r : List Int) : firstNz (x :: r) < 0 ↔ x < 0 ∨ x = 0 ∧ firstNz r < 0 := by
  rw [firstNz]
  split <;> omega
theorem firstNz_eq (x : Int) (r : List Int) : firstNz (x :: r) = 0 ↔ x = 0 ∧ firstNz r = 0 := by
  rw [firstNz]
  split <;> omega
theorem ordI_lt0 (a b : Int) : ordI a b < 0 ↔ a < b := by unfold ordI; split <;> (try split) <;> omega
theorem ordI_eq0 (a b : Int) : ordI a b = 0 ↔ a = b := by unfold ordI; split <;> (try split) <;> omega
theorem oneS_data (n : Int) : (oneS n).data.toList = [UInt8.ofNat n.toNat] := rfl
theorem one_len (n : Int) : (oneS n).data.toList.length = 1 := rfl
theorem oneS_less (a b : Int) (ha : 0 ≤ a ∧ a ≤ 255) (hb : 0 ≤ b ∧ b ≤ 255) : Op.bytesLess (oneS a).data.toList (oneS b).data.toList = decide (a < b) := by
  have e : (UInt8.ofNat a.toNat < UInt8.ofNat b.toNat) ↔ a < b := by
    rw [UInt8.lt_iff_toNat_lt, UInt8.toNat_ofNat', UInt8.toNat_ofNat']
    omega
  have e2 : decide (UInt8.ofNat a.toNat < UInt8.ofNat b.toNat) = decide (a < b) := by rw [Bool.eq_iff_iff, decide_eq_true_eq, decide_eq_true_eq]; exact e
  rw [oneS_data, oneS_data]
  simp only [Op.bytesLess, e2, Bool.and_false, Bool.or_false]
theorem oneS_inj (a b : Int) (ha : 0 ≤ a ∧ a ≤ 255) (hb : 0 ≤ b ∧ b ≤ 255) : oneS a = oneS b ↔ a = b := by
  constructor
  · intro h
    have h := bs_inj h
    have h1 : UInt8.ofNat a.toNat = UInt8.ofNat b.toNat := by simpa using h
    have h2 := congrArg UInt8.toNat h1
    rw [UInt8.toNat_ofNat', UInt8.toNat_ofNat'] at h2
    omega
  · intro h
    rw [h]
theorem keyR_data (t : Nat) (s n p : Int) : (keyR t s n p).data.toList = (uS (keyB (normF t))).data.toList ++ ((oneS (s + 1)).data.toList ++ ((iS n).data.toList ++ (iS p).data.toList)) := by
  unfold keyR
  rw [app_data, app_data, app_data, List.append_assoc, List.append_assoc]
theorem keyR_less (t u : Nat) (s n p s' n' p' d d' : Int) (ht : t < 18446744073709551616) (hu : u < 18446744073709551616) (h : rightE t s n d = true) (h' : rightE u s' n' d' = true)
    (hp : -9223372036854775808 ≤ p ∧ p ≤ 9223372036854775807) (hp' : -9223372036854775808 ≤ p' ∧ p' ≤ 9223372036854775807) (e : Int) :
    Op.bytesLess (keyR t s n p).toList (keyR u s' n' p').toList = decide (firstNz (evL t s n e p u s' n' e p') < 0) ∧ ((keyR t s n p).toList == (keyR u s' n' p').toList) = (firstNz (evL t s n e p u s' n' e p') == 0) := by
  obtain ⟨nt, hs, hn, hd⟩ := right_facts h
  obtain ⟨nu, hs', hn', hd'⟩ := right_facts h'
  obtain ⟨k1, k2⟩ := keyB_skey t u ht hu nt nu
  have r1 := keyB_rng (normF t) (normF_lt t ht)
  have r2 := keyB_rng (normF u) (normF_lt u hu)
  have a1 := uS_less (keyB (normF t)) (keyB (normF u)) r1.1 r1.2 r2.1 r2.2
  have a2 := uS_inj (keyB (normF t)) (keyB (normF u)) r1.1 r1.2 r2.1 r2.2
  have b1 := oneS_less (s + 1) (s' + 1) (by omega) (by omega)
  have b2 := oneS_inj (s + 1) (s' + 1) (by omega) (by omega)
  have c1 := iS_less n n' (by omega) (by omega) (by omega) (by omega)
  have c2 := iS_inj n n' (by omega) (by omega) (by omega) (by omega)
  have d1 := iS_less p p' hp.1 hp.2 hp'.1 hp'.2
  have d2 := iS_inj p p' hp.1 hp.2 hp'.1 hp'.2
  have dinj : ∀ x y : ByteArray, x.data.toList = y.data.toList ↔ x = y := fun x y => ⟨fun h => ByteArray.ext (Array.toList_inj.1 h), fun h => by rw [h]⟩
  have f1 : firstNz (evL t s n e p u s' n' e p') < 0 ↔ skey t < skey u ∨ skey t = skey u ∧ (s < s' ∨ s = s' ∧ (n < n' ∨ n = n' ∧ p < p')) := by
    unfold evL
    rw [firstNz_lt, firstNz_lt, firstNz_lt, firstNz_lt, firstNz_lt, timesI_num nt nu, ordI_lt0, ordI_lt0, ordI_lt0, ordI_lt0, ordI_lt0, ordI_eq0, ordI_eq0, ordI_eq0, ordI_eq0, ordI_eq0]
    clear a1 a2 b1 b2 c1 c2 d1 d2 dinj k1 k2 r1 r2
    simp [firstNz]
  have f2 : firstNz (evL t s n e p u s' n' e p') = 0 ↔ skey t = skey u ∧ s = s' ∧ n = n' ∧ p = p' := by
    unfold evL
    rw [firstNz_eq, firstNz_eq, firstNz_eq, firstNz_eq, firstNz_eq, timesI_num nt nu, ordI_eq0, ordI_eq0, ordI_eq0, ordI_eq0, ordI_eq0]
    clear a1 a2 b1 b2 c1 c2 d1 d2 dinj k1 k2 r1 r2 f1
    simp [firstNz]
  generalize firstNz (evL t s n e p u s' n' e p') = F at *
  rw [Lib.toList_data, Lib.toList_data] at a1 c1 d1 ⊢
  have q1 : ((uS (keyB (normF t))).data.toList == (uS (keyB (normF u))).data.toList) = decide (skey t = skey u) := by
    rw [Bool.eq_iff_iff, beq_iff_eq, decide_eq_true_eq, dinj, a2, k2]
  have q2 : ((oneS (s + 1)).data.toList == (oneS (s' + 1)).data.toList) = decide (s = s') := by
    rw [Bool.eq_iff_iff, beq_iff_eq, decide_eq_true_eq, dinj, b2]
    omega
  have q3 : ((iS n).data.toList == (iS n').data.toList) = decide (n = n') := by
    rw [Bool.eq_iff_iff, beq_iff_eq, decide_eq_true_eq, dinj, c2]
  have q4 : ((iS p).data.toList == (iS p').data.toList) = decide (p = p') := by
    rw [Bool.eq_iff_iff, beq_iff_eq, decide_eq_true_eq, dinj, d2]
  rw [keyR_data, keyR_data, less_append _ _ _ _ (by rw [us_len, us_len]), less_append _ _ _ _ (by rw [one_len, one_len]), less_append _ _ _ _ (by unfold iS; rw [us_len, us_len]), a1, b1, c1, d1]
  constructor
  · rw [q1, q2, q3, Bool.eq_iff_iff]
    simp only [Bool.or_eq_true, Bool.and_eq_true, decide_eq_true_eq]
    rw [f1, k1]
    omega
  · rw [Bool.eq_iff_iff, beq_iff_eq, beq_iff_eq, f2]
    constructor
    · intro h
      obtain ⟨h1, h2⟩ := List.append_inj h (by rw [us_len, us_len])
      obtain ⟨h3, h4⟩ := List.append_inj h2 (by rw [one_len, one_len])
      obtain ⟨h5, h6⟩ := List.append_inj h4 (by unfold iS; rw [us_len, us_len])
      have w1 := k2.1 (a2.1 ((dinj _ _).1 h1))
      have w2 := b2.1 ((dinj _ _).1 h3)
      have w3 := c2.1 ((dinj _ _).1 h5)
      have w4 := d2.1 ((dinj _ _).1 h6)
      exact ⟨w1, by omega, w3, w4⟩
    · rintro ⟨h1, rfl, rfl, rfl⟩
      rw [a2.2 (k2.2 h1)]
end Go.Proofs.Ytpgbfglfmmohdaa
