/- Plain laws of keys: the keys of lesser stamps are less, byte by byte. No program in sight. No condition. -/
import Derived.Test.YtpgbfglfmmohdaaKey
import Derived.Test.YtpgbfglfmmohdaaStampPl
set_option linter.unusedVariables false
set_option maxRecDepth 20000
namespace Go.Proofs.Ytpgbfglfmmohdaa
open Go.RowKit Go.Deep

theorem less_append : ∀ (x x' y y' : List UInt8), x.length = x'.length → Op.bytesLess (x ++ y) (x' ++ y') = (Op.bytesLess x x' || (x == x' && Op.bytesLess y y'))
  | [], [], y, y', _ => by simp [Op.bytesLess]
  | a :: x, b :: x', y, y', h => by
    have ih := less_append x x' y y' (by simpa using h)
    simp only [List.cons_append, Op.bytesLess, ih, List.cons_beq_cons]
    cases decide (a < b) <;> cases a == b <;> simp
theorem keyB_skey (t u : Nat) (ht : t < 18446744073709551616) (hu : u < 18446744073709551616) (nt : ¬ isNan t) (nu : ¬ isNan u) :
    (keyB (normF t) < keyB (normF u) ↔ skey t < skey u) ∧ (keyB (normF t) = keyB (normF u) ↔ skey t = skey u) := by
  have h1 := normF_sign t ht nt
  have h2 := normF_sign u hu nu
  have l1 := normF_lt t ht
  have l2 := normF_lt u hu
  rw [← (normF_key nt).2, ← (normF_key nu).2]
  generalize normF t = b at *
  generalize normF u = c at *
  have kb : ∀ x : Nat, x < 18446744073709551616 → skey x = if 9223372036854775808 ≤ x then -((x : Int) - 9223372036854775808) else x := by
    intro x hx
    unfold skey sgnB rung
    by_cases h : 9223372036854775808 ≤ x
    · have e1 : x / 9223372036854775808 = 1 := by omega
      rw [e1, if_pos h]
      simp
      omega
    · have e1 : x / 9223372036854775808 = 0 := by omega
      rw [e1, if_neg h]
      simp
      omega
  rw [kb b l1] at h1 ⊢
  rw [kb c l2] at h2 ⊢
  unfold keyB
  by_cases hb : 9223372036854775808 ≤ b <;> by_cases hc : 9223372036854775808 ≤ c <;> simp only [hb, hc, ↓reduceIte] at h1 h2 ⊢ <;> constructor <;> constructor <;> intro h <;> omega
theorem uS_data (n : Int) : (uS n).data.toList = be 8 n.toNat := rfl
theorem us_len (n : Int) : (uS n).data.toList.length = 8 := by rw [uS_data, be_length]
theorem keyS_data (t : Nat) (s n : Int) : (keyS t s n).data.toList = (uS (keyB (normF t))).data.toList ++ ((iS s).data.toList ++ (iS n).data.toList) := by
  unfold keyS
  rw [app_data, app_data, List.append_assoc]
theorem tk_num {t : Nat} (h : ¬ isNan t) : tk t = skey t := by unfold tk; rw [if_neg h]
theorem keyS_less (t u : Nat) (s n s' n' : Int) (ht : t < 18446744073709551616) (hu : u < 18446744073709551616) (nt : ¬ isNan t) (nu : ¬ isNan u)
    (hs : -9223372036854775808 ≤ s ∧ s ≤ 9223372036854775807) (hn : -9223372036854775808 ≤ n ∧ n ≤ 9223372036854775807) (hs' : -9223372036854775808 ≤ s' ∧ s' ≤ 9223372036854775807) (hn' : -9223372036854775808 ≤ n' ∧ n' ≤ 9223372036854775807) :
    Op.bytesLess (keyS t s n).toList (keyS u s' n').toList = decide (cmpS t s n u s' n' < 0) ∧ ((keyS t s n).toList == (keyS u s' n').toList) = (cmpS t s n u s' n' == 0) := by
  obtain ⟨k1, k2⟩ := keyB_skey t u ht hu nt nu
  have r1 := keyB_rng (normF t) (normF_lt t ht)
  have r2 := keyB_rng (normF u) (normF_lt u hu)
  have a1 := uS_less (keyB (normF t)) (keyB (normF u)) r1.1 r1.2 r2.1 r2.2
  have a2 := uS_inj (keyB (normF t)) (keyB (normF u)) r1.1 r1.2 r2.1 r2.2
  have b1 := iS_less s s' hs.1 hs.2 hs'.1 hs'.2
  have b2 := iS_inj s s' hs.1 hs.2 hs'.1 hs'.2
  have c1 := iS_less n n' hn.1 hn.2 hn'.1 hn'.2
  have c2 := iS_inj n n' hn.1 hn.2 hn'.1 hn'.2
  have w := cmpS_ways t u s n s' n'
  rw [tk_num nt, tk_num nu] at w
  have dinj : ∀ x y : ByteArray, x.data.toList = y.data.toList ↔ x = y := fun x y => ⟨fun h => ByteArray.ext (Array.toList_inj.1 h), fun h => by rw [h]⟩
  rw [Lib.toList_data, Lib.toList_data] at a1 b1 c1 ⊢
  rw [keyS_data, keyS_data, less_append _ _ _ _ (by rw [us_len, us_len]), less_append _ _ _ _ (by unfold iS; rw [us_len, us_len]), a1, b1, c1]
  have e1 : ((uS (keyB (normF t))).data.toList == (uS (keyB (normF u))).data.toList) = decide (skey t = skey u) := by
    rw [Bool.eq_iff_iff, beq_iff_eq, decide_eq_true_eq, dinj, a2, k2]
  have e2 : ((iS s).data.toList == (iS s').data.toList) = decide (s = s') := by
    rw [Bool.eq_iff_iff, beq_iff_eq, decide_eq_true_eq, dinj, b2]
  have e3 : ((iS n).data.toList == (iS n').data.toList) = decide (n = n') := by
    rw [Bool.eq_iff_iff, beq_iff_eq, decide_eq_true_eq, dinj, c2]
  have e4 : (((uS (keyB (normF t))).data.toList ++ ((iS s).data.toList ++ (iS n).data.toList)) == ((uS (keyB (normF u))).data.toList ++ ((iS s').data.toList ++ (iS n').data.toList))) = (decide (skey t = skey u) && (decide (s = s') && decide (n = n'))) := by
    rw [← e1, ← e2, ← e3, Bool.eq_iff_iff]
    simp only [beq_iff_eq, Bool.and_eq_true]
    constructor
    · intro h
      obtain ⟨h1, h2⟩ := List.append_inj h (by rw [us_len, us_len])
      obtain ⟨h3, h4⟩ := List.append_inj h2 (by unfold iS; rw [us_len, us_len])
      exact ⟨h1, h3, h4⟩
    · rintro ⟨h1, h2, h3⟩
      rw [h1, h2, h3]
  rw [e4, e1, e2]
  have e5 : decide (keyB (normF t) < keyB (normF u)) = decide (skey t < skey u) := by rw [Bool.eq_iff_iff, decide_eq_true_eq, decide_eq_true_eq]; exact k1
  rw [e5]
  clear a1 a2 b1 b2 c1 c2 e1 e2 e3 e4 e5 k1 k2 r1 r2
  generalize cmpS t s n u s' n' = x at *
  generalize skey t = a at *
  generalize skey u = b at *
  constructor
  · rw [Bool.eq_iff_iff]
    simp only [Bool.or_eq_true, Bool.and_eq_true, decide_eq_true_eq]
    omega
  · rw [Bool.eq_iff_iff]
    simp only [Bool.and_eq_true, decide_eq_true_eq, beq_iff_eq]
    omega
end Go.Proofs.Ytpgbfglfmmohdaa
