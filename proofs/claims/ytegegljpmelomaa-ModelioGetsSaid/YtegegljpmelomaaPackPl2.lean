/- More plain laws of pack: the order of bytes, numbers there and back. No program in sight. No condition. -/
import Derived.Test.YtegegljpmelomaaPack8
set_option linter.unusedVariables false
namespace Go.Proofs.Ytegegljpmelomaa
open Go.RowKit Go.Deep

theorem num_foldl (l : List UInt8) : ∀ a : Nat, l.foldl (fun a b => a * 256 + b.toNat) a = a * 256 ^ l.length + num l := by
  induction l with
  | nil => intro a; simp [num]
  | cons x l ih =>
    intro a
    have h1 := ih (a * 256 + x.toNat)
    have h2 := ih (0 * 256 + x.toNat)
    unfold num at h1 h2 ⊢
    simp only [List.foldl_cons, List.length_cons]
    rw [h1, h2, Nat.pow_succ]
    simp only [Nat.zero_mul, Nat.zero_add, Nat.add_mul]
    rw [Nat.mul_assoc, Nat.mul_comm (256 ^ l.length) 256, Nat.add_assoc]
theorem num_cons (x : UInt8) (l : List UInt8) : num (x :: l) = x.toNat * 256 ^ l.length + num l := by
  have := num_foldl l (0 * 256 + x.toNat)
  simp only [Nat.zero_mul, Nat.zero_add] at this
  unfold num at this ⊢
  simpa using this
theorem num_be (k n : Nat) : num (be k n) = n % 256 ^ k := by
  induction k with
  | zero => simp [be, num, Nat.mod_one]
  | succ k ih =>
    have hx : (UInt8.ofNat (n / 256 ^ k % 256)).toNat = n / 256 ^ k % 256 := by rw [UInt8.toNat_ofNat', Nat.mod_mod]
    unfold be
    rw [num_cons, ih, be_length, hx, Nat.pow_succ, Nat.mod_mul, Nat.add_comm, Nat.mul_comm]
theorem be_num (l : List UInt8) : be l.length (num l) = l := by
  induction l with
  | nil => rfl
  | cons x l ih =>
    have hl := num_lt l
    have hp : 0 < 256 ^ l.length := Nat.pow_pos (by decide)
    have e1 : num (x :: l) / 256 ^ l.length = x.toNat := by
      rw [num_cons, Nat.add_comm, Nat.add_mul_div_right _ _ hp, Nat.div_eq_of_lt hl, Nat.zero_add]
    have e2 : num (x :: l) % 256 ^ l.length = num l := by
      rw [num_cons, Nat.add_comm, Nat.add_mul_mod_self_right, Nat.mod_eq_of_lt hl]
    have e3 : ∀ k n m, n % 256 ^ k = m % 256 ^ k → be k n = be k m := by
      intro k
      induction k with
      | zero => intros; rfl
      | succ k ih2 =>
        intro n m h
        have h1 : n % 256 ^ k = m % 256 ^ k := by
          have := congrArg (· % 256 ^ k) h
          simpa [Nat.pow_succ, Nat.mod_mul_right_mod] using this
        have h2 : n / 256 ^ k % 256 = m / 256 ^ k % 256 := by
          rw [Nat.pow_succ, Nat.mod_mul, Nat.mod_mul] at h
          have hp2 : 0 < 256 ^ k := Nat.pow_pos (by decide)
          rw [h1] at h
          exact Nat.eq_of_mul_eq_mul_left hp2 (Nat.add_left_cancel h)
        unfold be
        rw [h2, ih2 n m h1]
    unfold List.length be
    rw [e1, e3 l.length _ (num l) (by rw [e2, Nat.mod_eq_of_lt hl]), ih, Nat.mod_eq_of_lt x.toNat_lt]
    simp
theorem less_aux (M x y r s : Nat) (hr : r < M) (hs : s < M) : (x < y ∨ x = y ∧ r < s) ↔ r + M * x < s + M * y := by
  constructor
  · rintro (h | ⟨rfl, h⟩)
    · have : M * (x + 1) ≤ M * y := Nat.mul_le_mul_left M h
      rw [Nat.mul_add] at this
      omega
    · omega
  · intro h
    rcases Nat.lt_trichotomy x y with h1 | h1 | h1
    · exact .inl h1
    · subst h1
      exact .inr ⟨rfl, by omega⟩
    · exfalso
      have : M * (y + 1) ≤ M * x := Nat.mul_le_mul_left M h1
      rw [Nat.mul_add] at this
      omega
theorem be_less (k a b : Nat) : Op.bytesLess (be k a) (be k b) = decide (a % 256 ^ k < b % 256 ^ k) := by
  induction k with
  | zero => simp [be, Op.bytesLess, Nat.mod_one]
  | succ k ih =>
    have hp : 0 < 256 ^ k := Nat.pow_pos (by decide)
    have hx : ∀ n : Nat, (UInt8.ofNat (n / 256 ^ k % 256)).toNat = n / 256 ^ k % 256 := fun n => by rw [UInt8.toNat_ofNat', Nat.mod_mod]
    have ha := less_aux (256 ^ k) (a / 256 ^ k % 256) (b / 256 ^ k % 256) (a % 256 ^ k) (b % 256 ^ k) (Nat.mod_lt _ hp) (Nat.mod_lt _ hp)
    rw [Bool.eq_iff_iff, decide_eq_true_eq, Nat.pow_succ, Nat.mod_mul, Nat.mod_mul, ← ha]
    unfold be Op.bytesLess
    rw [ih, Bool.or_eq_true, Bool.and_eq_true, decide_eq_true_eq, beq_iff_eq, decide_eq_true_eq, UInt8.lt_iff_toNat_lt, ← UInt8.toNat_inj, hx, hx]
theorem uS_less (a b : Int) (ha : 0 ≤ a) (ha' : a ≤ 18446744073709551615) (hb : 0 ≤ b) (hb' : b ≤ 18446744073709551615) : Op.bytesLess (uS a).toList (uS b).toList = decide (a < b) := by
  rw [Lib.toList_data, Lib.toList_data]
  show Op.bytesLess (be 8 a.toNat) (be 8 b.toNat) = _
  rw [be_less, Nat.mod_eq_of_lt (by omega), Nat.mod_eq_of_lt (by omega), Bool.eq_iff_iff, decide_eq_true_eq, decide_eq_true_eq]
  omega
theorem iS_less (a b : Int) (ha : -9223372036854775808 ≤ a) (ha' : a ≤ 9223372036854775807) (hb : -9223372036854775808 ≤ b) (hb' : b ≤ 9223372036854775807) : Op.bytesLess (iS a).toList (iS b).toList = decide (a < b) := by
  unfold iS
  rw [uS_less _ _ (wrap_u64_rng _).1 (wrap_u64_rng _).2 (wrap_u64_rng _).1 (wrap_u64_rng _).2, IntKind.wrap_u64, IntKind.wrap_u64, Bool.eq_iff_iff, decide_eq_true_eq, decide_eq_true_eq]
  omega
theorem uS_inj (a b : Int) (ha : 0 ≤ a) (ha' : a ≤ 18446744073709551615) (hb : 0 ≤ b) (hb' : b ≤ 18446744073709551615) : (uS a = uS b) ↔ a = b := by
  constructor
  · intro h
    have h1 := congrArg num (bs_inj h)
    rw [num_be, num_be, Nat.mod_eq_of_lt (by omega), Nat.mod_eq_of_lt (by omega)] at h1
    omega
  · intro h; rw [h]
theorem iS_inj (a b : Int) (ha : -9223372036854775808 ≤ a) (ha' : a ≤ 9223372036854775807) (hb : -9223372036854775808 ≤ b) (hb' : b ≤ 9223372036854775807) : (iS a = iS b) ↔ a = b := by
  unfold iS
  rw [uS_inj _ _ (wrap_u64_rng _).1 (wrap_u64_rng _).2 (wrap_u64_rng _).1 (wrap_u64_rng _).2, IntKind.wrap_u64, IntKind.wrap_u64]
  omega
theorem toList_eq_iff (a b : ByteArray) : a.toList = b.toList ↔ a = b := by
  rw [Lib.toList_data, Lib.toList_data]
  constructor
  · intro h
    exact ByteArray.ext (Array.toList_inj.1 h)
  · intro h; rw [h]
theorem uS_beq (a b : Int) (ha : 0 ≤ a) (ha' : a ≤ 18446744073709551615) (hb : 0 ≤ b) (hb' : b ≤ 18446744073709551615) : ((uS a).toList == (uS b).toList) = (a == b) := by
  rw [Bool.eq_iff_iff, beq_iff_eq, beq_iff_eq, toList_eq_iff]
  exact uS_inj a b ha ha' hb hb'
end Go.Proofs.Ytegegljpmelomaa
