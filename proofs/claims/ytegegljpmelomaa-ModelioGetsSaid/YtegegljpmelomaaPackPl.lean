/- Plain laws of pack: numbers as bytes, the highest first. No program in sight. No condition. -/
import Derived.Test.YtegegljpmelomaaBase
set_option linter.unusedVariables false
namespace Go.Proofs.Ytegegljpmelomaa
open Go.RowKit Go.Deep

/-- The lowest k bytes of a number, the highest first. -/
def be : Nat → Nat → List UInt8
  | 0, _ => []
  | k + 1, n => UInt8.ofNat (n / 256 ^ k % 256) :: be k n
def bs (l : List UInt8) : ByteArray := ⟨l.toArray⟩
def byteV (b : UInt8) : Value := .int .u8 (b.toNat : Int)
/-- The number that bytes are, the highest first. -/
def num (l : List UInt8) : Nat := l.foldl (fun a b => a * 256 + b.toNat) 0

theorem be_length (k n : Nat) : (be k n).length = k := by
  induction k with
  | zero => rfl
  | succ k ih => simp [be, ih]
theorem bs_data (l : List UInt8) : (bs l).data.toList = l := rfl
theorem bs_size (l : List UInt8) : (bs l).size = l.length := by simp [bs, ByteArray.size]
theorem bs_of (s : ByteArray) : bs s.data.toList = s := rfl
theorem bs_inj {a b : List UInt8} (h : bs a = bs b) : a = b := by
  have := congrArg (fun s : ByteArray => s.data.toList) h
  exact this

/-- The byte that put lays, in the walk's spelling. -/
theorem put_byte (n : Int) (i : Nat) (h0 : 0 ≤ n) : (Value.int .u8 (n / 2 ^ (8 * i) % 256)) = byteV (UInt8.ofNat (n.toNat / 256 ^ i % 256)) := by
  obtain ⟨m, rfl⟩ := Int.eq_ofNat_of_zero_le h0
  unfold byteV
  congr 1
  have e : (256 : Nat) ^ i = 2 ^ (8 * i) := by rw [Nat.pow_mul]
  rw [Int.toNat_natCast, UInt8.toNat_ofNat', Nat.mod_mod, e, Int.natCast_emod, Int.natCast_ediv, Int.natCast_pow]
  rfl

theorem num_append (a : List UInt8) (b : UInt8) : num (a ++ [b]) = num a * 256 + b.toNat := by
  unfold num
  rw [List.foldl_append]
  rfl
theorem num_lt (l : List UInt8) : num l < 256 ^ l.length := by
  unfold num
  suffices h : ∀ (l : List UInt8) (a c : Nat), a < c → l.foldl (fun a b => a * 256 + b.toNat) a < c * 256 ^ l.length by
    have := h l 0 1 (by decide)
    simpa using this
  intro l
  induction l with
  | nil => intro a c h; simpa using h
  | cons x l ih =>
    intro a c h
    have hx := x.toNat_lt
    have := ih (a * 256 + x.toNat) (c * 256) (by omega)
    simpa [Nat.pow_succ, Nat.mul_comm, Nat.mul_assoc, Nat.mul_left_comm] using this
/-- What k bytes from a place on are, as a number. -/
def rdN (s : ByteArray) (p k : Nat) : Nat := num ((s.data.toList.drop p).take k)
theorem rdN_lt (s : ByteArray) (p k : Nat) : rdN s p k < 256 ^ k := by
  unfold rdN
  refine Nat.lt_of_lt_of_le (num_lt _) (Nat.pow_le_pow_right (by decide) ?_)
  exact List.length_take_le _ _
theorem rdN_succ (s : ByteArray) (p k : Nat) (h : p + k < s.size) : rdN s p (k + 1) = rdN s p k * 256 + s[p + k].toNat := by
  unfold rdN
  have hl : k < (s.data.toList.drop p).length := by rw [List.length_drop]; simp; omega
  rw [List.take_succ_eq_append_getElem hl, num_append]
  congr 2
  simp
  rfl
theorem rdN_zero (s : ByteArray) (p : Nat) : rdN s p 0 = 0 := by simp [rdN, num]
theorem or_byte (m b : Nat) (hm : m ≤ 72057594037927935) (hb : b < 256) : bits .or .u64 ((m : Int) * 256) (b : Int) = ((m * 256 + b : Nat) : Int) := by
  rw [show ((m : Int) * 256) = ((m * 256 : Nat) : Int) by simp, u64_or_nat _ _ (by omega) (by omega)]
  congr 1
  have := Nat.shiftLeft_add_eq_or_of_lt (b := b) (i := 8) (by omega) m
  rw [Nat.shiftLeft_eq] at this
  exact this.symm
end Go.Proofs.Ytegegljpmelomaa
