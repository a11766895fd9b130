/- More walks of package pack: reading. No condition but sizes that any memory has. -/
import Derived.Test.YtegegljpmelomaaPack2
set_option linter.unusedVariables false
set_option maxRecDepth 20000
namespace Go.Proofs.Ytegegljpmelomaa
open Go.RowKit Go.Deep

theorem get64_any (s : ByteArray) (w : World) (hs : s.size ≤ 8) :
    Calls Try.prog 91 #[.string s] w fun e w' => e = .returned (.int .u64 (rdN s 0 s.size : Nat)) ∧ w = w' := by
  go_enter Try.func91, Try.ntmps91
  go_wp2
  go_loop [3, 7] (fun n i => ∃ k : Nat, k ≤ s.size ∧ i = .int .i64 k ∧ n = .int .u64 (rdN s 0 k : Nat)) (fun _ i => s.size - (intOf i).toNat)
  case atStart => exact ⟨0, Nat.zero_le _, rfl, by rw [rdN_zero]; rfl⟩
  case round =>
    obtain ⟨k, hk, rfl, rfl⟩ := hrel
    by_cases hlt : k < s.size
    · have Hs := hide (show rdN s 0 (k + 1) = rdN s 0 k * 256 + s[k].toNat by simpa using rdN_succ s 0 k (by omega))
      have hm : rdN s 0 k ≤ 72057594037927935 := by
        have h1 := rdN_lt s 0 k
        have h2 : (256 : Nat) ^ k ≤ 256 ^ 7 := Nat.pow_le_pow_right (by decide) (by omega)
        omega
      have hb := s[k].toNat_lt
      have ho := or_byte (rdN s 0 k) s[k].toNat hm hb
      generalize rdN s 0 k = m at *
      go_wp2
      go_round
      case rel => exact ⟨k + 1, by omega, by go_num, by rw [Hs.out]; simp⟩
      case measure => simp [intOf]; omega
    · go_wp2
      go_ret
      exact ⟨ret_int (by rw [show k = s.size by omega]), rfl⟩
theorem left_range (s : ByteArray) (p n : Int) (w : World) (h : p < 0 ∨ (s.size : Int) < p) (hm : s.size ≤ 9223372036854775807) :
    Calls Try.prog 90 #[.string s, .int .i64 p, .int .i64 n] w fun e w' => e = .returned (.int .i64 3) ∧ w = w' := by
  by_cases h0 : p < 0
  · go_enter Try.func90, Try.ntmps90
    go_wp2
    go_ret
    exact ⟨rfl, rfl⟩
  · have h1 : (s.size : Int) < p := by omega
    go_enter Try.func90, Try.ntmps90
    go_wp2
    go_ret
    exact ⟨rfl, rfl⟩
theorem left_short (s : ByteArray) (p n : Int) (w : World) (h0 : 0 ≤ p) (h1 : p ≤ s.size) (h2 : (s.size : Int) - p < n) (hm : s.size ≤ 9223372036854775807) :
    Calls Try.prog 90 #[.string s, .int .i64 p, .int .i64 n] w fun e w' => e = .returned (.int .i64 5) ∧ w = w' := by
  go_enter Try.func90, Try.ntmps90
  go_wp2
  go_ret
  exact ⟨rfl, rfl⟩
theorem left_ok (s : ByteArray) (p n : Int) (w : World) (h0 : 0 ≤ p) (h1 : p ≤ s.size) (h2 : n ≤ (s.size : Int) - p) (hm : s.size ≤ 9223372036854775807) :
    Calls Try.prog 90 #[.string s, .int .i64 p, .int .i64 n] w fun e w' => e = .returned (.int .i64 0) ∧ w = w' := by
  go_enter Try.func90, Try.ntmps90
  go_wp2
  go_ret
  exact ⟨rfl, rfl⟩

theorem rdN_extract (s : ByteArray) (p k : Nat) (h : p + k ≤ s.size) : rdN (s.extract p (p + k)) 0 (s.extract p (p + k)).size = rdN s p k := by
  have hsz : (s.extract p (p + k)).size = k := by simp; omega
  rw [hsz]
  unfold rdN
  rw [Lib.extract_data, List.drop_zero, List.take_take]
  congr 2
  omega
theorem readu_any (s : ByteArray) (p : Nat) (w : World) (h : p + 8 ≤ s.size) (hm : s.size ≤ 9223372036854775807) :
    Calls Try.prog 85 #[.string s, .int .i64 p] w fun e w' => e = .returned (.tuple #[.int .u64 (rdN s p 8 : Nat), .int .i64 (p + 8 : Nat), .int .i64 0]) ∧ w = w' := by
  have Hr := hide (rdN_extract s p 8 h)
  have hz : (s.extract p (p + 8)).size ≤ 8 := by simp; omega
  have hsl := run_slice_str Try.underlying9 s .i64 .i64 (p : Int) ((p : Int) + 8) p (p + 8) rfl (by omega) (by omega) h
  go_enter Try.func85, Try.ntmps85
  go_wp2_with fail
  refine (left_ok _ _ _ _ (by omega) (by omega) (by omega) hm).mono ?_
  rintro e w' ⟨rfl, rfl⟩
  go_wp2_with fail
  refine (get64_any _ _ hz).mono ?_
  rw [Hr.out]
  rintro e w' ⟨rfl, rfl⟩
  go_wp2
  go_ret3
  exact ⟨rfl, rfl⟩
/-- What is wrong with a place at which n bytes are to be read. -/
theorem readu_range (s : ByteArray) (p : Int) (w : World) (h : p < 0 ∨ (s.size : Int) < p) (hm : s.size ≤ 9223372036854775807) :
    Calls Try.prog 85 #[.string s, .int .i64 p] w fun e w' => e = .returned (.tuple #[.int .u64 0, .int .i64 0, .int .i64 3]) ∧ w = w' := by
  go_enter Try.func85, Try.ntmps85
  go_wp2_with fail
  refine (left_range _ _ _ _ h hm).mono ?_
  rintro e w' ⟨rfl, rfl⟩
  go_wp2
  go_ret3
  exact ⟨rfl, rfl⟩
theorem readu_short (s : ByteArray) (p : Int) (w : World) (h0 : 0 ≤ p) (h1 : p ≤ s.size) (h : (s.size : Int) - p < 8) (hm : s.size ≤ 9223372036854775807) :
    Calls Try.prog 85 #[.string s, .int .i64 p] w fun e w' => e = .returned (.tuple #[.int .u64 0, .int .i64 0, .int .i64 5]) ∧ w = w' := by
  go_enter Try.func85, Try.ntmps85
  go_wp2_with fail
  refine (left_short _ _ _ _ h0 h1 h hm).mono ?_
  rintro e w' ⟨rfl, rfl⟩
  go_wp2
  go_ret3
  exact ⟨rfl, rfl⟩
def unI (n : Int) : Int := wrap64 (IntKind.u64.wrap (n + 9223372036854775808))
theorem readi_any (s : ByteArray) (p : Nat) (w : World) (h : p + 8 ≤ s.size) (hm : s.size ≤ 9223372036854775807) :
    Calls Try.prog 84 #[.string s, .int .i64 p] w fun e w' => e = .returned (.tuple #[.int .i64 (unI (rdN s p 8 : Nat)), .int .i64 (p + 8 : Nat), .int .i64 0]) ∧ w = w' := by
  go_enter Try.func84, Try.ntmps84
  go_wp2_with fail
  refine (readu_any _ _ _ h hm).mono ?_
  rintro e w' ⟨rfl, rfl⟩
  go_wp2
  go_ret3
  exact ⟨rfl, rfl⟩
theorem readi_range (s : ByteArray) (p : Int) (w : World) (h : p < 0 ∨ (s.size : Int) < p) (hm : s.size ≤ 9223372036854775807) :
    Calls Try.prog 84 #[.string s, .int .i64 p] w fun e w' => e = .returned (.tuple #[.int .i64 0, .int .i64 0, .int .i64 3]) ∧ w = w' := by
  go_enter Try.func84, Try.ntmps84
  go_wp2_with fail
  refine (readu_range _ _ _ h hm).mono ?_
  rintro e w' ⟨rfl, rfl⟩
  go_wp2
  go_ret3
  exact ⟨rfl, rfl⟩
theorem readi_short (s : ByteArray) (p : Int) (w : World) (h0 : 0 ≤ p) (h1 : p ≤ s.size) (h : (s.size : Int) - p < 8) (hm : s.size ≤ 9223372036854775807) :
    Calls Try.prog 84 #[.string s, .int .i64 p] w fun e w' => e = .returned (.tuple #[.int .i64 0, .int .i64 0, .int .i64 5]) ∧ w = w' := by
  go_enter Try.func84, Try.ntmps84
  go_wp2_with fail
  refine (readu_short _ _ _ h0 h1 h hm).mono ?_
  rintro e w' ⟨rfl, rfl⟩
  go_wp2
  go_ret3
  exact ⟨rfl, rfl⟩
end Go.Proofs.Ytegegljpmelomaa
