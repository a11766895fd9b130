/- More walks of package pack: texts and lists laid. No condition but sizes that any memory has. -/
import Derived.Test.YtpgbfglfmmohdaaPack
set_option linter.unusedVariables false
set_option maxRecDepth 20000
namespace Go.Proofs.Ytpgbfglfmmohdaa
open Go.RowKit Go.Deep

theorem ri_any (n : Int) (w : World) :
    Calls Try.prog 26 #[.int .i64 n] w fun e w' => e = .returned (.string (iS n)) ∧ Below w.heap.size w w' := by
  go_enter Try.func26, Try.ntmps26
  go_wp2_with fail
  rw [i_arg]
  refine (ru_any _ _ (wrap_u64_rng _).1 (wrap_u64_rng _).2).mono ?_
  rintro e w1 ⟨rfl, hb⟩
  go_wp2
  go_ret
  exact ⟨rfl, hb⟩

theorem two_cells (n : Nat) (h : n ≤ 65535) : (#[Value.int .u8 ((n : Int) / 256), Value.int .u8 ((n : Int) % 256)] : Array Value) = ((be 2 n).map byteV).toArray := by
  have e1 : Value.int .u8 ((n : Int) / 256) = byteV (UInt8.ofNat (n / 256 ^ 1 % 256)) := by
    unfold byteV
    congr 1
    rw [UInt8.toNat_ofNat', Nat.mod_mod, Nat.pow_one, Nat.mod_eq_of_lt (by omega)]
    rfl
  have e2 : Value.int .u8 ((n : Int) % 256) = byteV (UInt8.ofNat (n / 256 ^ 0 % 256)) := by
    rw [Nat.pow_zero, Nat.div_one]
    exact mod_byte n
  rw [e1, e2]
  rfl
theorem two_any (n : Nat) (w : World) (h : n ≤ 65535) :
    Calls Try.prog 82 #[.int .i64 (n : Int)] w fun e w' => e = .returned (.string (bs (be 2 n))) ∧ Below w.heap.size w w' := by
  have hs := own_string (OwnB.fresh w w.heap.size (Nat.le_refl _) (be 2 n) (by rw [be_length]; decide) (by rw [be_length]; decide))
  rw [← two_cells n h, be_length] at hs
  go_enter Try.func82, Try.ntmps82
  go_wp2
  go_ret
  exact ⟨rfl, (Below.refl _ _).alloc (Nat.le_refl _) _⟩
theorem be_size (k n : Nat) : (bs (be k n)).size ≤ k := by rw [bs_size, be_length]; exact Nat.le_refl _
theorem text_any (s : ByteArray) (w : World) (hl : s.size ≤ 4096) :
    Calls Try.prog 27 #[.string s] w fun e w' => e = .returned (.tuple #[.string (bs (be 2 s.size) ++ s), .int .i64 0]) ∧ Below w.heap.size w w' := by
  have hz := be_size 2 s.size
  go_enter Try.func27, Try.ntmps27
  go_wp2_with fail
  refine (puti_any _ [] _ 2 _ w.heap.size (OwnB.nil _ _) (Nat.le_refl _) (by omega) (by omega) (by decide) (by decide)).mono ?_
  rintro e w1 ⟨v, rfl, hown, hext⟩
  have hs := own_string hown
  go_wp2
  go_ret2
  exact ⟨rfl, hext.below (Nat.le_refl _) (by simp [Value.ownBlock])⟩
theorem text_big (s : ByteArray) (w : World) (hl : 4096 < s.size) (hm : s.size ≤ 9223372036854775807) :
    Calls Try.prog 27 #[.string s] w fun e w' => e = .returned (.tuple #[.string ⟨#[]⟩, .int .i64 4]) ∧ w = w' := by
  go_enter Try.func27, Try.ntmps27
  go_wp2
  go_ret2
  exact ⟨rfl, rfl⟩
theorem rtext_any (s : ByteArray) (w : World) (hl : s.size ≤ 4096) :
    Calls Try.prog 28 #[.string s] w fun e w' => e = .returned (.tuple #[.string (bs (be 2 s.size) ++ s), .int .i64 0]) ∧ Below w.heap.size w w' := by
  have hz := be_size 2 s.size
  go_enter Try.func28, Try.ntmps28
  go_wp2_with fail
  refine (two_any _ _ (by omega)).mono ?_
  rintro e w1 ⟨rfl, hb⟩
  go_wp2
  go_ret2
  exact ⟨rfl, hb⟩
theorem rtext_big (s : ByteArray) (w : World) (hl : 4096 < s.size) (hm : s.size ≤ 9223372036854775807) :
    Calls Try.prog 28 #[.string s] w fun e w' => e = .returned (.tuple #[.string ⟨#[]⟩, .int .i64 4]) ∧ w = w' := by
  go_enter Try.func28, Try.ntmps28
  go_wp2
  go_ret2
  exact ⟨rfl, rfl⟩
end Go.Proofs.Ytpgbfglfmmohdaa
