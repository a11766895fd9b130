/- More walks of package pack: texts and lists laid. No condition but sizes that any memory has. -/
import Derived.Test.YtegegljpmelomaaPack
set_option linter.unusedVariables false
set_option maxRecDepth 20000
namespace Go.Proofs.Ytegegljpmelomaa
open Go.RowKit Go.Deep

theorem ri_any (n : Int) (w : World) :
    Calls Try.prog 45 #[.int .i64 n] w fun e w' => e = .returned (.string (iS n)) ∧ Below w.heap.size w w' := by
  go_enter Try.func45, Try.ntmps45
  go_wp2_with fail
  rw [i_arg]
  refine (ru_any _ _ (wrap_u64_rng _).1 (wrap_u64_rng _).2).mono ?_
  rintro e w1 ⟨rfl, hb⟩
  go_wp2
  go_ret
  exact ⟨rfl, hb⟩

theorem two_cells (n : Nat) (h : n ≤ 65535) : (#[Value.int .u8 ((n : Int) / 256), Value.int .u8 ((n : Int) % 256)] : Array Value) = ((be 2 n).map byteV).toArray := by
  have e1 : Value.int .u8 ((n : Int) / 256) = byteV (UInt8.ofNat (n / 256 ^ 1 % 256)) := by
    unfold byteV
    congr 1
    rw [UInt8.toNat_ofNat', Nat.mod_mod, Nat.pow_one, Nat.mod_eq_of_lt (by omega)]
    rfl
  have e2 : Value.int .u8 ((n : Int) % 256) = byteV (UInt8.ofNat (n / 256 ^ 0 % 256)) := by
    rw [Nat.pow_zero, Nat.div_one]
    exact mod_byte n
  rw [e1, e2]
  rfl
theorem be_size (k n : Nat) : (bs (be k n)).size ≤ k := by rw [bs_size, be_length]; exact Nat.le_refl _
end Go.Proofs.Ytegegljpmelomaa
