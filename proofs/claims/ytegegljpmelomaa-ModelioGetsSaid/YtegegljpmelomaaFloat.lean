/- Floats as their bits: the walks of math's small functions. No condition. -/
import Derived.Test.YtegegljpmelomaaBase
import Derived.Test.YtegegljpmelomaaFloatPl
import Derived.Laws.Externs
import Derived.Laws.FloatArith
set_option linter.unusedVariables false
set_option maxRecDepth 20000
namespace Go.Proofs.Ytegegljpmelomaa
open Go.RowKit Go.Deep

theorem f64bits_run (b : Nat) (w : World) : (callFunc 79 #[.float .f64 b]).run Try.prog w = .ok (.value (.int .u64 b)) w := by
  rw [run_callFunc_extern (e := Extern.MathFloatBits.float64bits) Try.func79 (by kernel_rfl) (by kernel_rfl) (by kernel_rfl) (by kernel_rfl)]
  rfl
theorem f64from_run (n : Int) (w : World) : (callFunc 86 #[.int .u64 n]).run Try.prog w = .ok (.value (.float .f64 n.toNat)) w := by
  rw [run_callFunc_extern (e := Extern.MathFloatBits.float64frombits) Try.func86 (by kernel_rfl) (by kernel_rfl) (by kernel_rfl) (by kernel_rfl)]
  rfl
theorem fo_nan (t u : Nat) (h : isNan t ∨ isNan u) : FloatKind.f64.format.order t u = none := order_nan t u h
theorem fo_num (t u : Nat) (h : ¬ isNan t) (h' : ¬ isNan u) : FloatKind.f64.format.order t u = some (compare (skey t) (skey u)) := order_eq t u h h'
theorem fo_self (t : Nat) (h : ¬ isNan t) : FloatKind.f64.format.order t t = some .eq := by
  rw [fo_num t t h h, Int.compare_eq_eq.2 rfl]
theorem fo_lt (t u : Nat) (h : ¬ isNan t) (h' : ¬ isNan u) (hk : skey t < skey u) : FloatKind.f64.format.order t u = some .lt := by
  rw [fo_num t u h h', Int.compare_eq_lt.2 hk]
theorem fo_eq (t u : Nat) (h : ¬ isNan t) (h' : ¬ isNan u) (hk : skey t = skey u) : FloatKind.f64.format.order t u = some .eq := by
  rw [fo_num t u h h', Int.compare_eq_eq.2 hk]
theorem fo_gt (t u : Nat) (h : ¬ isNan t) (h' : ¬ isNan u) (hk : skey u < skey t) : FloatKind.f64.format.order t u = some .gt := by
  rw [fo_num t u h h', Int.compare_eq_gt.2 hk]
theorem zero_num : ¬ isNan 0 := by decide
theorem skey_zero : skey 0 = 0 := by decide
theorem fo_ways (a b : Nat) (ha : ¬ isNan a) (hb : ¬ isNan b) :
    (skey a < skey b ∧ FloatKind.f64.format.order a b = some .lt) ∨ (skey a = skey b ∧ FloatKind.f64.format.order a b = some .eq) ∨ (skey b < skey a ∧ FloatKind.f64.format.order a b = some .gt) := by
  rcases Int.lt_trichotomy (skey a) (skey b) with h | h | h
  · exact .inl ⟨h, fo_lt a b ha hb h⟩
  · exact .inr (.inl ⟨h, fo_eq a b ha hb h⟩)
  · exact .inr (.inr ⟨h, fo_gt a b ha hb h⟩)
theorem run_fadd_some {P : Program} (t : TypeId) (x y r : Nat) (h : FloatKind.f64.format.add x y = some r) (w : World) : (binOp .add t (.float .f64 x) (.float .f64 y)).run P w = .ok (.float .f64 r) w := by
  simp [binOp, Op.floatArith, h]
theorem run_fadd_none {P : Program} (t : TypeId) (x y : Nat) (h : FloatKind.f64.format.add x y = none) (w : World) :
    ∃ r, isNan r ∧ (binOp .add t (.float .f64 x) (.float .f64 y)).run P w = .ok (.float .f64 r) w.drew := by
  refine ⟨(Question.nanBits .f64 x y).cut (w.tape w.drawn (.nanBits .f64 x y)), ?_, ?_⟩
  · generalize w.tape w.drawn (.nanBits .f64 x y) = q
    show isNan ((q % 2) * 2 ^ 63 + 0x7ff0000000000000 + 1 + (q / 2) % (2 ^ 52 - 1))
    unfold isNan rung
    have hv : (q / 2) % (2 ^ 52 - 1) < 4503599627370495 := Nat.mod_lt _ (by decide)
    generalize (q / 2) % (2 ^ 52 - 1) = v at *
    rcases Nat.mod_two_eq_zero_or_one q with h | h <;> rw [h]
    · omega
    · omega
  · simp [binOp, Op.floatArith, h, Question.forced]
theorem isnan_any (t : Nat) (w : World) : Calls Try.prog 29 #[.float .f64 t] w fun e w' => e = .returned (.bool (decide (isNan t))) ∧ w = w' := by
  by_cases h : isNan t
  · have ho := fo_nan t t (.inl h)
    go_enter Try.func29, Try.ntmps29
    go_wp2
    go_ret
    exact ⟨ret_bool (by simp [h]), rfl⟩
  · have ho := fo_self t h
    go_enter Try.func29, Try.ntmps29
    go_wp2
    go_ret
    exact ⟨ret_bool (by simp [h]), rfl⟩
end Go.Proofs.Ytegegljpmelomaa
