/- How the arguments of the laws of stamp are opened. No condition. -/
import Derived.Test.YtpgbfglfmmohdaaLaw02
set_option linter.unusedVariables false
set_option maxRecDepth 20000
namespace Go.Proofs.Ytpgbfglfmmohdaa
open Go.RowKit Go.Deep Go.ChangeShapes Go.WideShapes Go.Joins

section
variable {H : Type} {enc : TypeId × Value → H} {P : Program} {w : World} {base : Nat} {spare : Nat → Bool} {held : Bool}
theorem trod_f64 {t : TypeId} {k : FloatKind} {fuel : Nat} {cs : List Value} {x : DataW H × List MemPlace} (ht : P.underlying t = some (.float k)) (h : DataW.trod enc P w base spare held fuel t cs = some x) :
    ∃ b, cs = [.float k b] ∧ x = (.lit (.float k b), []) ∧ (Lit.float k b).wf = true := by
  cases fuel with
  | zero => simp [DataW.trod] at h
  | succ n =>
    unfold DataW.trod at h
    rw [ht] at h
    split at h <;> simp_all
theorem bounds_f64 {b : Nat} (h : (Lit.float .f64 b).wf = true) : b < 18446744073709551616 := by simpa [Lit.wf] using h
theorem cells_stamp : Try.prog.cellsOf 42 = 3 := by kernel_rfl
theorem open_stamp {r : Reach} {b0 : Nat} {v : Value} {d : DataW H} {p : List MemPlace} (hv : Value.okWide Try.prog w r b0 42 v) (h : DataW.Trod enc Try.prog w base spare held 42 v d p) :
    ∃ (t : Nat) (s n : Int), v = .agg #[.float .f64 t, .int .i64 s, .int .i64 n] ∧ t < 18446744073709551616 ∧ (-9223372036854775808 ≤ s ∧ s ≤ 9223372036854775807) ∧ (-9223372036854775808 ≤ n ∧ n ≤ 9223372036854775807) := by
  obtain ⟨v0, v1, v2, y0, y1, y2, f, rfl, _, _, e0, e1, e2⟩ := open_agg3 Try.underlying42 (by kernel_rfl) cells_stamp hv h
  obtain ⟨t, h0, _, wt⟩ := trod_f64 Try.underlying36 e0
  obtain ⟨s, h1, _, ws⟩ := DataW.trod_int Try.underlying3 e1
  obtain ⟨n, h2, _, wn⟩ := DataW.trod_int Try.underlying3 e2
  injection h0 with h0
  injection h1 with h1
  injection h2 with h2
  subst h0 h1 h2
  exact ⟨t, s, n, rfl, bounds_f64 wt, bounds_i64 ws, bounds_i64 wn⟩
end
end Go.Proofs.Ytpgbfglfmmohdaa
