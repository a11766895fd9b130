/- How an argument that is an instruction is opened. No condition. -/
import Derived.Test.YtegegljpmelomaaLaw05
set_option linter.unusedVariables false
set_option maxRecDepth 20000
namespace Go.Proofs.Ytegegljpmelomaa
open Go.RowKit Go.Deep Go.ChangeShapes Go.WideShapes Go.Joins
section
variable {H : Type} {enc : TypeId × Value → H} {w : World} {base : Nat} {spare : Nat → Bool} {held : Bool}
theorem open_ins {r : Reach} {b0 : Nat} {v : Value} {d : DataW H} {p : List MemPlace} (hv : Value.okWide Try.prog w r b0 34 v) (h : DataW.Trod enc Try.prog w base spare held 34 v d p) :
    ∃ (op a b c : Int), v = .agg #[.int .i64 op, .int .i64 a, .int .i64 b, .int .i64 c] := by
  obtain ⟨v0, v1, v2, v3, y0, y1, y2, y3, f, rfl, _, _, e0, e1, e2, e3⟩ := open_agg4 Try.underlying34 (by kernel_rfl) (by kernel_rfl) hv h
  obtain ⟨z0, h0, _, _⟩ := DataW.trod_int Try.underlying3 e0
  obtain ⟨z1, h1, _, _⟩ := DataW.trod_int Try.underlying3 e1
  obtain ⟨z2, h2, _, _⟩ := DataW.trod_int Try.underlying3 e2
  obtain ⟨z3, h3, _, _⟩ := DataW.trod_int Try.underlying3 e3
  injection h0 with h0
  injection h1 with h1
  injection h2 with h2
  injection h3 with h3
  subst h0 h1 h2 h3
  exact ⟨z0, z1, z2, z3, rfl⟩
end
end Go.Proofs.Ytegegljpmelomaa
