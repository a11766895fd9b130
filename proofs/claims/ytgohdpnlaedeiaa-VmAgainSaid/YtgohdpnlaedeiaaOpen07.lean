/- How a program and a handler's input that come in are opened. No condition. -/
import Derived.Test.YtgohdpnlaedeiaaVm7
set_option linter.unusedVariables false
set_option maxRecDepth 20000
namespace Go.Proofs.Ytgohdpnlaedeiaa
open Go.RowKit Go.Deep Go.ChangeShapes Go.WideShapes Go.Joins
section
variable {H : Type} {enc : TypeId × Value → H} {w : World} {base : Nat} {spare : Nat → Bool} {held : Bool}
theorem open_prog {r : Reach} {b0 : Nat} {v : Value} {d : DataW H} {p : List MemPlace} (hv : Value.okWide Try.prog w r b0 22 v) (h : DataW.Trod enc Try.prog w base spare held 22 v d p) :
    ∃ s : Sl Ins4, v = s.val ∧ s.At InsAt 4 w := by
  obtain ⟨a, l, c, rfl⟩ := okWide_slice Try.underlying22 hv
  obtain ⟨f, hf⟩ := h
  exact open_rowD Try.underlying22 (by kernel_rfl) (reads_ins (ti := 3) Try.underlying39 (by kernel_rfl) Try.underlying3 rfl rfl rfl rfl) hf
theorem open_inp {r : Reach} {b0 : Nat} {v : Value} {d : DataW H} {p : List MemPlace} (hv : Value.okWide Try.prog w r b0 25 v) (h : DataW.Trod enc Try.prog w base spare held 25 v d p) :
    ∃ i : Inp, v = i.val ∧ i.At w := by
  obtain ⟨v0, v1, v2, v3, v4, v5, y0, y1, y2, y3, y4, y5, f, rfl, _, _, e0, e1, e2, e3, e4, e5⟩ := open_agg6 Try.underlying25 (by kernel_rfl) (by kernel_rfl) hv h
  obtain ⟨s, rfl, hs⟩ := open_rowD (d := IntAt) (e := 3) Try.underlying23 (by kernel_rfl) (reads_int Try.underlying3) e0
  obtain ⟨z1, h1, _, k1⟩ := DataW.trod_int Try.underlying3 e1
  obtain ⟨z2, h2, _, k2⟩ := DataW.trod_int Try.underlying3 e2
  obtain ⟨z3, h3, _, k3⟩ := DataW.trod_int Try.underlying3 e3
  obtain ⟨z4, h4, _, k4⟩ := DataW.trod_int Try.underlying3 e4
  obtain ⟨z5, h5, _, k5⟩ := DataW.trod_int Try.underlying3 e5
  injection h1 with h1
  injection h2 with h2
  injection h3 with h3
  injection h4 with h4
  injection h5 with h5
  subst h1 h2 h3 h4 h5
  exact ⟨⟨s, z1, z2, z3, z4, z5⟩, rfl, hs, bounds_i64 k1, bounds_i64 k2, bounds_i64 k3, bounds_i64 k4, bounds_i64 k5⟩
end
end Go.Proofs.Ytgohdpnlaedeiaa
