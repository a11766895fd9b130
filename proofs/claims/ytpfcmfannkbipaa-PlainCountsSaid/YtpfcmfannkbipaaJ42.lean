/- Texts of this claim in one. No condition. -/
import Derived.Test.YtpfcmfannkbipaaJ21
import Derived.Test.YtpfcmfannkbipaaJ23
section
set_option linter.unusedVariables false
set_option linter.unusedSimpArgs false
set_option maxRecDepth 20000
namespace Go.Proofs.Ytpfcmfannkbipaa
open Go.RowKit Go.Deep Go.ChangeShapes Go.WideShapes Go.Joins
section
variable {H : Type} {enc : TypeId × Value → H} {w : World} {base : Nat} {spare : Nat → Bool} {held : Bool}
theorem trod_done {fuel : Nat} {c0 c1 c2 c3 c4 c5 : Value} {x : DataW H × List MemPlace} (h : DataW.trod enc Try.prog w base spare held fuel 39 [c0, c1, c2, c3, c4, c5] = some x) :
    ∃ e : Dn, c0 = .float .f64 e.1 ∧ c1 = .int .i64 e.2.1 ∧ c2 = .int .i64 e.2.2.1 ∧ c3 = .int .i64 e.2.2.2.1 ∧ c4 = .int .i64 e.2.2.2.2.1 ∧ c5 = .int .i64 e.2.2.2.2.2 := by
  obtain ⟨xs, f, _, _, _, hlen, hg⟩ := DataW.trod_struct Try.underlying39 h
  match xs, hlen with
  | [y0, y1], _ =>
    have e0 := hg 0 _ rfl
    have e1 := hg 1 _ rfl
    simp only [cells_event, cells_int, List.drop_zero, List.drop_succ_cons, List.take_succ_cons, List.take_zero, List.getElem?_cons_zero, List.getElem?_cons_succ] at e0 e1
    obtain ⟨e, rfl, rfl, rfl, rfl, rfl, _⟩ := trod_event e0
    obtain ⟨d, h1, _, wd⟩ := DataW.trod_int Try.underlying3 e1
    injection h1 with h1
    subst h1
    exact ⟨dnOf e d, rfl, rfl, rfl, rfl, rfl, rfl⟩
theorem reads_dn : ReadsAs enc Try.prog w base spare held 39 6 DnB := by
  intro A n cs y hc ht
  obtain ⟨_, hcl, hat⟩ := World.cells?_some hc
  match cs, hcl with
  | [c0, c1, c2, c3, c4, c5], _ =>
    obtain ⟨x, rfl, rfl, rfl, rfl, rfl, rfl⟩ := trod_done ht
    have hs : A.spot = none := World.cell?_spot (a := A.add 0) (hat 0 (by decide))
    obtain ⟨b, o, sp⟩ := A
    simp only at hs
    subst hs
    have hadd : ∀ j, (⟨b, o, none⟩ : Addr).add j = ⟨b, o + j, none⟩ := fun j => by unfold Addr.add; split <;> simp_all
    have h0 := hat 0 (by decide)
    have h1 := hat 1 (by decide)
    have h2 := hat 2 (by decide)
    have h3 := hat 3 (by decide)
    have h4 := hat 4 (by decide)
    have h5 := hat 5 (by decide)
    rw [hadd] at h0 h1 h2 h3 h4 h5
    exact ⟨x, h0, h1, h2, h3, h4, h5⟩
theorem open_dones {r : Reach} {b0 : Nat} {v : Value} {d : DataW H} {p : List MemPlace} (hv : Value.okWide Try.prog w r b0 22 v) (h : DataW.Trod enc Try.prog w base spare held 22 v d p) :
    ∃ s : Sl Dn, v = s.val ∧ s.At DnB 6 w := by
  obtain ⟨a, l, c, rfl⟩ := okWide_slice Try.underlying22 hv
  obtain ⟨f, hf⟩ := h
  exact open_rowD Try.underlying22 (by kernel_rfl) reads_dn hf
theorem open_doness {r : Reach} {b0 : Nat} {v : Value} {d : DataW H} {p : List MemPlace} (hv : Value.okWide Try.prog w r b0 42 v) (h : DataW.Trod enc Try.prog w base spare held 42 v d p) :
    ∃ s : Sl (Sl Dn), v = s.val ∧ s.At (SlAt DnB 6) 1 w := by
  obtain ⟨a, l, c, rfl⟩ := okWide_slice Try.underlying42 hv
  obtain ⟨f, hf⟩ := h
  exact open_rowD Try.underlying42 (by kernel_rfl) (reads_sl Try.underlying22 (by kernel_rfl) reads_dn) hf
end
end Go.Proofs.Ytpfcmfannkbipaa
end
