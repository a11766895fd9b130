/- The given statement ModelioBack is proved: what was put is got as it was. No condition. -/
import Derived.Test.YtegegljpmelomaaLaw06b
set_option linter.unusedVariables false
namespace Go.Proofs.Ytegegljpmelomaa
namespace modelioBack
open Go.ChangeShapes Go.WideShapes Go.ChangeAt Go.RowKit Go.Joins Go.Deep
set_option maxRecDepth 100000 in
theorem lifted (os : Os) (started : os.Started) (H : Type) (enc : TypeId × Value → H) :
    ReturnsInHanded {} Try.checked os 10 .any (Rows.modelioBackSpec.pre6 enc Try.prog Try.f10 Rows.modelioBackRow.domain false) (Rows.modelioBackSpec.post enc Try.prog Try.f10 false true false false) := by
  refine returnsInHanded_of_change (C := Try.checked) own started (by kernel_rfl) Try.func10
    (ChangeSpec.witness6 (enc := enc) (C := Try.checked) false ⟨#[], #[.agg #[.int .i64 0, .float .f64 0, .slice none 0 0, .slice none 0 0, .slice none 0 0, .slice none 0 0]], []⟩ 8 (by kernel_rfl) (by kernel_rfl) (by kernel_rfl) (by kernel_rfl)) ?_
  intro W base args ds gs before hval0 hW hcnd _
  have hval : ∀ (j : Nat) t v, Try.f10.params[j]? = some t → args[j]? = some v → Value.okWide Try.prog W .any base t v := hval0
  have hW' := hW
  obtain ⟨p, q, hA0, hV, rfl, hfz, hnd⟩ := hW
  have hA : DataW.TrodAll enc Try.prog W 0 (fun _ => true) true Try.f10.params.toList args.toList ds p := hA0
  rw [Try.params10] at hA hval
  obtain ⟨v0, vs0, d0, ds0, p0, q0, hargs, rfl, rfl, h0, r0⟩ := trodAll_cons hA
  obtain ⟨rfl, rfl, rfl⟩ := trodAll_nil r0
  obtain rfl : args = #[v0] := by cases args; simp_all
  obtain ⟨m0, rfl, hm0⟩ := open_model (hval 0 28 v0 rfl rfl) h0
  clear hA0 hval0
  refine (back6_walk m0 W hm0).mono fun e W' ⟨he, hb⟩ => ?_
  subst he
  exact ⟨_, rfl, law_post laidOut (by kernel_rfl) rfl Try.underlying4 rfl hW' ⟨rfl, rfl, rfl⟩ hb⟩

theorem facts : joinedFacts Try.pinned.checked.prog 10 Try.f10 Rows.modelioBackSpec Rows.modelioBackRow = true := by kernel_rfl
theorem inst : Try.f10.isInstance Try.pinned.checked.prog Rows.modelioBackRow.origin Rows.modelioBackRow.targs := of_decide_eq_true (by kernel_rfl)
theorem wrap : Try.f10.isWrapper Try.pinned.checked.prog Rows.modelioBackRow.wrapper Rows.modelioBackRow.mainSum := by unfold Func.isWrapper; first | (rw [if_pos (by decide +kernel)]; kernel_rfl) | (rw [if_neg (by decide +kernel)]; exact ⟨rfl, rfl⟩)
theorem named : Try.pinned.checked.prog.funcNamed Rows.modelioBackRow.func = some 10 := by kernel_rfl
theorem over : Rows.modelioBackRow.holds Try.pinned (OpenSpec.ofChange Rows.modelioBackSpec) :=
  OpenClaim.holds_of_wide 10 Try.f10 rfl rfl rfl rfl rfl rfl rfl ⟨rfl, rfl, rfl, rfl, rfl⟩ rfl rfl rfl rfl rfl named Try.func10 facts inst wrap
    (fun os started H enc _ => lifted os started H enc)

/-- The given statement. -/
theorem proved : Rows.ModelioBackSaid :=
  over
end modelioBack
end Go.Proofs.Ytegegljpmelomaa
