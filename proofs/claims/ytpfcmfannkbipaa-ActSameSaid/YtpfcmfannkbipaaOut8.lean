/- What a run hands back, in memory. No condition. -/
import Derived.Test.YtpfcmfannkbipaaVm8
set_option linter.unusedVariables false
set_option maxRecDepth 20000
namespace Go.Proofs.Ytpfcmfannkbipaa
open Go.RowKit Go.Deep

def SntAt : Dec Snt := fun w p x => w.cell? p = some (.int .i64 x.1) ∧ w.cell? ⟨p.block, p.off + 1, none⟩ = some (.int .i64 x.2.1) ∧ w.cell? ⟨p.block, p.off + 2, none⟩ = some (.int .i64 x.2.2)
theorem SntAt.keeps : SntAt.keeps := fun _ _ _ _ hb h => ⟨keepc hb h.1, keepc hb h.2.1, keepc hb h.2.2⟩
theorem makes_snt : Makes SntAt encSnt (fun _ _ => True) := fun w g o x _ h => ⟨h 0 _ rfl, h 1 _ rfl, h 2 _ rfl⟩
theorem outV_i64 {w : World} {p : Sl Ins4} {i : Inp} (hp : p.At InsAt 4 w) (hi : i.At w) : ∀ z ∈ (outV p.L i.wd.L i.pay i.me i.lps i.seed i.dice).1, I64 z := by
  intro z hz
  unfold outV at hz
  split at hz
  · rename_i hm
    obtain ⟨h1, h2, h3, h4⟩ := vmay_ok hm
    split at hz
    · exact (vrun_ok (W := wordI i.seed i.me) (lps := i.lps) (nw := i.wd.L.length) (ins_ok hp h3) 120 (vbeg i.wd.L i.pay i.me i.lps i.dice) (vbeg_ok (sl_ints hi.wd) h4 hi.pay hi.me hi.lps hi.dice)).1.wi z hz
    · simp at hz
  · simp at hz
/-- An output in memory, as slices. -/
theorem out_at {w : World} {N : Nat} {v : Value} {o : OutV} (h : OutAt w N v o) (hz : ∀ z ∈ o.1, I64 z) :
    ∃ (s : Sl Int) (u : Sl Snt), v = .agg #[s.val, u.val, .int .i64 o.2.2.1, .int .i64 o.2.2.2] ∧ s.L = o.1 ∧ u.L = o.2.1 ∧ s.At IntAt 1 w ∧ u.At SntAt 3 w := by
  obtain ⟨A, c, A', c', rfl, h1, h2⟩ := h
  obtain ⟨s, hv, hL, hs⟩ := OwnR.at_ (d := IntAt) (enc := encInt) (ok := fun _ x => I64 x) (size := 1) (by decide) (fun _ => rfl) makes_int h1 hz
  obtain ⟨u, hv2, hL2, hu⟩ := OwnR.at_ (d := SntAt) (enc := encSnt) (ok := fun _ _ => True) (size := 3) (by decide) (fun _ => rfl) makes_snt h2 (fun _ _ => trivial)
  exact ⟨s, u, by rw [hv, hv2], hL, hL2, hs, hu⟩
/-- What holds of every output, plainly. -/
structure OutOk (nw : Nat) (lps : Int) (o : OutV) : Prop where
  wi : ∀ z ∈ o.1, I64 z
  s4 : o.2.1.length ≤ 4
  si : ∀ z ∈ o.2.1, 0 ≤ z.1 ∧ z.1 < lps ∧ I64 z.2.1 ∧ I64 z.2.2
  di : I64 o.2.2.1
  f0 : 0 ≤ o.2.2.2
  f6 : o.2.2.2 ≤ 6
theorem out_ok {w : World} {p : Sl Ins4} {i : Inp} (hp : p.At InsAt 4 w) (hi : i.At w) : OutOk i.wd.L.length i.lps (outV p.L i.wd.L i.pay i.me i.lps i.seed i.dice) := by
  unfold outV
  split
  · rename_i hm
    obtain ⟨h1, h2, h3, h4⟩ := vmay_ok hm
    have hv := vrun_ok (W := wordI i.seed i.me) (lps := i.lps) (nw := i.wd.L.length) (ins_ok hp h3) 120 (vbeg i.wd.L i.pay i.me i.lps i.dice) (vbeg_ok (sl_ints hi.wd) h4 hi.pay hi.me hi.lps hi.dice)
    split
    · exact ⟨hv.1.wi, hv.1.s4, hv.1.si, hv.1.di, Int.le_refl _, (by simp only; omega)⟩
    · exact ⟨fun z hz => (by simp at hz), by simp, fun z hz => (by simp at hz), ⟨by simp only; omega, by simp only; omega⟩, hv.2.1, hv.2.2.1⟩
  · exact ⟨fun z hz => (by simp at hz), by simp, fun z hz => (by simp at hz), ⟨by decide, by decide⟩, Int.le_refl _, (by simp only; omega)⟩
end Go.Proofs.Ytpfcmfannkbipaa
