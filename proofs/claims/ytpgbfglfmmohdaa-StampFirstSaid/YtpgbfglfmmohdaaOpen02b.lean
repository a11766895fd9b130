/- How a row of stamps that comes in is opened. No condition. -/
import Derived.Test.YtpgbfglfmmohdaaOpen02
import Derived.Test.YtpgbfglfmmohdaaFirst2
import Derived.Deep.Slices
import Derived.Deep.Fields
import Derived.ChangeSame
import Derived.DataReads
set_option linter.unusedVariables false
set_option maxRecDepth 20000
namespace Go.Proofs.Ytpgbfglfmmohdaa
open Go.RowKit Go.Deep Go.ChangeShapes Go.WideShapes Go.Joins

section
variable {H : Type} {enc : TypeId × Value → H} {w : World} {base : Nat} {spare : Nat → Bool} {held : Bool}
theorem stamp_gen {f0 f1 f2 : Field} (hS : Try.prog.underlying 42 = some (.struct #[f0, f1, f2])) (hone : oneCellFields Try.prog #[f0, f1, f2] = true) (t0 : f0.type = 36) (t1 : f1.type = 3) (t2 : f2.type = 3) {A : Addr} {n : Nat} {cs : List Value} {y : DataW H × List MemPlace} (hc : w.cells? base A 3 = some cs) (ht : DataW.trod enc Try.prog w base spare held n 42 cs = some y) :
    ∃ x : Nat × Int × Int, w.cell? A = some (.float .f64 x.1) ∧ w.cell? ⟨A.block, A.off + 1, none⟩ = some (.int .i64 x.2.1) ∧ w.cell? ⟨A.block, A.off + 2, none⟩ = some (.int .i64 x.2.2) := by
  obtain ⟨_, hcl, hat⟩ := World.cells?_some hc
  match cs, hcl with
  | [c0, c1, c2], _ =>
    obtain ⟨ys, n', hn', hy, hlen, hyl, hf⟩ := DataW.trod_struct hS ht
    clear hy hlen
    match ys, hyl with
    | [y0, y1, y2], _ =>
      obtain ⟨o0, k0⟩ := hone_of hone 0 f0 rfl
      obtain ⟨o1, k1⟩ := hone_of hone 1 f1 rfl
      obtain ⟨o2, k2⟩ := hone_of hone 2 f2 rfl
      have h0 := hf 0 f0 rfl
      have h1 := hf 1 f1 rfl
      have h2 := hf 2 f2 rfl
      rw [o0, k0, t0] at h0
      rw [o1, k1, t1] at h1
      rw [o2, k2, t2] at h2
      obtain ⟨t, e0, _, _⟩ := trod_f64 Try.underlying36 (show DataW.trod enc Try.prog w base spare held _ 36 [c0] = some y0 from h0)
      obtain ⟨s, e1, _, _⟩ := DataW.trod_int Try.underlying3 (show DataW.trod enc Try.prog w base spare held _ 3 [c1] = some y1 from h1)
      obtain ⟨m, e2, _, _⟩ := DataW.trod_int Try.underlying3 (show DataW.trod enc Try.prog w base spare held _ 3 [c2] = some y2 from h2)
      injection e0 with e0
      injection e1 with e1
      injection e2 with e2
      subst e0 e1 e2
      have a0 := hat 0 (by decide)
      have a1 := hat 1 (by decide)
      have a2 := hat 2 (by decide)
      have hs : A.spot = none := World.cell?_spot (a := A.add 0) (v := .float .f64 t) a0
      obtain ⟨b, o, sp⟩ := A
      cases hs
      exact ⟨(t, s, m), a0, a1, a2⟩
theorem stamp_at {A : Addr} {n : Nat} {cs : List Value} {y : DataW H × List MemPlace} (hc : w.cells? base A 3 = some cs) (ht : DataW.trod enc Try.prog w base spare held n 42 cs = some y) :
    ∃ x : Nat × Int × Int, w.cell? A = some (.float .f64 x.1) ∧ w.cell? ⟨A.block, A.off + 1, none⟩ = some (.int .i64 x.2.1) ∧ w.cell? ⟨A.block, A.off + 2, none⟩ = some (.int .i64 x.2.2) :=
  stamp_gen Try.underlying42 (by kernel_rfl) rfl rfl rfl hc ht
theorem open_stamps {t : TypeId} {fuel : Nat} {v : Value} {x : DataW H × List MemPlace} (ht : Try.prog.underlying t = some (.slice 42)) (h : DataW.trod enc Try.prog w base spare held fuel t [v] = some x) :
    v = .slice none 0 0 ∨ ∃ (a : Addr) (n c : Nat) (L : List (Nat × Int × Int)), v = .slice (some a) n c ∧ n ≤ c ∧ c ≤ maxLen ∧ L.length = n ∧ StRow w a L := by
  rcases open_slice ht h with h0 | ⟨a, len, cap, m, n, D, Pl, hcs, hb, hl, hm, hmm, hx, hi⟩
  · exact .inl (by have := h0.1; simpa using this)
  · refine .inr ⟨a, len, cap, ?_⟩
    have hv : v = .slice (some a) len cap := by simpa using hcs
    have hlm : len ≤ m := by
      rw [hmm]
      split
      · exact hl
      · exact Nat.le_refl _
    have hall : ∀ i : Nat, ∃ y : Nat × Int × Int, i < len → w.cell? (a.add (i * 3)) = some (.float .f64 y.1) ∧ w.cell? ⟨(a.add (i * 3)).block, (a.add (i * 3)).off + 1, none⟩ = some (.int .i64 y.2.1) ∧ w.cell? ⟨(a.add (i * 3)).block, (a.add (i * 3)).off + 2, none⟩ = some (.int .i64 y.2.2) := by
      intro i
      by_cases h : i < len
      · obtain ⟨cs', hc, ht'⟩ := hi i (by omega)
        rw [cells_stamp] at hc
        obtain ⟨y, hy⟩ := stamp_at hc ht'
        exact ⟨y, fun _ => hy⟩
      · exact ⟨(0, 0, 0), fun h' => absurd h' h⟩
    refine ⟨(List.range len).map fun i => Classical.choose (hall i), hv, hl, hm, by simp, ?_⟩
    intro i y hy
    rw [List.getElem?_map] at hy
    by_cases h : i < len
    · rw [List.getElem?_range h] at hy
      have e : Classical.choose (hall i) = y := by simpa using hy
      have := Classical.choose_spec (hall i) h
      rwa [e] at this
    · rw [List.getElem?_eq_none (by simpa using h)] at hy
      simp at hy
theorem open_stamps_arg {r : Reach} {b0 : Nat} {t : TypeId} {v : Value} {d : DataW H} {ps : List MemPlace} (ht : Try.prog.underlying t = some (.slice 42)) (hv : Value.okWide Try.prog w r b0 t v) (h : DataW.Trod enc Try.prog w base spare held t v d ps) :
    v = .slice none 0 0 ∨ ∃ (a : Addr) (n c : Nat) (L : List (Nat × Int × Int)), v = .slice (some a) n c ∧ n ≤ c ∧ c ≤ maxLen ∧ L.length = n ∧ StRow w a L := by
  obtain ⟨a, l, c, rfl⟩ := okWide_slice ht hv
  obtain ⟨f, hf⟩ := h
  exact open_stamps ht hf
end
theorem StRow.take_ {w : World} {a : Addr} {L : List (Nat × Int × Int)} (h : StRow w a L) (m : Nat) : StRow w a (L.take m) := by
  intro i x hx
  rw [List.getElem?_take] at hx
  split at hx
  · exact h i x hx
  · simp at hx
theorem firstl_walk (w : World) (v : Value) (h : v = .slice none 0 0 ∨ ∃ (a : Addr) (n c : Nat) (L : List (Nat × Int × Int)), v = .slice (some a) n c ∧ n ≤ c ∧ c ≤ maxLen ∧ L.length = n ∧ StRow w a L) :
    Calls Try.prog 11 #[v] w fun e w' => e = .returned (.bool true) ∧ Below w.heap.size w w' := by
  rcases h with rfl | ⟨a, n, c, L, rfl, hnc, hc, rfl, hr⟩
  · exact firstl_none w
  · by_cases hl : L.length ≤ 60
    · exact firstl_short w a L c hl hr
    · have hc' := len_le (Nat.le_refl c) hc
      exact firstl_long w a (L.take 60) c L.length (by omega) (by omega) hnc (by omega) (by rw [List.length_take]; omega) (hr.take_ 60)
end Go.Proofs.Ytpgbfglfmmohdaa
