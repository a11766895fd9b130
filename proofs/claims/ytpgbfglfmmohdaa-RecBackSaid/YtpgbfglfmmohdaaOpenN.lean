/- How the argument of RecBack is opened. Merged of several texts. No condition. -/
import Derived.Test.YtpgbfglfmmohdaaLaw02
set_option linter.unusedVariables false
set_option maxRecDepth 20000
set_option linter.unusedSimpArgs false
namespace Go.Proofs.Ytpgbfglfmmohdaa
open Go.RowKit Go.Deep Go.ChangeShapes Go.WideShapes Go.Joins

section
variable {H : Type} {enc : TypeId × Value → H} {P : Program} {w : World} {base : Nat} {spare : Nat → Bool} {held : Bool}
theorem trod_f64 {t : TypeId} {k : FloatKind} {fuel : Nat} {cs : List Value} {x : DataW H × List MemPlace} (ht : P.underlying t = some (.float k)) (h : DataW.trod enc P w base spare held fuel t cs = some x) :
    ∃ b, cs = [.float k b] ∧ x = (.lit (.float k b), []) ∧ (Lit.float k b).wf = true := by
  cases fuel with
  | zero => simp [DataW.trod] at h
  | succ n =>
    unfold DataW.trod at h
    rw [ht] at h
    split at h <;> simp_all
theorem bounds_f64 {b : Nat} (h : (Lit.float .f64 b).wf = true) : b < 18446744073709551616 := by simpa [Lit.wf] using h
theorem cells_stamp : Try.prog.cellsOf 42 = 3 := by kernel_rfl
theorem open_stamp {r : Reach} {b0 : Nat} {v : Value} {d : DataW H} {p : List MemPlace} (hv : Value.okWide Try.prog w r b0 42 v) (h : DataW.Trod enc Try.prog w base spare held 42 v d p) :
    ∃ (t : Nat) (s n : Int), v = .agg #[.float .f64 t, .int .i64 s, .int .i64 n] ∧ t < 18446744073709551616 ∧ (-9223372036854775808 ≤ s ∧ s ≤ 9223372036854775807) ∧ (-9223372036854775808 ≤ n ∧ n ≤ 9223372036854775807) := by
  obtain ⟨v0, v1, v2, y0, y1, y2, f, rfl, _, _, e0, e1, e2⟩ := open_agg3 Try.underlying42 (by kernel_rfl) cells_stamp hv h
  obtain ⟨t, h0, _, wt⟩ := trod_f64 Try.underlying36 e0
  obtain ⟨s, h1, _, ws⟩ := DataW.trod_int Try.underlying3 e1
  obtain ⟨n, h2, _, wn⟩ := DataW.trod_int Try.underlying3 e2
  injection h0 with h0
  injection h1 with h1
  injection h2 with h2
  subst h0 h1 h2
  exact ⟨t, s, n, rfl, bounds_f64 wt, bounds_i64 ws, bounds_i64 wn⟩
end
end Go.Proofs.Ytpgbfglfmmohdaa
namespace Go.Proofs.Ytpgbfglfmmohdaa
open Go.RowKit Go.Deep Go.ChangeShapes Go.WideShapes Go.Joins

theorem cells_event : Try.prog.cellsOf 70 = 5 := by kernel_rfl
theorem cells_int : Try.prog.cellsOf 3 = 1 := by kernel_rfl
theorem cells_f64 : Try.prog.cellsOf 36 = 1 := by kernel_rfl
section
variable {H : Type} {enc : TypeId × Value → H} {w : World} {base : Nat} {spare : Nat → Bool} {held : Bool}
theorem trod_stamp {fuel : Nat} {c0 c1 c2 : Value} {x : DataW H × List MemPlace} (h : DataW.trod enc Try.prog w base spare held fuel 42 [c0, c1, c2] = some x) :
    ∃ (t : Nat) (s n : Int), c0 = .float .f64 t ∧ c1 = .int .i64 s ∧ c2 = .int .i64 n ∧ t < 18446744073709551616 ∧ (-9223372036854775808 ≤ s ∧ s ≤ 9223372036854775807) ∧ (-9223372036854775808 ≤ n ∧ n ≤ 9223372036854775807) := by
  obtain ⟨xs, f, _, _, _, hlen, hg⟩ := DataW.trod_struct Try.underlying42 h
  match xs, hlen with
  | [y0, y1, y2], _ =>
    have e0 := hg 0 _ rfl
    have e1 := hg 1 _ rfl
    have e2 := hg 2 _ rfl
    simp only [cells_f64, cells_int, List.drop_zero, List.drop_succ_cons, List.take_succ_cons, List.take_zero, List.getElem?_cons_zero, List.getElem?_cons_succ] at e0 e1 e2
    obtain ⟨t, h0, _, wt⟩ := trod_f64 Try.underlying36 e0
    obtain ⟨s, h1, _, ws⟩ := DataW.trod_int Try.underlying3 e1
    obtain ⟨n, h2, _, wn⟩ := DataW.trod_int Try.underlying3 e2
    injection h0 with h0
    injection h1 with h1
    injection h2 with h2
    subst h0 h1 h2
    exact ⟨t, s, n, rfl, rfl, rfl, bounds_f64 wt, bounds_i64 ws, bounds_i64 wn⟩
theorem trod_event {fuel : Nat} {c0 c1 c2 c3 c4 : Value} {x : DataW H × List MemPlace} (h : DataW.trod enc Try.prog w base spare held fuel 70 [c0, c1, c2, c3, c4] = some x) :
    ∃ (t : Nat) (s n d p : Int), c0 = .float .f64 t ∧ c1 = .int .i64 s ∧ c2 = .int .i64 n ∧ c3 = .int .i64 d ∧ c4 = .int .i64 p ∧ t < 18446744073709551616 ∧ (-9223372036854775808 ≤ s ∧ s ≤ 9223372036854775807) ∧ (-9223372036854775808 ≤ n ∧ n ≤ 9223372036854775807) ∧ (-9223372036854775808 ≤ d ∧ d ≤ 9223372036854775807) ∧ (-9223372036854775808 ≤ p ∧ p ≤ 9223372036854775807) := by
  obtain ⟨xs, f, _, _, _, hlen, hg⟩ := DataW.trod_struct Try.underlying70 h
  match xs, hlen with
  | [y0, y1, y2], _ =>
    have e0 := hg 0 _ rfl
    have e1 := hg 1 _ rfl
    have e2 := hg 2 _ rfl
    simp only [cells_stamp, cells_int, List.drop_zero, List.drop_succ_cons, List.take_succ_cons, List.take_zero, List.getElem?_cons_zero, List.getElem?_cons_succ] at e0 e1 e2
    obtain ⟨t, s, n, rfl, rfl, rfl, wt, ws, wn⟩ := trod_stamp e0
    obtain ⟨d, h1, _, wd⟩ := DataW.trod_int Try.underlying3 e1
    obtain ⟨p, h2, _, wp⟩ := DataW.trod_int Try.underlying3 e2
    injection h1 with h1
    injection h2 with h2
    subst h1 h2
    exact ⟨t, s, n, d, p, rfl, rfl, rfl, rfl, rfl, wt, ws, wn, bounds_i64 wd, bounds_i64 wp⟩
theorem open_event {r : Reach} {b0 : Nat} {v : Value} {d : DataW H} {p : List MemPlace} (hv : Value.okWide Try.prog w r b0 70 v) (h : DataW.Trod enc Try.prog w base spare held 70 v d p) :
    ∃ (t : Nat) (s n dst pl : Int), v = .agg #[.float .f64 t, .int .i64 s, .int .i64 n, .int .i64 dst, .int .i64 pl] ∧ t < 18446744073709551616 ∧ (-9223372036854775808 ≤ s ∧ s ≤ 9223372036854775807) ∧ (-9223372036854775808 ≤ n ∧ n ≤ 9223372036854775807) ∧ (-9223372036854775808 ≤ dst ∧ dst ≤ 9223372036854775807) ∧ (-9223372036854775808 ≤ pl ∧ pl ≤ 9223372036854775807) := by
  obtain ⟨cs, rfl, hsz⟩ := okWide_struct Try.underlying70 hv
  obtain ⟨l⟩ := cs
  match l, hsz.trans cells_event with
  | [c0, c1, c2, c3, c4], _ =>
    obtain ⟨fuel, hf⟩ := h
    obtain ⟨t, s, n, dst, pl, rfl, rfl, rfl, rfl, rfl, b⟩ := trod_event hf
    exact ⟨t, s, n, dst, pl, rfl, b⟩
end
end Go.Proofs.Ytpgbfglfmmohdaa
namespace Go.Proofs.Ytpgbfglfmmohdaa
open Go.RowKit Go.Deep Go.ChangeShapes Go.WideShapes Go.Joins

theorem cells_four : Try.prog.cellsOf 101 = 8 := by kernel_rfl
theorem cells_bool : Try.prog.cellsOf 4 = 1 := by kernel_rfl
theorem cells_u8 : Try.prog.cellsOf 5 = 1 := by kernel_rfl
theorem cells_str : Try.prog.cellsOf 9 = 1 := by kernel_rfl
section
variable {H : Type} {enc : TypeId × Value → H} {w : World} {base : Nat} {spare : Nat → Bool} {held : Bool}
theorem open_four {r : Reach} {b0 : Nat} {v : Value} {d : DataW H} {p : List MemPlace} (hv : Value.okWide Try.prog w r b0 101 v) (h : DataW.Trod enc Try.prog w base spare held 101 v d p) :
    ∃ (t : Nat) (s n dst pl : Int) (an : Bool) (f : Int) (S : ByteArray), v = .agg #[.float .f64 t, .int .i64 s, .int .i64 n, .int .i64 dst, .int .i64 pl, .bool an, .int .u8 f, .string S] ∧ t < 18446744073709551616 ∧ (-9223372036854775808 ≤ pl ∧ pl ≤ 9223372036854775807) ∧ 0 ≤ f ∧ f ≤ 255 := by
  obtain ⟨cs, rfl, hsz⟩ := okWide_struct Try.underlying101 hv
  obtain ⟨l⟩ := cs
  match l, hsz.trans cells_four with
  | [c0, c1, c2, c3, c4, c5, c6, c7], _ =>
    obtain ⟨fuel, hf⟩ := h
    obtain ⟨xs, f, _, _, _, hlen, hg⟩ := DataW.trod_struct Try.underlying101 hf
    match xs, hlen with
    | [y0, y1, y2, y3], _ =>
      have e0 := hg 0 _ rfl
      have e1 := hg 1 _ rfl
      have e2 := hg 2 _ rfl
      have e3 := hg 3 _ rfl
      simp only [Value.cells, cells_event, cells_bool, cells_u8, cells_str, List.drop_zero, List.drop_succ_cons, List.take_succ_cons, List.take_zero, List.getElem?_cons_zero, List.getElem?_cons_succ] at e0 e1 e2 e3
      obtain ⟨t, s, n, dst, pl, rfl, rfl, rfl, rfl, rfl, wt, _, _, _, wp⟩ := trod_event e0
      obtain ⟨an, h1, _⟩ := DataW.trod_bool Try.underlying4 e1
      obtain ⟨f, h2, _, wf⟩ := DataW.trod_int Try.underlying5 e2
      obtain ⟨S, h3, _, _⟩ := DataW.trod_string Try.underlying9 e3
      injection h1 with h1
      injection h2 with h2
      injection h3 with h3
      subst h1 h2 h3
      exact ⟨t, s, n, dst, pl, an, f, S, rfl, wt, wp, by
        have h : IntKind.u8.min ≤ f ∧ f ≤ IntKind.u8.max := by simpa [Lit.wf] using wf
        exact h⟩
end
end Go.Proofs.Ytpgbfglfmmohdaa
