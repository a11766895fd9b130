/- The last law of pack: what is read is laid as the very bytes; and how its arguments are opened. No condition but sizes that any memory has. -/
import Derived.Test.YtpgbfglfmmohdaaLaw01b
set_option linter.unusedVariables false
set_option maxRecDepth 20000
namespace Go.Proofs.Ytpgbfglfmmohdaa
open Go.RowKit Go.Deep

theorem cells_four : Try.prog.cellsOf 28 = 4 := by kernel_rfl
theorem cells_laid : Try.prog.cellsOf 62 = 6 := by kernel_rfl
section
open Go.ChangeShapes Go.WideShapes Go.Joins
variable {H : Type} {enc : TypeId × Value → H} {w : World} {base : Nat} {spare : Nat → Bool} {held : Bool}
theorem open_four {r : Reach} {b0 : Nat} {v : Value} {d : DataW H} {p : List MemPlace} (hv : Value.okWide Try.prog w r b0 28 v) (h : DataW.Trod enc Try.prog w base spare held 28 v d p) :
    ∃ (a b c n : Int), v = .agg #[.int .u64 a, .int .u64 b, .int .i64 c, .int .i64 n] ∧ (Lit.int .u64 a).wf = true ∧ (Lit.int .u64 b).wf = true ∧ (Lit.int .i64 c).wf = true ∧ (Lit.int .i64 n).wf = true := by
  obtain ⟨v0, v1, v2, v3, y0, y1, y2, y3, f, rfl, _, _, e0, e1, e2, e3⟩ := open_agg4 Try.underlying28 (by kernel_rfl) cells_four hv h
  obtain ⟨a, h0, _, wa⟩ := DataW.trod_int Try.underlying22 e0
  obtain ⟨b, h1, _, wb⟩ := DataW.trod_int Try.underlying22 e1
  obtain ⟨c, h2, _, wc⟩ := DataW.trod_int Try.underlying3 e2
  obtain ⟨n, h3, _, wn⟩ := DataW.trod_int Try.underlying3 e3
  injection h0 with h0
  injection h1 with h1
  injection h2 with h2
  injection h3 with h3
  subst h0 h1 h2 h3
  exact ⟨a, b, c, n, rfl, wa, wb, wc, wn⟩
theorem open_laid {r : Reach} {b0 : Nat} {v : Value} {d : DataW H} {p : List MemPlace} (hv : Value.okWide Try.prog w r b0 62 v) (h : DataW.Trod enc Try.prog w base spare held 62 v d p) :
    ∃ (a b s : ByteArray) (n m : Int) (A : Option Addr) (l k : Nat) (zs : List Int), v = .agg #[.string a, .string b, .int .u64 n, .int .i64 m, .string s, .slice A l k] ∧
      a.size ≤ maxLen ∧ b.size ≤ maxLen ∧ (Lit.int .u64 n).wf = true ∧ (Lit.int .i64 m).wf = true ∧ s.size ≤ maxLen ∧
      l ≤ k ∧ k ≤ maxLen ∧ zs.length = l ∧ Reads w w.heap.size 1 A l (zs.map (Value.int .i64)) ∧ (∀ z ∈ zs, (Lit.int .i64 z).wf = true) := by
  obtain ⟨v0, v1, v2, v3, v4, v5, y0, y1, y2, y3, y4, y5, f, rfl, _, _, e0, e1, e2, e3, e4, e5⟩ := open_agg6 Try.underlying62 (by kernel_rfl) cells_laid hv h
  obtain ⟨a, h0, _, wa⟩ := DataW.trod_string Try.underlying9 e0
  obtain ⟨b, h1, _, wb⟩ := DataW.trod_string Try.underlying9 e1
  obtain ⟨n, h2, _, wn⟩ := DataW.trod_int Try.underlying22 e2
  obtain ⟨m, h3, _, wm⟩ := DataW.trod_int Try.underlying3 e3
  obtain ⟨s, h4, _, ws⟩ := DataW.trod_string Try.underlying9 e4
  obtain ⟨A, l, k, zs, rfl, g1, g2, g3, g4, g5⟩ := open_reads_ints Try.underlying30 Try.underlying3 (by kernel_rfl) e5
  injection h0 with h0
  injection h1 with h1
  injection h2 with h2
  injection h3 with h3
  injection h4 with h4
  subst h0 h1 h2 h3 h4
  exact ⟨a, b, s, n, m, A, l, k, zs, rfl, wa, wb, wn, wm, ws, g1, g2, g3, g4, g5⟩
end
theorem wf_i64s {zs : List Int} (h : ∀ z ∈ zs, (Lit.int .i64 z).wf = true) : ∀ z ∈ zs, -9223372036854775808 ≤ z ∧ z ≤ 9223372036854775807 := fun z hz => bounds_i64 (h z hz)

/-- What is read is laid as the very bytes: the list's part. -/
theorem readlist_at (s : ByteArray) (q : Nat) (w : World) (hm : s.size ≤ 9223372036854775807) (h : rcE 512 8 s q = 0) :
    Calls Try.prog 47 #[.string s, .int .i64 q] w fun e w' => ∃ v, e = .returned (.tuple #[v, .int .i64 (rcP 512 8 s q), .int .i64 0]) ∧ OwnI w' w.heap.size v (rlL s q) ∧ Below w.heap.size w w' := by
  refine (readlist_all s q w hm).mono ?_
  rintro e w' ⟨v, rfl, ho, hb⟩
  exact ⟨v, by rw [h], ho, hb⟩
end Go.Proofs.Ytpgbfglfmmohdaa
