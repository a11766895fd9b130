/- How the arguments of the laws of act are opened: events, states, cases. No condition. -/
import Derived.Test.YtpfcmfannkbipaaActPl
set_option linter.unusedVariables false
set_option linter.unusedSimpArgs false
set_option maxRecDepth 20000
namespace Go.Proofs.Ytpfcmfannkbipaa
open Go.RowKit Go.Deep Go.ChangeShapes Go.WideShapes Go.Joins

theorem cells_event : Try.prog.cellsOf 37 = 5 := by kernel_rfl
theorem cells_stamp : Try.prog.cellsOf 35 = 3 := by kernel_rfl
theorem cells_int : Try.prog.cellsOf 3 = 1 := by kernel_rfl
theorem cells_f64 : Try.prog.cellsOf 27 = 1 := by kernel_rfl
theorem cells_state : Try.prog.cellsOf 61 = 3 := by kernel_rfl
theorem cells_model : Try.prog.cellsOf 58 = 6 := by kernel_rfl
theorem cells_ints : Try.prog.cellsOf 59 = 1 := by kernel_rfl
theorem cells_fls : Try.prog.cellsOf 53 = 1 := by kernel_rfl
theorem cells_progs : Try.prog.cellsOf 54 = 1 := by kernel_rfl
theorem cells_lps : Try.prog.cellsOf 55 = 1 := by kernel_rfl
theorem cells_inits : Try.prog.cellsOf 56 = 1 := by kernel_rfl
section
variable {H : Type} {enc : TypeId × Value → H} {w : World} {base : Nat} {spare : Nat → Bool} {held : Bool}
theorem trod_stamp {fuel : Nat} {c0 c1 c2 : Value} {x : DataW H × List MemPlace} (h : DataW.trod enc Try.prog w base spare held fuel 35 [c0, c1, c2] = some x) :
    ∃ (t : Nat) (s n : Int), c0 = .float .f64 t ∧ c1 = .int .i64 s ∧ c2 = .int .i64 n ∧ t < 18446744073709551616 ∧ I64 s ∧ I64 n := by
  obtain ⟨xs, f, _, _, _, hlen, hg⟩ := DataW.trod_struct Try.underlying35 h
  match xs, hlen with
  | [y0, y1, y2], _ =>
    have e0 := hg 0 _ rfl
    have e1 := hg 1 _ rfl
    have e2 := hg 2 _ rfl
    simp only [cells_f64, cells_int, List.drop_zero, List.drop_succ_cons, List.take_succ_cons, List.take_zero, List.getElem?_cons_zero, List.getElem?_cons_succ] at e0 e1 e2
    obtain ⟨t, h0, _, wt⟩ := trod_flt Try.underlying27 e0
    obtain ⟨s, h1, _, ws⟩ := DataW.trod_int Try.underlying3 e1
    obtain ⟨n, h2, _, wn⟩ := DataW.trod_int Try.underlying3 e2
    injection h0 with h0
    injection h1 with h1
    injection h2 with h2
    subst h0 h1 h2
    exact ⟨t, s, n, rfl, rfl, rfl, bounds_flt wt, bounds_i64 ws, bounds_i64 wn⟩
theorem trod_event {fuel : Nat} {c0 c1 c2 c3 c4 : Value} {x : DataW H × List MemPlace} (h : DataW.trod enc Try.prog w base spare held fuel 37 [c0, c1, c2, c3, c4] = some x) :
    ∃ e : Ev, c0 = .float .f64 e.1 ∧ c1 = .int .i64 e.2.1 ∧ c2 = .int .i64 e.2.2.1 ∧ c3 = .int .i64 e.2.2.2.1 ∧ c4 = .int .i64 e.2.2.2.2 ∧ EvOk e := by
  obtain ⟨xs, f, _, _, _, hlen, hg⟩ := DataW.trod_struct Try.underlying37 h
  match xs, hlen with
  | [y0, y1, y2], _ =>
    have e0 := hg 0 _ rfl
    have e1 := hg 1 _ rfl
    have e2 := hg 2 _ rfl
    simp only [cells_stamp, cells_int, List.drop_zero, List.drop_succ_cons, List.take_succ_cons, List.take_zero, List.getElem?_cons_zero, List.getElem?_cons_succ] at e0 e1 e2
    obtain ⟨t, s, n, rfl, rfl, rfl, wt, ws, wn⟩ := trod_stamp e0
    obtain ⟨d, h1, _, wd⟩ := DataW.trod_int Try.underlying3 e1
    obtain ⟨p, h2, _, wp⟩ := DataW.trod_int Try.underlying3 e2
    injection h1 with h1
    injection h2 with h2
    subst h1 h2
    exact ⟨(t, s, n, d, p), rfl, rfl, rfl, rfl, rfl, wt, ws, wn, bounds_i64 wd, bounds_i64 wp⟩
theorem trod_state {fuel : Nat} {c0 c1 c2 : Value} {x : DataW H × List MemPlace} (h : DataW.trod enc Try.prog w base spare held fuel 61 [c0, c1, c2] = some x) :
    ∃ s : St, c0 = s.wd.val ∧ c1 = .int .i64 s.sent ∧ c2 = .int .i64 s.dice ∧ s.At w := by
  obtain ⟨xs, f, _, _, _, hlen, hg⟩ := DataW.trod_struct Try.underlying61 h
  match xs, hlen with
  | [y0, y1, y2], _ =>
    have e0 := hg 0 _ rfl
    have e1 := hg 1 _ rfl
    have e2 := hg 2 _ rfl
    simp only [cells_ints, cells_int, List.drop_zero, List.drop_succ_cons, List.take_succ_cons, List.take_zero, List.getElem?_cons_zero, List.getElem?_cons_succ] at e0 e1 e2
    obtain ⟨s, h0, hs⟩ := open_rowD (d := IntAt) Try.underlying59 cells_int (reads_int Try.underlying3) e0
    obtain ⟨a, h1, _, wa⟩ := DataW.trod_int Try.underlying3 e1
    obtain ⟨b, h2, _, wb⟩ := DataW.trod_int Try.underlying3 e2
    injection h1 with h1
    injection h2 with h2
    subst h0 h1 h2
    exact ⟨⟨s, a, b⟩, rfl, rfl, rfl, hs, bounds_i64 wa, bounds_i64 wb⟩
theorem trod_model {fuel : Nat} {c0 c1 c2 c3 c4 c5 : Value} {x : DataW H × List MemPlace} (h : DataW.trod enc Try.prog w base spare held fuel 58 [c0, c1, c2, c3, c4, c5] = some x) :
    ∃ m : Mdl, c0 = .int .i64 m.seed ∧ c1 = .float .f64 m.fin ∧ c2 = m.dl.val ∧ c3 = m.pl.val ∧ c4 = m.ll.val ∧ c5 = m.il.val ∧ m.At w := by
  obtain ⟨xs, f, _, _, _, hlen, hg⟩ := DataW.trod_struct Try.underlying58 h
  match xs, hlen with
  | [y0, y1, y2, y3, y4, y5], _ =>
    have e0 := hg 0 _ rfl
    have e1 := hg 1 _ rfl
    have e2 := hg 2 _ rfl
    have e3 := hg 3 _ rfl
    have e4 := hg 4 _ rfl
    have e5 := hg 5 _ rfl
    simp only [cells_f64, cells_int, cells_fls, cells_progs, cells_lps, cells_inits, List.drop_zero, List.drop_succ_cons, List.take_succ_cons, List.take_zero, List.getElem?_cons_zero, List.getElem?_cons_succ] at e0 e1 e2 e3 e4 e5
    obtain ⟨s, h0, _, w0⟩ := DataW.trod_int Try.underlying3 e0
    obtain ⟨t, h1, _, w1⟩ := trod_flt Try.underlying27 e1
    obtain ⟨dl, h2, k2⟩ := open_rowD Try.underlying53 (by kernel_rfl) (reads_flt Try.underlying27) e2
    obtain ⟨pl, h3, k3⟩ := open_rowD Try.underlying54 (by kernel_rfl) (reads_sl Try.underlying118 (by kernel_rfl) (reads_ins Try.underlying142 (by kernel_rfl) Try.underlying3 rfl rfl rfl rfl)) e3
    obtain ⟨ll, h4, k4⟩ := open_rowD Try.underlying55 (by kernel_rfl) (reads_lp Try.underlying120 (by kernel_rfl) Try.underlying59 (by kernel_rfl) Try.underlying3 rfl rfl) e4
    obtain ⟨il, h5, k5⟩ := open_rowD Try.underlying56 (by kernel_rfl) (reads_init Try.underlying125 (by kernel_rfl) Try.underlying27 Try.underlying3 rfl rfl rfl) e5
    injection h0 with h0
    injection h1 with h1
    subst h0 h1 h2 h3 h4 h5
    exact ⟨⟨s, t, dl, pl, ll, il⟩, rfl, rfl, rfl, rfl, rfl, rfl, bounds_i64 w0, bounds_flt w1, k2, k3, k4, k5⟩
theorem open_event {r : Reach} {b0 : Nat} {v : Value} {d : DataW H} {p : List MemPlace} (hv : Value.okWide Try.prog w r b0 37 v) (h : DataW.Trod enc Try.prog w base spare held 37 v d p) :
    ∃ e : Ev, v = .agg #[.float .f64 e.1, .int .i64 e.2.1, .int .i64 e.2.2.1, .int .i64 e.2.2.2.1, .int .i64 e.2.2.2.2] ∧ EvOk e := by
  obtain ⟨cs, rfl, hsz⟩ := okWide_struct Try.underlying37 hv
  obtain ⟨l⟩ := cs
  match l, hsz.trans cells_event with
  | [c0, c1, c2, c3, c4], _ =>
    obtain ⟨fuel, hf⟩ := h
    obtain ⟨e, rfl, rfl, rfl, rfl, rfl, b⟩ := trod_event hf
    exact ⟨e, rfl, b⟩
theorem open_state {r : Reach} {b0 : Nat} {v : Value} {d : DataW H} {p : List MemPlace} (hv : Value.okWide Try.prog w r b0 61 v) (h : DataW.Trod enc Try.prog w base spare held 61 v d p) :
    ∃ s : St, v = s.val ∧ s.At w := by
  obtain ⟨cs, rfl, hsz⟩ := okWide_struct Try.underlying61 hv
  obtain ⟨l⟩ := cs
  match l, hsz.trans cells_state with
  | [c0, c1, c2], _ =>
    obtain ⟨fuel, hf⟩ := h
    obtain ⟨s, rfl, rfl, rfl, b⟩ := trod_state hf
    exact ⟨s, rfl, b⟩
theorem cells_case : Try.prog.cellsOf 63 = 15 := by kernel_rfl
/-- A model, a process, a state, an event. -/
structure Cas where
  m : Mdl
  lp : Int
  s : St
  e : Ev
def Cas.cells (c : Cas) : Array Value := #[.int .i64 c.m.seed, .float .f64 c.m.fin, c.m.dl.val, c.m.pl.val, c.m.ll.val, c.m.il.val, .int .i64 c.lp, c.s.wd.val, .int .i64 c.s.sent, .int .i64 c.s.dice, .float .f64 c.e.1, .int .i64 c.e.2.1, .int .i64 c.e.2.2.1, .int .i64 c.e.2.2.2.1, .int .i64 c.e.2.2.2.2]
def Cas.val (c : Cas) : Value := .agg c.cells
structure Cas.At (w : World) (c : Cas) : Prop where
  m : c.m.At w
  lp : I64 c.lp
  s : c.s.At w
  e : EvOk c.e
theorem Cas.At.below {w w' : World} {c : Cas} (h : c.At w) (hb : Below w.heap.size w w') : c.At w' := ⟨h.m.below hb, h.lp, h.s.below hb, h.e⟩
theorem open_case {r : Reach} {b0 : Nat} {v : Value} {d : DataW H} {p : List MemPlace} (hv : Value.okWide Try.prog w r b0 63 v) (h : DataW.Trod enc Try.prog w base spare held 63 v d p) :
    ∃ c : Cas, v = c.val ∧ c.At w := by
  obtain ⟨cs, rfl, hsz⟩ := okWide_struct Try.underlying63 hv
  obtain ⟨l⟩ := cs
  match l, hsz.trans cells_case with
  | [c0, c1, c2, c3, c4, c5, c6, c7, c8, c9, c10, c11, c12, c13, c14], _ =>
    obtain ⟨fuel, hf⟩ := h
    obtain ⟨xs, f, _, _, _, hlen, hg⟩ := DataW.trod_struct Try.underlying63 hf
    match xs, hlen with
    | [y0, y1, y2, y3], _ =>
      have e0 := hg 0 _ rfl
      have e1 := hg 1 _ rfl
      have e2 := hg 2 _ rfl
      have e3 := hg 3 _ rfl
      simp only [Value.cells, cells_event, cells_model, cells_state, cells_int, List.drop_zero, List.drop_succ_cons, List.take_succ_cons, List.take_zero, List.getElem?_cons_zero, List.getElem?_cons_succ] at e0 e1 e2 e3
      obtain ⟨m, rfl, rfl, rfl, rfl, rfl, rfl, hm⟩ := trod_model e0
      obtain ⟨lp, h1, _, wl⟩ := DataW.trod_int Try.underlying3 e1
      obtain ⟨s, rfl, rfl, rfl, hs⟩ := trod_state e2
      obtain ⟨e, rfl, rfl, rfl, rfl, rfl, he⟩ := trod_event e3
      injection h1 with h1
      subst h1
      exact ⟨⟨m, lp, s, e⟩, rfl, hm, bounds_i64 wl, hs, he⟩
end
end Go.Proofs.Ytpfcmfannkbipaa
