/- Models as plain data, in memory and apart from it; how a row of whatever elements that comes in is opened. No condition. -/
import Derived.Test.YtegegljpmelomaaBase
import Derived.Deep.Slices
import Derived.Deep.Fields
import Derived.ChangeSame
import Derived.DataReads
set_option linter.unusedVariables false
set_option maxRecDepth 20000
namespace Go.Proofs.Ytegegljpmelomaa
open Go.RowKit Go.Deep Go.ChangeShapes Go.WideShapes Go.Joins

/-- A cell that holds something holds it behind a call that only makes memory. -/
theorem keepc {w w' : World} {p : Addr} {v : Value} (hb : Below w.heap.size w w') (h : w.cell? p = some v) : w'.cell? p = some v := (hb.cell (cell_lt h)).trans h

abbrev Dec (α : Type) := World → Addr → α → Prop
/-- A slice: where it lies, its capacity, its elements. -/
structure Sl (α : Type) where
  A : Option Addr
  c : Nat
  L : List α
def Sl.val {α : Type} (s : Sl α) : Value := .slice s.A s.L.length s.c
/-- Element i lies where it should, as 'd' says. -/
def RowD {α : Type} (d : Dec α) (size : Nat) (w : World) (A : Option Addr) (L : List α) : Prop := ∀ i x, L[i]? = some x → ∃ a, A = some a ∧ d w (a.add (i * size)) x
def Sl.At {α : Type} (d : Dec α) (size : Nat) (w : World) (s : Sl α) : Prop := RowD d size w s.A s.L ∧ s.L.length ≤ s.c ∧ s.c ≤ 9223372036854775807
/-- What lies so stays so behind a call that only makes memory. -/
def Dec.keeps {α : Type} (d : Dec α) : Prop := ∀ (w w' : World) (a : Addr) (x : α), Below w.heap.size w w' → d w a x → d w' a x
theorem RowD.below {α : Type} {d : Dec α} (hd : d.keeps) {size : Nat} {w w' : World} {A : Option Addr} {L : List α} (h : RowD d size w A L) (hb : Below w.heap.size w w') : RowD d size w' A L :=
  fun i x hx => by
    obtain ⟨a, ha, h1⟩ := h i x hx
    exact ⟨a, ha, hd _ _ _ _ hb h1⟩
theorem Sl.At.below {α : Type} {d : Dec α} (hd : d.keeps) {size : Nat} {w w' : World} {s : Sl α} (h : s.At d size w) (hb : Below w.heap.size w w') : s.At d size w' := ⟨h.1.below hd hb, h.2⟩

abbrev I64 (n : Int) : Prop := -9223372036854775808 ≤ n ∧ n ≤ 9223372036854775807
def IntAt : Dec Int := fun w p x => w.cell? p = some (.int .i64 x) ∧ I64 x
def FlAt : Dec Nat := fun w p x => w.cell? p = some (.float .f64 x) ∧ x < 18446744073709551616
abbrev Ins4 := Int × Int × Int × Int
def InsAt : Dec Ins4 := fun w p x => w.cell? p = some (.int .i64 x.1) ∧ w.cell? ⟨p.block, p.off + 1, none⟩ = some (.int .i64 x.2.1) ∧ w.cell? ⟨p.block, p.off + 2, none⟩ = some (.int .i64 x.2.2.1) ∧ w.cell? ⟨p.block, p.off + 3, none⟩ = some (.int .i64 x.2.2.2) ∧ I64 x.1 ∧ I64 x.2.1 ∧ I64 x.2.2.1 ∧ I64 x.2.2.2
abbrev Init3 := Nat × Int × Int
def InitAt : Dec Init3 := fun w p x => w.cell? p = some (.float .f64 x.1) ∧ w.cell? ⟨p.block, p.off + 1, none⟩ = some (.int .i64 x.2.1) ∧ w.cell? ⟨p.block, p.off + 2, none⟩ = some (.int .i64 x.2.2) ∧ x.1 < 18446744073709551616 ∧ I64 x.2.1 ∧ I64 x.2.2
def SlAt {α : Type} (d : Dec α) (size : Nat) : Dec (Sl α) := fun w p x => w.cell? p = some x.val ∧ x.At d size w
abbrev LP2 := Int × Sl Int
def LpAt : Dec LP2 := fun w p x => w.cell? p = some (.int .i64 x.1) ∧ w.cell? ⟨p.block, p.off + 1, none⟩ = some x.2.val ∧ I64 x.1 ∧ x.2.At IntAt 1 w
theorem IntAt.keeps : IntAt.keeps := fun _ _ _ _ hb h => ⟨keepc hb h.1, h.2⟩
theorem FlAt.keeps : FlAt.keeps := fun _ _ _ _ hb h => ⟨keepc hb h.1, h.2⟩
theorem InsAt.keeps : InsAt.keeps := fun _ _ _ _ hb h => ⟨keepc hb h.1, keepc hb h.2.1, keepc hb h.2.2.1, keepc hb h.2.2.2.1, h.2.2.2.2⟩
theorem InitAt.keeps : InitAt.keeps := fun _ _ _ _ hb h => ⟨keepc hb h.1, keepc hb h.2.1, keepc hb h.2.2.1, h.2.2.2⟩
theorem SlAt.keeps {α : Type} {d : Dec α} (hd : d.keeps) (size : Nat) : (SlAt d size).keeps := fun _ _ _ _ hb h => ⟨keepc hb h.1, h.2.below hd hb⟩
theorem LpAt.keeps : LpAt.keeps := fun _ _ _ _ hb h => ⟨keepc hb h.1, keepc hb h.2.1, h.2.2.1, h.2.2.2.below IntAt.keeps hb⟩

/-- A model. -/
structure Mdl where
  seed : Int
  fin : Nat
  dl : Sl Nat
  pl : Sl (Sl Ins4)
  ll : Sl LP2
  il : Sl Init3
def Mdl.val (m : Mdl) : Value := .agg #[.int .i64 m.seed, .float .f64 m.fin, m.dl.val, m.pl.val, m.ll.val, m.il.val]
def Mdl.At (w : World) (m : Mdl) : Prop :=
  I64 m.seed ∧ m.fin < 18446744073709551616 ∧ m.dl.At FlAt 1 w ∧ m.pl.At (SlAt InsAt 4) 1 w ∧ m.ll.At LpAt 2 w ∧ m.il.At InitAt 3 w
theorem Mdl.At.below {w w' : World} {m : Mdl} (h : m.At w) (hb : Below w.heap.size w w') : m.At w' :=
  ⟨h.1, h.2.1, h.2.2.1.below FlAt.keeps hb, h.2.2.2.1.below (SlAt.keeps InsAt.keeps 4) hb, h.2.2.2.2.1.below LpAt.keeps hb, h.2.2.2.2.2.below InitAt.keeps hb⟩

section
variable {H : Type} {enc : TypeId × Value → H} {P : Program} {w : World} {base : Nat} {spare : Nat → Bool} {held : Bool}
/-- How an element's cells are read. -/
def ReadsAs {α : Type} (enc : TypeId × Value → H) (P : Program) (w : World) (base : Nat) (spare : Nat → Bool) (held : Bool) (e : TypeId) (size : Nat) (d : Dec α) : Prop :=
  ∀ {A : Addr} {n : Nat} {cs : List Value} {y : DataW H × List MemPlace}, w.cells? base A size = some cs → DataW.trod enc P w base spare held n e cs = some y → ∃ x, d w A x
theorem open_rowD {α : Type} {d : Dec α} {t e : TypeId} {size fuel : Nat} {v : Value} {x : DataW H × List MemPlace} (ht : P.underlying t = some (.slice e)) (hC : P.cellsOf e = size)
    (he : ReadsAs enc P w base spare held e size d) (h : DataW.trod enc P w base spare held fuel t [v] = some x) : ∃ s : Sl α, v = s.val ∧ s.At d size w := by
  rcases open_slice ht h with h0 | ⟨a, len, cap, m, n, D, Pl, hcs, hb, hl, hm, hmm, hx, hi⟩
  · refine ⟨⟨none, 0, []⟩, by have := h0.1; simpa [Sl.val] using this, fun i x hx => by simp at hx, Nat.le_refl 0, Nat.zero_le _⟩
  · have hv : v = .slice (some a) len cap := by simpa using hcs
    have hlm : len ≤ m := by
      rw [hmm]
      split
      · exact hl
      · exact Nat.le_refl _
    have hall : ∀ i : Fin len, ∃ y : α, d w (a.add (i.1 * size)) y := by
      intro i
      obtain ⟨cs', hc, ht'⟩ := hi i.1 (by have := i.2; omega)
      rw [hC] at hc
      exact he hc ht'
    refine ⟨⟨some a, cap, List.ofFn fun i => Classical.choose (hall i)⟩, by rw [hv]; simp [Sl.val], ?_, by simpa using hl, hm⟩
    intro i y hy
    refine ⟨a, rfl, ?_⟩
    rw [List.getElem?_ofFn] at hy
    split at hy
    · rename_i hlt
      have e : Classical.choose (hall ⟨i, hlt⟩) = y := by simpa using hy
      have := Classical.choose_spec (hall ⟨i, hlt⟩)
      rwa [e] at this
    · simp at hy
theorem reads_int {e : TypeId} (he : P.underlying e = some (.int .i64)) : ReadsAs enc P w base spare held e 1 IntAt := by
  intro A n cs y hc ht
  obtain ⟨_, hcl, hat⟩ := World.cells?_some hc
  match cs, hcl with
  | [c0], _ =>
    obtain ⟨z, e0, _, wz⟩ := DataW.trod_int he ht
    injection e0 with e0
    subst e0
    exact ⟨z, hat 0 (by decide), bounds_i64 wz⟩
theorem trod_flt {t : TypeId} {k : FloatKind} {fuel : Nat} {cs : List Value} {x : DataW H × List MemPlace} (ht : P.underlying t = some (.float k)) (h : DataW.trod enc P w base spare held fuel t cs = some x) :
    ∃ b, cs = [.float k b] ∧ x = (.lit (.float k b), []) ∧ (Lit.float k b).wf = true := by
  cases fuel with
  | zero => simp [DataW.trod] at h
  | succ n =>
    unfold DataW.trod at h
    rw [ht] at h
    split at h <;> simp_all
theorem bounds_flt {b : Nat} (h : (Lit.float .f64 b).wf = true) : b < 18446744073709551616 := by simpa [Lit.wf] using h
theorem reads_flt {e : TypeId} (he : P.underlying e = some (.float .f64)) : ReadsAs enc P w base spare held e 1 FlAt := by
  intro A n cs y hc ht
  obtain ⟨_, hcl, hat⟩ := World.cells?_some hc
  match cs, hcl with
  | [c0], _ =>
    obtain ⟨z, e0, _, wz⟩ := trod_flt he ht
    injection e0 with e0
    subst e0
    exact ⟨z, hat 0 (by decide), bounds_flt wz⟩
theorem reads_sl {α : Type} {d : Dec α} {t e : TypeId} {size : Nat} (ht : P.underlying t = some (.slice e)) (hC : P.cellsOf e = size) (he : ReadsAs enc P w base spare held e size d) : ReadsAs enc P w base spare held t 1 (SlAt d size) := by
  intro A n cs y hc h
  obtain ⟨_, hcl, hat⟩ := World.cells?_some hc
  match cs, hcl with
  | [c0], _ =>
    obtain ⟨s, e0, hs⟩ := open_rowD ht hC he h
    have := hat 0 (by decide)
    refine ⟨s, ?_, hs⟩
    rw [← e0]
    exact this
/-- A struct's cells, field by field. -/
theorem fields_at {e : TypeId} {fs : Array Field} {A : Addr} {n : Nat} {cs : List Value} {y : DataW H × List MemPlace} (he : P.underlying e = some (.struct fs)) (hone : oneCellFields P fs = true) (h0 : 0 < fs.size)
    (hc : w.cells? base A fs.size = some cs) (ht : DataW.trod enc P w base spare held n e cs = some y) :
    A = ⟨A.block, A.off, none⟩ ∧ ∃ n', ∀ (j : Nat) (f : Field), fs[j]? = some f → ∃ (v : Value) (z : DataW H × List MemPlace), w.cell? ⟨A.block, A.off + j, none⟩ = some v ∧ DataW.trod enc P w base spare held n' f.type [v] = some z := by
  obtain ⟨ys, n', hn', hy, hlen, hyl, hf⟩ := DataW.trod_struct he ht
  obtain ⟨_, hcl, hat⟩ := World.cells?_some hc
  have hs : A.spot = none := by
    have := hat 0 h0
    rw [List.getElem?_eq_getElem (by omega)] at this
    exact World.cell?_spot (a := A.add 0) this
  obtain ⟨b, o, sp⟩ := A
  simp only at hs
  subst hs
  refine ⟨rfl, n', fun j f hj => ?_⟩
  obtain ⟨ho, hk⟩ := hone_of hone j f hj
  have hjl : j < fs.size := (Array.getElem?_eq_some_iff.1 hj).1
  have hcell := hat j hjl
  have hv : cs[j]? = some (cs[j]'(by omega)) := List.getElem?_eq_getElem (by omega)
  have h1 := hf j f hj
  rw [ho, hk] at h1
  have hone' : (cs.drop j).take 1 = [cs[j]'(by omega)] := by
    rw [List.drop_eq_getElem_cons (by omega)]
    rfl
  rw [hone'] at h1
  have hys : ys[j]? = some (ys[j]'(by omega)) := List.getElem?_eq_getElem (by omega)
  have hadd : (⟨b, o, none⟩ : Addr).add j = ⟨b, o + j, none⟩ := by unfold Addr.add; split <;> simp_all
  refine ⟨_, _, ?_, h1.trans hys⟩
  rw [← hadd, hcell, hv]
theorem reads_ins {e ti : TypeId} {f0 f1 f2 f3 : Field} (he : P.underlying e = some (.struct #[f0, f1, f2, f3])) (hone : oneCellFields P #[f0, f1, f2, f3] = true) (hi : P.underlying ti = some (.int .i64))
    (t0 : f0.type = ti) (t1 : f1.type = ti) (t2 : f2.type = ti) (t3 : f3.type = ti) : ReadsAs enc P w base spare held e 4 InsAt := by
  intro A n cs y hc ht
  obtain ⟨hA, n', hf⟩ := fields_at he hone (Nat.zero_lt_succ _) hc ht
  obtain ⟨v0, z0, c0, h0⟩ := hf 0 f0 rfl
  obtain ⟨v1, z1, c1, h1⟩ := hf 1 f1 rfl
  obtain ⟨v2, z2, c2, h2⟩ := hf 2 f2 rfl
  obtain ⟨v3, z3, c3, h3⟩ := hf 3 f3 rfl
  rw [t0] at h0
  rw [t1] at h1
  rw [t2] at h2
  rw [t3] at h3
  obtain ⟨a0, e0, _, w0⟩ := DataW.trod_int hi h0
  obtain ⟨a1, e1, _, w1⟩ := DataW.trod_int hi h1
  obtain ⟨a2, e2, _, w2⟩ := DataW.trod_int hi h2
  obtain ⟨a3, e3, _, w3⟩ := DataW.trod_int hi h3
  injection e0 with e0
  injection e1 with e1
  injection e2 with e2
  injection e3 with e3
  subst e0 e1 e2 e3
  exact ⟨(a0, a1, a2, a3), by rw [hA]; exact c0, c1, c2, c3, bounds_i64 w0, bounds_i64 w1, bounds_i64 w2, bounds_i64 w3⟩
theorem reads_init {e tf ti : TypeId} {f0 f1 f2 : Field} (he : P.underlying e = some (.struct #[f0, f1, f2])) (hone : oneCellFields P #[f0, f1, f2] = true) (hfl : P.underlying tf = some (.float .f64)) (hi : P.underlying ti = some (.int .i64))
    (t0 : f0.type = tf) (t1 : f1.type = ti) (t2 : f2.type = ti) : ReadsAs enc P w base spare held e 3 InitAt := by
  intro A n cs y hc ht
  obtain ⟨hA, n', hf⟩ := fields_at he hone (Nat.zero_lt_succ _) hc ht
  obtain ⟨v0, z0, c0, h0⟩ := hf 0 f0 rfl
  obtain ⟨v1, z1, c1, h1⟩ := hf 1 f1 rfl
  obtain ⟨v2, z2, c2, h2⟩ := hf 2 f2 rfl
  rw [t0] at h0
  rw [t1] at h1
  rw [t2] at h2
  obtain ⟨a0, e0, _, w0⟩ := trod_flt hfl h0
  obtain ⟨a1, e1, _, w1⟩ := DataW.trod_int hi h1
  obtain ⟨a2, e2, _, w2⟩ := DataW.trod_int hi h2
  injection e0 with e0
  injection e1 with e1
  injection e2 with e2
  subst e0 e1 e2
  exact ⟨(a0, a1, a2), by rw [hA]; exact c0, c1, c2, bounds_flt w0, bounds_i64 w1, bounds_i64 w2⟩
theorem reads_lp {e ts ti : TypeId} {f0 f1 : Field} (he : P.underlying e = some (.struct #[f0, f1])) (hone : oneCellFields P #[f0, f1] = true) (hs : P.underlying ts = some (.slice ti)) (hC : P.cellsOf ti = 1) (hi : P.underlying ti = some (.int .i64))
    (t0 : f0.type = ti) (t1 : f1.type = ts) : ReadsAs enc P w base spare held e 2 LpAt := by
  intro A n cs y hc ht
  obtain ⟨hA, n', hf⟩ := fields_at he hone (Nat.zero_lt_succ _) hc ht
  obtain ⟨v0, z0, c0, h0⟩ := hf 0 f0 rfl
  obtain ⟨v1, z1, c1, h1⟩ := hf 1 f1 rfl
  rw [t0] at h0
  rw [t1] at h1
  obtain ⟨a0, e0, _, w0⟩ := DataW.trod_int hi h0
  obtain ⟨s, e1, hs⟩ := open_rowD hs hC (reads_int hi) h1
  injection e0 with e0
  subst e0 e1
  exact ⟨(a0, s), by rw [hA]; exact c0, c1, bounds_i64 w0, hs⟩
end
section
variable {H : Type} {enc : TypeId × Value → H} {w : World} {base : Nat} {spare : Nat → Bool} {held : Bool}
theorem open_model {r : Reach} {b0 : Nat} {v : Value} {d : DataW H} {p : List MemPlace} (hv : Value.okWide Try.prog w r b0 28 v) (h : DataW.Trod enc Try.prog w base spare held 28 v d p) : ∃ m : Mdl, v = m.val ∧ m.At w := by
  obtain ⟨v0, v1, v2, v3, v4, v5, y0, y1, y2, y3, y4, y5, f, rfl, _, _, e0, e1, e2, e3, e4, e5⟩ := open_agg6 Try.underlying28 (by kernel_rfl) (by kernel_rfl) hv h
  obtain ⟨s, h0, _, w0⟩ := DataW.trod_int Try.underlying3 e0
  obtain ⟨t, h1, _, w1⟩ := trod_flt Try.underlying22 e1
  obtain ⟨dl, h2, k2⟩ := open_rowD Try.underlying23 (by kernel_rfl) (reads_flt Try.underlying22) e2
  obtain ⟨pl, h3, k3⟩ := open_rowD Try.underlying24 (by kernel_rfl) (reads_sl Try.underlying38 (by kernel_rfl) (reads_ins Try.underlying34 (by kernel_rfl) Try.underlying3 rfl rfl rfl rfl)) e3
  obtain ⟨ll, h4, k4⟩ := open_rowD Try.underlying25 (by kernel_rfl) (reads_lp Try.underlying41 (by kernel_rfl) Try.underlying39 (by kernel_rfl) Try.underlying3 rfl rfl) e4
  obtain ⟨il, h5, k5⟩ := open_rowD Try.underlying26 (by kernel_rfl) (reads_init Try.underlying43 (by kernel_rfl) Try.underlying22 Try.underlying3 rfl rfl rfl) e5
  injection h0 with h0
  injection h1 with h1
  subst h0 h1 h2 h3 h4 h5
  exact ⟨⟨s, t, dl, pl, ll, il⟩, rfl, bounds_i64 w0, bounds_flt w1, k2, k3, k4, k5⟩
end
end Go.Proofs.Ytegegljpmelomaa
