/- Texts of this claim in one. No condition. -/
import Derived.Test.YtpfcmfannkbipaaJ01
import Derived.Deep.Slices
import Derived.Deep.Fields
import Derived.ChangeSame
import Derived.DataReads
import Derived.Laws.RangeString
import Derived.Lib.OthersKept
section
set_option linter.unusedVariables false
set_option maxRecDepth 20000
namespace Go.Proofs.Ytpfcmfannkbipaa
open Go.RowKit Go.Deep Go.ChangeShapes Go.WideShapes Go.Joins

/-- A cell that holds something holds it behind a call that only makes memory. -/
theorem keepc {w w' : World} {p : Addr} {v : Value} (hb : Below w.heap.size w w') (h : w.cell? p = some v) : w'.cell? p = some v := (hb.cell (cell_lt h)).trans h

abbrev Dec (α : Type) := World → Addr → α → Prop
/-- A slice: where it lies, its capacity, its elements. -/
structure Sl (α : Type) where
  A : Option Addr
  c : Nat
  L : List α
def Sl.val {α : Type} (s : Sl α) : Value := .slice s.A s.L.length s.c
/-- Element i lies where it should, as 'd' says. -/
def RowD {α : Type} (d : Dec α) (size : Nat) (w : World) (A : Option Addr) (L : List α) : Prop := ∀ i x, L[i]? = some x → ∃ a, A = some a ∧ d w (a.add (i * size)) x
def Sl.At {α : Type} (d : Dec α) (size : Nat) (w : World) (s : Sl α) : Prop := RowD d size w s.A s.L ∧ s.L.length ≤ s.c ∧ s.c ≤ 9223372036854775807
/-- What lies so stays so behind a call that only makes memory. -/
def Dec.keeps {α : Type} (d : Dec α) : Prop := ∀ (w w' : World) (a : Addr) (x : α), Below w.heap.size w w' → d w a x → d w' a x
theorem RowD.below {α : Type} {d : Dec α} (hd : d.keeps) {size : Nat} {w w' : World} {A : Option Addr} {L : List α} (h : RowD d size w A L) (hb : Below w.heap.size w w') : RowD d size w' A L :=
  fun i x hx => by
    obtain ⟨a, ha, h1⟩ := h i x hx
    exact ⟨a, ha, hd _ _ _ _ hb h1⟩
theorem Sl.At.below {α : Type} {d : Dec α} (hd : d.keeps) {size : Nat} {w w' : World} {s : Sl α} (h : s.At d size w) (hb : Below w.heap.size w w') : s.At d size w' := ⟨h.1.below hd hb, h.2⟩

abbrev I64 (n : Int) : Prop := -9223372036854775808 ≤ n ∧ n ≤ 9223372036854775807
def IntAt : Dec Int := fun w p x => w.cell? p = some (.int .i64 x) ∧ I64 x
def FlAt : Dec Nat := fun w p x => w.cell? p = some (.float .f64 x) ∧ x < 18446744073709551616
abbrev Ins4 := Int × Int × Int × Int
def InsAt : Dec Ins4 := fun w p x => w.cell? p = some (.int .i64 x.1) ∧ w.cell? ⟨p.block, p.off + 1, none⟩ = some (.int .i64 x.2.1) ∧ w.cell? ⟨p.block, p.off + 2, none⟩ = some (.int .i64 x.2.2.1) ∧ w.cell? ⟨p.block, p.off + 3, none⟩ = some (.int .i64 x.2.2.2) ∧ I64 x.1 ∧ I64 x.2.1 ∧ I64 x.2.2.1 ∧ I64 x.2.2.2
abbrev Init3 := Nat × Int × Int
def InitAt : Dec Init3 := fun w p x => w.cell? p = some (.float .f64 x.1) ∧ w.cell? ⟨p.block, p.off + 1, none⟩ = some (.int .i64 x.2.1) ∧ w.cell? ⟨p.block, p.off + 2, none⟩ = some (.int .i64 x.2.2) ∧ x.1 < 18446744073709551616 ∧ I64 x.2.1 ∧ I64 x.2.2
def SlAt {α : Type} (d : Dec α) (size : Nat) : Dec (Sl α) := fun w p x => w.cell? p = some x.val ∧ x.At d size w
abbrev LP2 := Int × Sl Int
def LpAt : Dec LP2 := fun w p x => w.cell? p = some (.int .i64 x.1) ∧ w.cell? ⟨p.block, p.off + 1, none⟩ = some x.2.val ∧ I64 x.1 ∧ x.2.At IntAt 1 w
theorem IntAt.keeps : IntAt.keeps := fun _ _ _ _ hb h => ⟨keepc hb h.1, h.2⟩
theorem FlAt.keeps : FlAt.keeps := fun _ _ _ _ hb h => ⟨keepc hb h.1, h.2⟩
theorem InsAt.keeps : InsAt.keeps := fun _ _ _ _ hb h => ⟨keepc hb h.1, keepc hb h.2.1, keepc hb h.2.2.1, keepc hb h.2.2.2.1, h.2.2.2.2⟩
theorem InitAt.keeps : InitAt.keeps := fun _ _ _ _ hb h => ⟨keepc hb h.1, keepc hb h.2.1, keepc hb h.2.2.1, h.2.2.2⟩
theorem SlAt.keeps {α : Type} {d : Dec α} (hd : d.keeps) (size : Nat) : (SlAt d size).keeps := fun _ _ _ _ hb h => ⟨keepc hb h.1, h.2.below hd hb⟩
theorem LpAt.keeps : LpAt.keeps := fun _ _ _ _ hb h => ⟨keepc hb h.1, keepc hb h.2.1, h.2.2.1, h.2.2.2.below IntAt.keeps hb⟩

/-- A model. -/
structure Mdl where
  seed : Int
  fin : Nat
  dl : Sl Nat
  pl : Sl (Sl Ins4)
  ll : Sl LP2
  il : Sl Init3
def Mdl.val (m : Mdl) : Value := .agg #[.int .i64 m.seed, .float .f64 m.fin, m.dl.val, m.pl.val, m.ll.val, m.il.val]
def Mdl.At (w : World) (m : Mdl) : Prop :=
  I64 m.seed ∧ m.fin < 18446744073709551616 ∧ m.dl.At FlAt 1 w ∧ m.pl.At (SlAt InsAt 4) 1 w ∧ m.ll.At LpAt 2 w ∧ m.il.At InitAt 3 w
theorem Mdl.At.below {w w' : World} {m : Mdl} (h : m.At w) (hb : Below w.heap.size w w') : m.At w' :=
  ⟨h.1, h.2.1, h.2.2.1.below FlAt.keeps hb, h.2.2.2.1.below (SlAt.keeps InsAt.keeps 4) hb, h.2.2.2.2.1.below LpAt.keeps hb, h.2.2.2.2.2.below InitAt.keeps hb⟩

section
variable {H : Type} {enc : TypeId × Value → H} {P : Program} {w : World} {base : Nat} {spare : Nat → Bool} {held : Bool}
/-- How an element's cells are read. -/
def ReadsAs {α : Type} (enc : TypeId × Value → H) (P : Program) (w : World) (base : Nat) (spare : Nat → Bool) (held : Bool) (e : TypeId) (size : Nat) (d : Dec α) : Prop :=
  ∀ {A : Addr} {n : Nat} {cs : List Value} {y : DataW H × List MemPlace}, w.cells? base A size = some cs → DataW.trod enc P w base spare held n e cs = some y → ∃ x, d w A x
theorem open_rowD {α : Type} {d : Dec α} {t e : TypeId} {size fuel : Nat} {v : Value} {x : DataW H × List MemPlace} (ht : P.underlying t = some (.slice e)) (hC : P.cellsOf e = size)
    (he : ReadsAs enc P w base spare held e size d) (h : DataW.trod enc P w base spare held fuel t [v] = some x) : ∃ s : Sl α, v = s.val ∧ s.At d size w := by
  rcases open_slice ht h with h0 | ⟨a, len, cap, m, n, D, Pl, hcs, hb, hl, hm, hmm, hx, hi⟩
  · refine ⟨⟨none, 0, []⟩, by have := h0.1; simpa [Sl.val] using this, fun i x hx => by simp at hx, Nat.le_refl 0, Nat.zero_le _⟩
  · have hv : v = .slice (some a) len cap := by simpa using hcs
    have hlm : len ≤ m := by
      rw [hmm]
      split
      · exact hl
      · exact Nat.le_refl _
    have hall : ∀ i : Fin len, ∃ y : α, d w (a.add (i.1 * size)) y := by
      intro i
      obtain ⟨cs', hc, ht'⟩ := hi i.1 (by have := i.2; omega)
      rw [hC] at hc
      exact he hc ht'
    refine ⟨⟨some a, cap, List.ofFn fun i => Classical.choose (hall i)⟩, by rw [hv]; simp [Sl.val], ?_, by simpa using hl, hm⟩
    intro i y hy
    refine ⟨a, rfl, ?_⟩
    rw [List.getElem?_ofFn] at hy
    split at hy
    · rename_i hlt
      have e : Classical.choose (hall ⟨i, hlt⟩) = y := by simpa using hy
      have := Classical.choose_spec (hall ⟨i, hlt⟩)
      rwa [e] at this
    · simp at hy
theorem reads_int {e : TypeId} (he : P.underlying e = some (.int .i64)) : ReadsAs enc P w base spare held e 1 IntAt := by
  intro A n cs y hc ht
  obtain ⟨_, hcl, hat⟩ := World.cells?_some hc
  match cs, hcl with
  | [c0], _ =>
    obtain ⟨z, e0, _, wz⟩ := DataW.trod_int he ht
    injection e0 with e0
    subst e0
    exact ⟨z, hat 0 (by decide), bounds_i64 wz⟩
theorem trod_flt {t : TypeId} {k : FloatKind} {fuel : Nat} {cs : List Value} {x : DataW H × List MemPlace} (ht : P.underlying t = some (.float k)) (h : DataW.trod enc P w base spare held fuel t cs = some x) :
    ∃ b, cs = [.float k b] ∧ x = (.lit (.float k b), []) ∧ (Lit.float k b).wf = true := by
  cases fuel with
  | zero => simp [DataW.trod] at h
  | succ n =>
    unfold DataW.trod at h
    rw [ht] at h
    split at h <;> simp_all
theorem bounds_flt {b : Nat} (h : (Lit.float .f64 b).wf = true) : b < 18446744073709551616 := by simpa [Lit.wf] using h
theorem reads_flt {e : TypeId} (he : P.underlying e = some (.float .f64)) : ReadsAs enc P w base spare held e 1 FlAt := by
  intro A n cs y hc ht
  obtain ⟨_, hcl, hat⟩ := World.cells?_some hc
  match cs, hcl with
  | [c0], _ =>
    obtain ⟨z, e0, _, wz⟩ := trod_flt he ht
    injection e0 with e0
    subst e0
    exact ⟨z, hat 0 (by decide), bounds_flt wz⟩
theorem reads_sl {α : Type} {d : Dec α} {t e : TypeId} {size : Nat} (ht : P.underlying t = some (.slice e)) (hC : P.cellsOf e = size) (he : ReadsAs enc P w base spare held e size d) : ReadsAs enc P w base spare held t 1 (SlAt d size) := by
  intro A n cs y hc h
  obtain ⟨_, hcl, hat⟩ := World.cells?_some hc
  match cs, hcl with
  | [c0], _ =>
    obtain ⟨s, e0, hs⟩ := open_rowD ht hC he h
    have := hat 0 (by decide)
    refine ⟨s, ?_, hs⟩
    rw [← e0]
    exact this
/-- A struct's cells, field by field. -/
theorem fields_at {e : TypeId} {fs : Array Field} {A : Addr} {n : Nat} {cs : List Value} {y : DataW H × List MemPlace} (he : P.underlying e = some (.struct fs)) (hone : oneCellFields P fs = true) (h0 : 0 < fs.size)
    (hc : w.cells? base A fs.size = some cs) (ht : DataW.trod enc P w base spare held n e cs = some y) :
    A = ⟨A.block, A.off, none⟩ ∧ ∃ n', ∀ (j : Nat) (f : Field), fs[j]? = some f → ∃ (v : Value) (z : DataW H × List MemPlace), w.cell? ⟨A.block, A.off + j, none⟩ = some v ∧ DataW.trod enc P w base spare held n' f.type [v] = some z := by
  obtain ⟨ys, n', hn', hy, hlen, hyl, hf⟩ := DataW.trod_struct he ht
  obtain ⟨_, hcl, hat⟩ := World.cells?_some hc
  have hs : A.spot = none := by
    have := hat 0 h0
    rw [List.getElem?_eq_getElem (by omega)] at this
    exact World.cell?_spot (a := A.add 0) this
  obtain ⟨b, o, sp⟩ := A
  simp only at hs
  subst hs
  refine ⟨rfl, n', fun j f hj => ?_⟩
  obtain ⟨ho, hk⟩ := hone_of hone j f hj
  have hjl : j < fs.size := (Array.getElem?_eq_some_iff.1 hj).1
  have hcell := hat j hjl
  have hv : cs[j]? = some (cs[j]'(by omega)) := List.getElem?_eq_getElem (by omega)
  have h1 := hf j f hj
  rw [ho, hk] at h1
  have hone' : (cs.drop j).take 1 = [cs[j]'(by omega)] := by
    rw [List.drop_eq_getElem_cons (by omega)]
    rfl
  rw [hone'] at h1
  have hys : ys[j]? = some (ys[j]'(by omega)) := List.getElem?_eq_getElem (by omega)
  have hadd : (⟨b, o, none⟩ : Addr).add j = ⟨b, o + j, none⟩ := by unfold Addr.add; split <;> simp_all
  refine ⟨_, _, ?_, h1.trans hys⟩
  rw [← hadd, hcell, hv]
theorem reads_ins {e ti : TypeId} {f0 f1 f2 f3 : Field} (he : P.underlying e = some (.struct #[f0, f1, f2, f3])) (hone : oneCellFields P #[f0, f1, f2, f3] = true) (hi : P.underlying ti = some (.int .i64))
    (t0 : f0.type = ti) (t1 : f1.type = ti) (t2 : f2.type = ti) (t3 : f3.type = ti) : ReadsAs enc P w base spare held e 4 InsAt := by
  intro A n cs y hc ht
  obtain ⟨hA, n', hf⟩ := fields_at he hone (Nat.zero_lt_succ _) hc ht
  obtain ⟨v0, z0, c0, h0⟩ := hf 0 f0 rfl
  obtain ⟨v1, z1, c1, h1⟩ := hf 1 f1 rfl
  obtain ⟨v2, z2, c2, h2⟩ := hf 2 f2 rfl
  obtain ⟨v3, z3, c3, h3⟩ := hf 3 f3 rfl
  rw [t0] at h0
  rw [t1] at h1
  rw [t2] at h2
  rw [t3] at h3
  obtain ⟨a0, e0, _, w0⟩ := DataW.trod_int hi h0
  obtain ⟨a1, e1, _, w1⟩ := DataW.trod_int hi h1
  obtain ⟨a2, e2, _, w2⟩ := DataW.trod_int hi h2
  obtain ⟨a3, e3, _, w3⟩ := DataW.trod_int hi h3
  injection e0 with e0
  injection e1 with e1
  injection e2 with e2
  injection e3 with e3
  subst e0 e1 e2 e3
  exact ⟨(a0, a1, a2, a3), by rw [hA]; exact c0, c1, c2, c3, bounds_i64 w0, bounds_i64 w1, bounds_i64 w2, bounds_i64 w3⟩
theorem reads_init {e tf ti : TypeId} {f0 f1 f2 : Field} (he : P.underlying e = some (.struct #[f0, f1, f2])) (hone : oneCellFields P #[f0, f1, f2] = true) (hfl : P.underlying tf = some (.float .f64)) (hi : P.underlying ti = some (.int .i64))
    (t0 : f0.type = tf) (t1 : f1.type = ti) (t2 : f2.type = ti) : ReadsAs enc P w base spare held e 3 InitAt := by
  intro A n cs y hc ht
  obtain ⟨hA, n', hf⟩ := fields_at he hone (Nat.zero_lt_succ _) hc ht
  obtain ⟨v0, z0, c0, h0⟩ := hf 0 f0 rfl
  obtain ⟨v1, z1, c1, h1⟩ := hf 1 f1 rfl
  obtain ⟨v2, z2, c2, h2⟩ := hf 2 f2 rfl
  rw [t0] at h0
  rw [t1] at h1
  rw [t2] at h2
  obtain ⟨a0, e0, _, w0⟩ := trod_flt hfl h0
  obtain ⟨a1, e1, _, w1⟩ := DataW.trod_int hi h1
  obtain ⟨a2, e2, _, w2⟩ := DataW.trod_int hi h2
  injection e0 with e0
  injection e1 with e1
  injection e2 with e2
  subst e0 e1 e2
  exact ⟨(a0, a1, a2), by rw [hA]; exact c0, c1, c2, bounds_flt w0, bounds_i64 w1, bounds_i64 w2⟩
theorem reads_lp {e ts ti : TypeId} {f0 f1 : Field} (he : P.underlying e = some (.struct #[f0, f1])) (hone : oneCellFields P #[f0, f1] = true) (hs : P.underlying ts = some (.slice ti)) (hC : P.cellsOf ti = 1) (hi : P.underlying ti = some (.int .i64))
    (t0 : f0.type = ti) (t1 : f1.type = ts) : ReadsAs enc P w base spare held e 2 LpAt := by
  intro A n cs y hc ht
  obtain ⟨hA, n', hf⟩ := fields_at he hone (Nat.zero_lt_succ _) hc ht
  obtain ⟨v0, z0, c0, h0⟩ := hf 0 f0 rfl
  obtain ⟨v1, z1, c1, h1⟩ := hf 1 f1 rfl
  rw [t0] at h0
  rw [t1] at h1
  obtain ⟨a0, e0, _, w0⟩ := DataW.trod_int hi h0
  obtain ⟨s, e1, hs⟩ := open_rowD hs hC (reads_int hi) h1
  injection e0 with e0
  subst e0 e1
  exact ⟨(a0, s), by rw [hA]; exact c0, c1, bounds_i64 w0, hs⟩
end
section
variable {H : Type} {enc : TypeId × Value → H} {w : World} {base : Nat} {spare : Nat → Bool} {held : Bool}
theorem open_model {r : Reach} {b0 : Nat} {v : Value} {d : DataW H} {p : List MemPlace} (hv : Value.okWide Try.prog w r b0 58 v) (h : DataW.Trod enc Try.prog w base spare held 58 v d p) : ∃ m : Mdl, v = m.val ∧ m.At w := by
  obtain ⟨v0, v1, v2, v3, v4, v5, y0, y1, y2, y3, y4, y5, f, rfl, _, _, e0, e1, e2, e3, e4, e5⟩ := open_agg6 Try.underlying58 (by kernel_rfl) (by kernel_rfl) hv h
  obtain ⟨s, h0, _, w0⟩ := DataW.trod_int Try.underlying3 e0
  obtain ⟨t, h1, _, w1⟩ := trod_flt Try.underlying27 e1
  obtain ⟨dl, h2, k2⟩ := open_rowD Try.underlying53 (by kernel_rfl) (reads_flt Try.underlying27) e2
  obtain ⟨pl, h3, k3⟩ := open_rowD Try.underlying54 (by kernel_rfl) (reads_sl Try.underlying118 (by kernel_rfl) (reads_ins Try.underlying142 (by kernel_rfl) Try.underlying3 rfl rfl rfl rfl)) e3
  obtain ⟨ll, h4, k4⟩ := open_rowD Try.underlying55 (by kernel_rfl) (reads_lp Try.underlying120 (by kernel_rfl) Try.underlying59 (by kernel_rfl) Try.underlying3 rfl rfl) e4
  obtain ⟨il, h5, k5⟩ := open_rowD Try.underlying56 (by kernel_rfl) (reads_init Try.underlying125 (by kernel_rfl) Try.underlying27 Try.underlying3 rfl rfl rfl) e5
  injection h0 with h0
  injection h1 with h1
  subst h0 h1 h2 h3 h4 h5
  exact ⟨⟨s, t, dl, pl, ll, il⟩, rfl, bounds_i64 w0, bounds_flt w1, k2, k3, k4, k5⟩
end
end Go.Proofs.Ytpfcmfannkbipaa
end

section
set_option linter.unusedVariables false
set_option maxRecDepth 20000
namespace Go.Proofs.Ytpfcmfannkbipaa
open Go.RowKit Go.Deep

def regB (n : Int) : Bool := decide (0 ≤ n ∧ n ≤ 7)
/-- What an instruction needs, letter by letter. -/
def needS (op : Int) : ByteArray :=
  if op = 0 then ⟨#[45, 45, 45]⟩ else if op = 1 then ⟨#[114, 45, 45]⟩
  else if op = 2 ∨ op = 11 ∨ op = 13 ∨ op = 14 then ⟨#[114, 114, 45]⟩
  else if op = 3 ∨ op = 4 ∨ op = 5 ∨ op = 6 ∨ op = 7 ∨ op = 8 ∨ op = 12 then ⟨#[114, 114, 114]⟩
  else if op = 9 then ⟨#[112, 45, 45]⟩ else if op = 10 then ⟨#[114, 112, 45]⟩ else ⟨#[]⟩
/-- Does a number fit a letter? -/
def fitB (c : UInt8) (n len : Int) : Bool := if c = 114 then regB n else if c = 112 then decide (0 ≤ n ∧ n ≤ len) else true
/-- May an instruction be? -/
def insB (op a b c len : Int) : Bool :=
  match (needS op).data.toList with
  | [x, y, z] => fitB x a len && (fitB y b len && fitB z c len)
  | _ => false

def isOp (op : Int) : Prop := op = 0 ∨ op = 1 ∨ op = 2 ∨ op = 3 ∨ op = 4 ∨ op = 5 ∨ op = 6 ∨ op = 7 ∨ op = 8 ∨ op = 9 ∨ op = 10 ∨ op = 11 ∨ op = 12 ∨ op = 13 ∨ op = 14
instance (op : Int) : Decidable (isOp op) := by unfold isOp; infer_instance
theorem needS_none {op : Int} (h : ¬ isOp op) : needS op = ⟨#[]⟩ := by
  unfold isOp at h
  unfold needS
  rw [if_neg (by omega), if_neg (by omega), if_neg (by omega), if_neg (by omega), if_neg (by omega), if_neg (by omega)]
theorem insB_none {op : Int} (h : ¬ isOp op) (a b c len : Int) : insB op a b c len = false := by
  unfold insB
  rw [needS_none h]
theorem needs_any (op : Int) (w : World) : Calls Try.prog 120 #[.int .i64 op] w fun e w' => e = .returned (.string (needS op)) ∧ w = w' := by
  by_cases h : isOp op
  · rcases h with rfl | rfl | rfl | rfl | rfl | rfl | rfl | rfl | rfl | rfl | rfl | rfl | rfl | rfl | rfl
    all_goals
      go_enter Try.func120, Try.ntmps120
      go_wp2
      go_ret
      exact ⟨rfl, rfl⟩
  · rw [needS_none h]
    have q : ∀ k : Int, (k = 0 ∨ k = 1 ∨ k = 2 ∨ k = 3 ∨ k = 4 ∨ k = 5 ∨ k = 6 ∨ k = 7 ∨ k = 8 ∨ k = 9 ∨ k = 10 ∨ k = 11 ∨ k = 12 ∨ k = 13 ∨ k = 14) → (op == k) = false := by
      intro k hk
      rw [beq_eq_false_iff_ne]
      unfold isOp at h
      omega
    have q0 := q 0 (by decide)
    have q1 := q 1 (by decide)
    have q2 := q 2 (by decide)
    have q3 := q 3 (by decide)
    have q4 := q 4 (by decide)
    have q5 := q 5 (by decide)
    have q6 := q 6 (by decide)
    have q7 := q 7 (by decide)
    have q8 := q 8 (by decide)
    have q9 := q 9 (by decide)
    have q10 := q 10 (by decide)
    have q11 := q 11 (by decide)
    have q12 := q 12 (by decide)
    have q13 := q 13 (by decide)
    have q14 := q 14 (by decide)
    clear q h
    go_enter Try.func120, Try.ntmps120
    go_wp2
    go_ret
    exact ⟨rfl, rfl⟩

theorem rreg_any (n : Int) (w : World) : Calls Try.prog 117 #[.int .i64 n] w fun e w' => e = .returned (.bool (regB n)) ∧ w = w' := by
  go_enter Try.func117, Try.ntmps117
  go_wp2
  all_goals
    go_ret
    exact ⟨ret_bool (by unfold regB; simp; try omega), rfl⟩

theorem insB_0 (a b c len : Int) : insB 0 a b c len = true := rfl
theorem insB_1 (a b c len : Int) : insB 1 a b c len = regB a := by
  show (fitB 114 a len && (fitB 45 b len && fitB 45 c len)) = _
  simp [fitB]
theorem insB_rr {op : Int} (h : op = 2 ∨ op = 11 ∨ op = 13 ∨ op = 14) (a b c len : Int) : insB op a b c len = (regB a && regB b) := by
  rcases h with rfl | rfl | rfl | rfl
  all_goals
    show (fitB 114 a len && (fitB 114 b len && fitB 45 c len)) = _
    simp [fitB]
theorem insB_rrr {op : Int} (h : op = 3 ∨ op = 4 ∨ op = 5 ∨ op = 6 ∨ op = 7 ∨ op = 8 ∨ op = 12) (a b c len : Int) : insB op a b c len = (regB a && (regB b && regB c)) := by
  rcases h with rfl | rfl | rfl | rfl | rfl | rfl | rfl
  all_goals
    show (fitB 114 a len && (fitB 114 b len && fitB 114 c len)) = _
    simp [fitB]
theorem insB_9 (a b c len : Int) : insB 9 a b c len = decide (0 ≤ a ∧ a ≤ len) := by
  show (fitB 112 a len && (fitB 45 b len && fitB 45 c len)) = _
  simp [fitB]
theorem insB_10 (a b c len : Int) : insB 10 a b c len = (regB a && decide (0 ≤ b ∧ b ≤ len)) := by
  show (fitB 114 a len && (fitB 112 b len && fitB 45 c len)) = _
  simp [fitB]
set_option maxHeartbeats 400000 in
theorem rins_rr (op a b c len : Int) (w : World) (h : op = 2 ∨ op = 11 ∨ op = 13 ∨ op = 14) : Calls Try.prog 105 #[.agg #[.int .i64 op, .int .i64 a, .int .i64 b, .int .i64 c], .int .i64 len] w fun e w' => e = .returned (.bool (insB op a b c len)) ∧ Below w.heap.size w w' := by
  rw [insB_rr h]
  cases ha : regB a
  · rcases h with rfl | rfl | rfl | rfl
    all_goals
      go_enter Try.func105, Try.ntmps105
      go_wp2_with fail
      refine (rreg_any _ _).mono ?_
      rw [ha]
      rintro e w' ⟨rfl, rfl⟩
      go_wp2
      go_ret
      exact ⟨rfl, (Below.refl _ _).alloc (Nat.le_refl _) _⟩
  · rcases h with rfl | rfl | rfl | rfl
    all_goals
      go_enter Try.func105, Try.ntmps105
      go_wp2_with fail
      refine (rreg_any _ _).mono ?_
      rw [ha]
      rintro e w' ⟨rfl, rfl⟩
      go_wp2_with fail
      refine (rreg_any _ _).mono ?_
      rintro e w' ⟨rfl, rfl⟩
      go_wp2
      go_ret
      exact ⟨rfl, (Below.refl _ _).alloc (Nat.le_refl _) _⟩
set_option maxHeartbeats 800000 in
theorem rins_rrr (op a b c len : Int) (w : World) (h : op = 3 ∨ op = 4 ∨ op = 5 ∨ op = 6 ∨ op = 7 ∨ op = 8 ∨ op = 12) : Calls Try.prog 105 #[.agg #[.int .i64 op, .int .i64 a, .int .i64 b, .int .i64 c], .int .i64 len] w fun e w' => e = .returned (.bool (insB op a b c len)) ∧ Below w.heap.size w w' := by
  rw [insB_rrr h]
  cases ha : regB a
  · rcases h with rfl | rfl | rfl | rfl | rfl | rfl | rfl
    all_goals
      go_enter Try.func105, Try.ntmps105
      go_wp2_with fail
      refine (rreg_any _ _).mono ?_
      rw [ha]
      rintro e w' ⟨rfl, rfl⟩
      go_wp2
      go_ret
      exact ⟨rfl, (Below.refl _ _).alloc (Nat.le_refl _) _⟩
  · cases hb : regB b
    · rcases h with rfl | rfl | rfl | rfl | rfl | rfl | rfl
      all_goals
        go_enter Try.func105, Try.ntmps105
        go_wp2_with fail
        refine (rreg_any _ _).mono ?_
        rw [ha]
        rintro e w' ⟨rfl, rfl⟩
        go_wp2_with fail
        refine (rreg_any _ _).mono ?_
        rw [hb]
        rintro e w' ⟨rfl, rfl⟩
        go_wp2
        go_ret
        exact ⟨rfl, (Below.refl _ _).alloc (Nat.le_refl _) _⟩
    · rcases h with rfl | rfl | rfl | rfl | rfl | rfl | rfl
      all_goals
        go_enter Try.func105, Try.ntmps105
        go_wp2_with fail
        refine (rreg_any _ _).mono ?_
        rw [ha]
        rintro e w' ⟨rfl, rfl⟩
        go_wp2_with fail
        refine (rreg_any _ _).mono ?_
        rw [hb]
        rintro e w' ⟨rfl, rfl⟩
        go_wp2_with fail
        refine (rreg_any _ _).mono ?_
        rintro e w' ⟨rfl, rfl⟩
        go_wp2
        go_ret
        exact ⟨rfl, (Below.refl _ _).alloc (Nat.le_refl _) _⟩
theorem rins_p (a b c len : Int) (w : World) : Calls Try.prog 105 #[.agg #[.int .i64 9, .int .i64 a, .int .i64 b, .int .i64 c], .int .i64 len] w fun e w' => e = .returned (.bool (insB 9 a b c len)) ∧ Below w.heap.size w w' := by
  rw [insB_9]
  go_enter Try.func105, Try.ntmps105
  go_wp2
  all_goals
    go_ret
    exact ⟨ret_bool (by simp; try omega), (Below.refl _ _).alloc (Nat.le_refl _) _⟩
theorem rins_rp (a b c len : Int) (w : World) : Calls Try.prog 105 #[.agg #[.int .i64 10, .int .i64 a, .int .i64 b, .int .i64 c], .int .i64 len] w fun e w' => e = .returned (.bool (insB 10 a b c len)) ∧ Below w.heap.size w w' := by
  rw [insB_10]
  cases ha : regB a
  · go_enter Try.func105, Try.ntmps105
    go_wp2_with fail
    refine (rreg_any _ _).mono ?_
    rw [ha]
    rintro e w' ⟨rfl, rfl⟩
    go_wp2
    go_ret
    exact ⟨rfl, (Below.refl _ _).alloc (Nat.le_refl _) _⟩
  · go_enter Try.func105, Try.ntmps105
    go_wp2_with fail
    refine (rreg_any _ _).mono ?_
    rw [ha]
    rintro e w' ⟨rfl, rfl⟩
    go_wp2
    all_goals
      go_ret
      exact ⟨ret_bool (by simp; try omega), (Below.refl _ _).alloc (Nat.le_refl _) _⟩
theorem op_not {op : Int} (h : ¬ isOp op) (k : Int) (hk : isOp k) : (op == k) = false := by
  rw [beq_eq_false_iff_ne]
  rintro rfl
  exact h hk
theorem rins_any (op a b c len : Int) (w : World) : Calls Try.prog 105 #[.agg #[.int .i64 op, .int .i64 a, .int .i64 b, .int .i64 c], .int .i64 len] w fun e w' => e = .returned (.bool (insB op a b c len)) ∧ Below w.heap.size w w' := by
  by_cases h : isOp op
  · by_cases h2 : op = 2 ∨ op = 11 ∨ op = 13 ∨ op = 14
    · exact rins_rr op a b c len w h2
    · by_cases h3 : op = 3 ∨ op = 4 ∨ op = 5 ∨ op = 6 ∨ op = 7 ∨ op = 8 ∨ op = 12
      · exact rins_rrr op a b c len w h3
      · have h4 : op = 0 ∨ op = 1 ∨ op = 9 ∨ op = 10 := by
          unfold isOp at h
          omega
        rcases h4 with rfl | rfl | rfl | rfl
        · rw [insB_0]
          go_enter Try.func105, Try.ntmps105
          go_wp2
          go_ret
          exact ⟨rfl, (Below.refl _ _).alloc (Nat.le_refl _) _⟩
        · rw [insB_1]
          go_enter Try.func105, Try.ntmps105
          go_wp2_with fail
          refine (rreg_any _ _).mono ?_
          rintro e w' ⟨rfl, rfl⟩
          go_wp2
          go_ret
          exact ⟨rfl, (Below.refl _ _).alloc (Nat.le_refl _) _⟩
        · exact rins_p a b c len w
        · exact rins_rp a b c len w
  · rw [insB_none h]
    have q0 := op_not h 0 (by decide)
    have q1 := op_not h 1 (by decide)
    have q2 := op_not h 2 (by decide)
    have q3 := op_not h 3 (by decide)
    have q4 := op_not h 4 (by decide)
    have q5 := op_not h 5 (by decide)
    have q6 := op_not h 6 (by decide)
    have q7 := op_not h 7 (by decide)
    have q8 := op_not h 8 (by decide)
    have q9 := op_not h 9 (by decide)
    have q10 := op_not h 10 (by decide)
    have q11 := op_not h 11 (by decide)
    have q12 := op_not h 12 (by decide)
    have q13 := op_not h 13 (by decide)
    have q14 := op_not h 14 (by decide)
    clear h
    go_enter Try.func105, Try.ntmps105
    go_wp2
    go_ret
    exact ⟨rfl, (Below.refl _ _).alloc (Nat.le_refl _) _⟩

/-! The package's own. -/
theorem needS_three {op : Int} (h : isOp op) : ∃ x y z : UInt8, needS op = ⟨#[x, y, z]⟩ ∧ (x = 45 ∨ x = 112 ∨ x = 114) ∧ (y = 45 ∨ y = 112 ∨ y = 114) ∧ (z = 45 ∨ z = 112 ∨ z = 114) := by
  rcases h with rfl | rfl | rfl | rfl | rfl | rfl | rfl | rfl | rfl | rfl | rfl | rfl | rfl | rfl | rfl
  all_goals exact ⟨_, _, _, rfl, by decide, by decide, by decide⟩
def InsRel (w : World) (s : ByteArray) (a b c : Int) (f : Nat → Bool) (r : Value) (wr : World) : Prop :=
  ∃ k : Nat, k ≤ s.size ∧ r = .bool false ∧ wr.heap[w.heap.size + 2]? = some (.stringIter s k) ∧ Blk wr (w.heap.size + 1) 169 #[.int .i64 a, .int .i64 b, .int .i64 c] ∧ Below w.heap.size w wr ∧ ∀ j, j < k → f j = true
theorem ins_start (w : World) (s : ByteArray) (op a b c : Int) (f : Nat → Bool) :
    InsRel w s a b c f (.bool false) (((w.alloc (.cells #[.int .i64 op, .int .i64 a, .int .i64 b, .int .i64 c] 142)).alloc (.cells #[.int .i64 a, .int .i64 b, .int .i64 c] 169)).iter s 0) := by
  refine ⟨0, Nat.zero_le _, rfl, ?_, ?_, ?_, fun j hj => absurd hj (Nat.not_lt_zero _)⟩
  · have := World.iter_heap ((w.alloc (.cells #[.int .i64 op, .int .i64 a, .int .i64 b, .int .i64 c] 142)).alloc (.cells #[.int .i64 a, .int .i64 b, .int .i64 c] 169)) s 0
    simpa using this
  · have := (Blk.new (w.alloc (.cells #[.int .i64 op, .int .i64 a, .int .i64 b, .int .i64 c] 142)) 169 #[.int .i64 a, .int .i64 b, .int .i64 c]).alloc (.stringIter s 0)
    simpa [World.iter] using this
  · exact (((Below.refl _ _).alloc (Nat.le_refl _) _).alloc (by simp) _).alloc (by simp; omega) _
theorem ins_none (op a b c len : Int) (w : World) (h : ¬ isOp op) : Calls Try.prog 113 #[.agg #[.int .i64 op, .int .i64 a, .int .i64 b, .int .i64 c], .int .i64 len] w fun e w' => e = .returned (.bool (insB op a b c len)) ∧ Below w.heap.size w w' := by
  rw [insB_none h]
  have hs := needS_none h
  clear h
  go_enter Try.func113, Try.ntmps113
  go_wp2_with fail
  refine (needs_any _ _).mono ?_
  rw [hs]
  rintro e w' ⟨rfl, rfl⟩
  clear hs
  go_wp2_with fail
  go_loopw [4] (fun r wr => InsRel w ⟨#[]⟩ a b c (fun _ => true) r wr) (fun _ _ => 0)
  case atStart => exact ins_start w _ op a b c _
  case round =>
    obtain ⟨k, hk, rfl, hi, hp, hb, hf⟩ := hrel
    have hnext : ∀ ty, (Instr.next (.pointer (some ⟨w.heap.size + 2, 0, none⟩)) true ty).run Try.prog wr = _ := fun ty => Lib.run_next_end_at wr (w.heap.size + 2) ⟨#[]⟩ k ty hi (Nat.not_lt_zero _)
    clear hi hf
    go_wp2
    go_ret
    exact ⟨rfl, hb⟩
theorem ins_letters (x y z : UInt8) (a b c len : Int) (k : Nat) (hk : k < (⟨#[x, y, z]⟩ : ByteArray).size) (hx : x = 45 ∨ x = 112 ∨ x = 114) (hy : y = 45 ∨ y = 112 ∨ y = 114) (hz : z = 45 ∨ z = 112 ∨ z = 114) :
    ∃ (q : UInt8) (n : Int), (⟨#[x, y, z]⟩ : ByteArray)[k] = q ∧ (#[Value.int .i64 a, .int .i64 b, .int .i64 c])[k]? = some (.int .i64 n) ∧ (q = 45 ∨ q = 112 ∨ q = 114) ∧
      (if k = 0 then fitB x a len else if k = 1 then fitB y b len else fitB z c len) = fitB q n len ∧ (fitB q n len = false → (fitB x a len && (fitB y b len && fitB z c len)) = false) := by
  have hk3 : k < 3 := hk
  obtain rfl | rfl | rfl : k = 0 ∨ k = 1 ∨ k = 2 := by omega
  · exact ⟨x, a, rfl, rfl, hx, rfl, fun h => by rw [h]; rfl⟩
  · exact ⟨y, b, rfl, rfl, hy, rfl, fun h => by rw [h]; simp⟩
  · exact ⟨z, c, rfl, rfl, hz, rfl, fun h => by rw [h]; simp⟩
theorem ins_some (op a b c len : Int) (w : World) (h : isOp op) : Calls Try.prog 113 #[.agg #[.int .i64 op, .int .i64 a, .int .i64 b, .int .i64 c], .int .i64 len] w fun e w' => e = .returned (.bool (insB op a b c len)) ∧ Below w.heap.size w w' := by
  obtain ⟨x, y, z, hs, hx, hy, hz⟩ := needS_three h
  clear h
  have hI : insB op a b c len = (fitB x a len && (fitB y b len && fitB z c len)) := by
    unfold insB
    rw [hs]
  rw [hI]
  clear hI
  go_enter Try.func113, Try.ntmps113
  go_wp2_with fail
  refine (needs_any _ _).mono ?_
  rw [hs]
  rintro e w' ⟨rfl, rfl⟩
  clear hs
  go_wp2_with fail
  go_loopw [4] (fun r wr => InsRel w ⟨#[x, y, z]⟩ a b c (fun k => if k = 0 then fitB x a len else if k = 1 then fitB y b len else fitB z c len) r wr) (fun _ wr => 3 - wr.iterPos (w.heap.size + 2))
  case atStart => exact ins_start w _ op a b c _
  case round =>
    obtain ⟨k, hk, rfl, hi, hp, hb, hf⟩ := hrel
    have hk3 : k ≤ 3 := hk
    clear hk
    by_cases hlt : k < 3
    · obtain ⟨q, n, hq, hn, hq3, hfk, hT⟩ := ins_letters x y z a b c len k hlt hx hy hz
      have hnext : ∀ ty, (Instr.next (.pointer (some ⟨w.heap.size + 2, 0, none⟩)) true ty).run Try.prog wr = _ := fun ty => Lib.run_next_ascii_at wr (w.heap.size + 2) ⟨#[x, y, z]⟩ k ty hi hlt (by rw [hq]; rcases hq3 with rfl | rfl | rfl <;> decide)
      rw [hq] at hnext
      have hi1 := Lib.iterAt_heap wr (w.heap.size + 2) _ k (k + 1) hi
      have hb1 := Lib.below_iterAt hb (show w.heap.size ≤ w.heap.size + 2 by omega) ⟨#[x, y, z]⟩ (k + 1)
      have hp1 : Blk (wr.iterAt (w.heap.size + 2) ⟨#[x, y, z]⟩ (k + 1)) (w.heap.size + 1) 169 #[.int .i64 a, .int .i64 b, .int .i64 c] := (Lib.iterAt_other wr (w.heap.size + 2) (w.heap.size + 1) _ _ (by omega)).trans hp
      have hmu : wr.iterPos (w.heap.size + 2) = k := by simp [World.iterPos, hi]
      have Hf := hide hf
      have Hfk := hide hfk
      have HT := hide hT
      have hcell := (hp1.cell k).trans hn
      clear hf hfk hT hi hp hq hn hb hx hy hz
      generalize wr.iterAt (w.heap.size + 2) ⟨#[x, y, z]⟩ (k + 1) = w1 at *
      have hstep : fitB q n len = true → InsRel w ⟨#[x, y, z]⟩ a b c (fun k => if k = 0 then fitB x a len else if k = 1 then fitB y b len else fitB z c len) (.bool false) w1 := fun hok =>
        ⟨k + 1, hlt, rfl, hi1, hp1, hb1, fun j hj => by
          by_cases e : j = k
          · subst e
            exact Hfk.out.trans hok
          · exact Hf.out j (by omega)⟩
      have Hstep := hide hstep
      have hmu2 : w1.iterPos (w.heap.size + 2) = k + 1 := by simp [World.iterPos, hi1]
      have Hmu := hide hmu
      have Hmu2 := hide hmu2
      clear hstep hmu hmu2 hi1 hp1
      rcases hq3 with rfl | rfl | rfl
      · go_wp2
        go_roundw
        case rel => exact Hstep.out (by simp [fitB])
        case measure => rw [Hmu.out, Hmu2.out]; omega
      · by_cases hok : 0 ≤ n ∧ n ≤ len
        · obtain ⟨ho1, ho2⟩ := hok
          go_wp2
          go_roundw
          case rel => exact Hstep.out (by simp [fitB]; omega)
          case measure => rw [Hmu.out, Hmu2.out]; omega
        · have HF := hide (HT.out (by simp [fitB]; omega))
          by_cases h0 : 0 ≤ n
          · have h1 : ¬ n ≤ len := by omega
            go_wp2
            go_ret
            exact ⟨ret_bool HF.out.symm, hb1⟩
          · go_wp2
            go_ret
            exact ⟨ret_bool HF.out.symm, hb1⟩
      · by_cases hok : 0 ≤ n ∧ n ≤ 7
        · obtain ⟨ho1, ho2⟩ := hok
          go_wp2
          go_roundw
          case rel => exact Hstep.out (by simp [fitB, regB]; omega)
          case measure => rw [Hmu.out, Hmu2.out]; omega
        · have HF := hide (HT.out (by simp [fitB, regB]; omega))
          by_cases h0 : 0 ≤ n
          · have h1 : ¬ n ≤ 7 := by omega
            go_wp2
            go_ret
            exact ⟨ret_bool HF.out.symm, hb1⟩
          · go_wp2
            go_ret
            exact ⟨ret_bool HF.out.symm, hb1⟩
    · obtain rfl : k = 3 := by omega
      have hnext : ∀ ty, (Instr.next (.pointer (some ⟨w.heap.size + 2, 0, none⟩)) true ty).run Try.prog wr = _ := fun ty => Lib.run_next_end_at wr (w.heap.size + 2) ⟨#[x, y, z]⟩ 3 ty hi (Nat.lt_irrefl _)
      have f0 : fitB x a len = true := hf 0 (by decide)
      have f1 : fitB y b len = true := hf 1 (by decide)
      have f2 : fitB z c len = true := hf 2 (by decide)
      have HF := hide (show (fitB x a len && (fitB y b len && fitB z c len)) = true by rw [f0, f1, f2]; rfl)
      clear hi hf f0 f1 f2
      go_wp2
      go_ret
      exact ⟨ret_bool HF.out.symm, hb⟩
theorem ins_any (op a b c len : Int) (w : World) : Calls Try.prog 113 #[.agg #[.int .i64 op, .int .i64 a, .int .i64 b, .int .i64 c], .int .i64 len] w fun e w' => e = .returned (.bool (insB op a b c len)) ∧ Below w.heap.size w w' := by
  by_cases h : isOp op
  · exact ins_some op a b c len w h
  · exact ins_none op a b c len w h
end Go.Proofs.Ytpfcmfannkbipaa
end
