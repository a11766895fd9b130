/- What is read item by item: what lies where behind each, plainly. No condition. -/
import Derived.Test.YtegegljpmelomaaMioR
set_option linter.unusedVariables false
set_option maxRecDepth 20000
namespace Go.Proofs.Ytegegljpmelomaa
open Go.RowKit Go.Deep

/-- What is well of an item stays so. -/
structure Keep {α : Type} (e : TypeId) (size : Nat) (enc : α → List Value) (ok : World → Nat → α → Prop) : Prop where
  g : ∀ {w w' : World} {B g : Nat} {x : α}, ok w B x → w.grownBy w' (some g) → g < B → ok w' B x
  low : ∀ {w : World} {B N : Nat} {x : α}, ok w B x → N ≤ B → ok w N x
  app : ∀ {w w' : World} {B : Nat} {x : α} {v : Value} {L : List α}, ok w B x → OwnR e size enc w B v L → w.grownBy w' v.ownBlock → ok w' B x
def OneRd {α β : Type} (val : α → Value) (ok : World → Nat → α → Prop) (con : α → β) (p : List Nat → Mio.Rd β) (w : World) (g : Nat) (s : ByteArray) (st : RSt) (e : Ending) (w' : World) : Prop :=
  ∃ x : α, e = .returned (val x) ∧ ok w' w.heap.size x ∧ w.grownBy w' (some g) ∧ RdAt w' g s (aft (goR st p)) ∧ ∀ y r, goR st p = .ok (y, r) → con x = y
def ItemsRd {α β : Type} (t : TypeId) (size : Nat) (enc : α → List Value) (ok : World → Nat → α → Prop) (con : α → β) (p : List Nat → Mio.Rd β) (w : World) (g : Nat) (s : ByteArray) (st : RSt) (e : Ending) (w' : World) : Prop :=
  ∃ out : Sl α, e = .returned out.val ∧ OwnR t size enc w' w.heap.size out.val out.L ∧ (∀ x ∈ out.L, ok w' w.heap.size x) ∧ w.grownBy w' (some g) ∧ RdAt w' g s (aft (goR st (Mio.pL p))) ∧ ∀ y r, goR st (Mio.pL p) = .ok (y, r) → out.L.map con = y
/-- Ahead of the first item. -/
def Start {β : Type} (p : List Nat → Mio.Rd β) (n : Int) (T : Mio.Rd (List β)) (st : RSt) : Prop := match st with
  | .ok ws => 0 ≤ n ∧ n ≤ 48 ∧ Mio.pN p n.toNat ws = T
  | .error e => T = .error e
def ItStart {β : Type} (p : List Nat → Mio.Rd β) (w : World) (g : Nat) (s : ByteArray) (n : Int) (T : Mio.Rd (List β)) (wx : World) : Prop := ∃ st : RSt, w.grownBy wx (some g) ∧ RdAt wx g s st ∧ Start p n T st
def Going {α β : Type} (con : α → β) (p : List Nat → Mio.Rd β) (n : Int) (T : Mio.Rd (List β)) (k : Nat) (L : List α) (st : RSt) : Prop := match st with
  | .ok ws => 0 ≤ n ∧ n ≤ 48 ∧ k ≤ n.toNat ∧ Mio.andThen (L.map con) (Mio.pN p (n.toNat - k) ws) = T
  | .error e => T = .error e
def ItRel {α β : Type} (t : TypeId) (size : Nat) (enc : α → List Value) (ok : World → Nat → α → Prop) (con : α → β) (p : List Nat → Mio.Rd β) (w : World) (g : Nat) (s : ByteArray) (n : Int) (T : Mio.Rd (List β)) (o i : Value) (wr : World) : Prop :=
  ∃ (k : Nat) (out : Sl α) (st : RSt), i = .int .i64 k ∧ o = out.val ∧ OwnR t size enc wr w.heap.size out.val out.L ∧ (∀ x ∈ out.L, ok wr w.heap.size x) ∧ out.L.length ≤ k ∧ k ≤ 48 ∧ w.grownBy wr (some g) ∧ RdAt wr g s st ∧ Going con p n T k out.L st
section
variable {α β : Type} {t : TypeId} {size : Nat} {enc : α → List Value} {ok : World → Nat → α → Prop} {con : α → β} {p : List Nat → Mio.Rd β} {w wr w1 w3 : World} {g : Nat} {s : ByteArray} {n : Int} {T : Mio.Rd (List β)} {st : RSt} {k : Nat}
theorem it_first {wx : World} (h : ItStart p w g s n T wx) : ItRel t size enc ok con p w g s n T (.slice none 0 0) (.int .i64 0) wx := by
  obtain ⟨st, h1, h2, h3⟩ := h
  refine ⟨0, ⟨none, 0, []⟩, st, rfl, rfl, OwnR.nil, (fun x hx => by cases hx), Nat.le_refl _, by decide, h1, h2, ?_⟩
  cases st with
  | error e => exact h3
  | ok ws => exact ⟨h3.1, h3.2.1, Nat.zero_le _, by rw [List.map_nil, Mio.items_start, Nat.sub_zero]; exact h3.2.2⟩
/-- One more. -/
theorem it_next (K : Keep t size enc ok) {out : Sl α} {ws : List Nat} {x : α} {v' : Value} (hg : g < w.heap.size)
    (ho : OwnR t size enc wr w.heap.size out.val out.L) (hok : ∀ x ∈ out.L, ok wr w.heap.size x) (hl : out.L.length ≤ k) (hw : w.grownBy wr (some g)) (hG : Going con p n T k out.L (.ok ws)) (hlt : (k : Int) < n)
    (hx : ok w1 wr.heap.size x) (hw1 : wr.grownBy w1 (some g)) (hrd : RdAt w1 g s (aft (goR (.ok ws) p))) (hcon : ∀ y r, goR (.ok ws) p = .ok (y, r) → con x = y)
    (ho3 : OwnR t size enc w3 w.heap.size v' (out.L ++ [x])) (hx3 : GExt w1 w3 out.val v') : ItRel t size enc ok con p w g s n T v' (.int .i64 (k + 1)) w3 := by
  obtain ⟨o3, hv3, hL3, _, _⟩ := ho3.form
  subst hv3
  have ho1 := ho.keepg hw1 hg
  have hB : ∀ i, out.val.ownBlock = some i → w.heap.size ≤ i := fun i hi => ho.base i hi
  obtain ⟨z1, z2, z3, z4⟩ := hG
  refine ⟨k + 1, o3, aft (goR (.ok ws) p), by go_num, rfl, by rw [hL3]; exact ho3, ?_, by rw [hL3]; simp; omega, by omega, grown_row (grown_trans_g hw hw1) hx3.1 hB, hrd.grown hx3.1 (fun e => ?_), ?_⟩
  · rw [hL3]
    intro y hy
    rcases List.mem_append.1 hy with hy | hy
    · exact K.app (K.g (hok y hy) hw1 hg) ho1 hx3.1
    · rw [List.mem_singleton.1 hy]
      exact K.app (K.low hx hw.size) ho1 hx3.1
  · have := hB g e.symm
    omega
  · rw [hL3]
    show Going con p n T (k + 1) (out.L ++ [x]) (aft (p ws))
    have e1 : n.toNat - k = (n.toNat - (k + 1)) + 1 := by omega
    rw [e1] at z4
    cases hp : p ws with
    | error e =>
      rw [Mio.items_fall hp] at z4
      exact z4.symm
    | ok q =>
      obtain ⟨y, r⟩ := q
      have hc := hcon y r hp
      rw [Mio.items_step hp] at z4
      refine ⟨z1, z2, by omega, ?_⟩
      rw [List.map_append, List.map_cons, List.map_nil, hc]
      exact z4
/-- The end. -/
theorem it_end {out : Sl α} {st0 : RSt} (hT : T = goR st0 (Mio.pL p)) (ho : OwnR t size enc wr w.heap.size out.val out.L) (hok : ∀ x ∈ out.L, ok wr w.heap.size x) (hw : w.grownBy wr (some g)) (hrd : RdAt wr g s st) (hG : Going con p n T k out.L st)
    (hend : ∀ ws, st = .ok ws → ¬ (k : Int) < n) : ItemsRd t size enc ok con p w g s st0 (.returned out.val) wr := by
  cases st with
  | error e =>
    have hG' : goR st0 (Mio.pL p) = .error e := hT.symm.trans hG
    refine ⟨out, rfl, ho, hok, hw, ?_, fun y r h => ?_⟩
    · rw [hG']
      exact hrd
    · rw [hG'] at h
      cases h
  | ok ws =>
    obtain ⟨z1, z2, z3, z4⟩ := hG
    have := hend ws rfl
    have e0 : n.toNat - k = 0 := by omega
    rw [e0, Mio.items_end] at z4
    have hG' : goR st0 (Mio.pL p) = .ok (out.L.map con, ws) := hT.symm.trans z4.symm
    refine ⟨out, rfl, ho, hok, hw, ?_, fun y r h => ?_⟩
    · rw [hG']
      exact hrd
    · rw [hG'] at h
      have := Except.ok.inj h
      exact congrArg Prod.fst this
/-- What the number of items is good for. -/
theorem start_bad {e : Int} {st0 : RSt} (h : aft (goR st0 Mio.pI) = .error e) : goR st0 (Mio.pL p) = .error e := by
  cases st0 with
  | error d => cases h; rfl
  | ok ws =>
    show Mio.thenR (Mio.thenR (Mio.pI ws) _) _ = _
    have h' : aft (Mio.pI ws) = .error e := h
    cases hp : Mio.pI ws with
    | error d =>
      rw [hp] at h'
      cases h'
      rfl
    | ok q =>
      obtain ⟨y, r⟩ := q
      rw [hp] at h'
      cases h'
theorem start_good {ws : List Nat} {st0 : RSt} (h : aft (goR st0 Mio.pI) = .ok ws) (hn : ∀ y r, goR st0 Mio.pI = .ok (y, r) → n = y) : (n < 0 ∨ 48 < n → goR st0 (Mio.pL p) = .error 6) ∧ (¬ (n < 0 ∨ 48 < n) → goR st0 (Mio.pL p) = Mio.pN p n.toNat ws) := by
  cases st0 with
  | error d => cases h
  | ok vs =>
    have h' : aft (Mio.pI vs) = .ok ws := h
    cases hp : Mio.pI vs with
    | error d =>
      rw [hp] at h'
      cases h'
    | ok q =>
      obtain ⟨y, r⟩ := q
      rw [hp] at h'
      have e1 : n = y := hn y r hp
      have e2 : r = ws := by
        have := Except.ok.inj h'
        exact this
      subst e1 e2
      have e3 : goR (.ok vs) (Mio.pL p) = Mio.thenR (if n < 0 ∨ 48 < n then .error 6 else .ok (n.toNat, r)) fun m r => Mio.pN p m r := by
        show Mio.thenR (Mio.thenR (Mio.pI vs) _) _ = _
        rw [hp]
        rfl
      rw [e3]
      refine ⟨fun hc => ?_, fun hc => ?_⟩
      · rw [if_pos hc]
        rfl
      · rw [if_neg hc]
        rfl
end
end Go.Proofs.Ytegegljpmelomaa
