/- A region that draws its order, its operations leaving the world in a class of the prover's own: one walk of the text's order. No condition. -/
import Derived.Test.YtegegljpmelomaaBase
set_option linter.unusedVariables false
namespace Go.Proofs.Ytegegljpmelomaa
open Go.RowKit Go.Deep

/-- A world that meets p. -/
structure Wo (p : World → Prop) where
  W : World
  ok : p W
theorem wp_region_quietC {P : Program} {p : World → Prop} {id : Nat} {Q : Exit → Act → World → Prop} {a : Act} {w : World} {l : List Oper} (hm : P.follows .mixedOrders = true) (hB : Region.lexB .any l.toArray = true) (hp : p w.drew)
    (h : wpQuiet P l.toArray (fun w' => ∃ i : Wo p, w' = i.W) (fun a' => ∀ w', (∃ i : Wo p, w' = i.W) → Q .normal a' w') l a) : (Code.region id l.toArray true).wp P Q a w :=
  wp_region_quiet (C := fun w' => ∃ i : Wo p, w' = i.W) hm hB ⟨⟨w.drew, hp⟩, rfl⟩ (by simpa using h)
/-- p outlives calls that only make memory. -/
def Outlives (p : World → Prop) : Prop := ∀ W W', p W → Below W.heap.size W W' → p W'
theorem Calls.quietC {P : Program} {p : World → Prop} (hp : Outlives p) {f : FuncId} {args : Array Value} {i : Wo p} {v : Value} (h : Calls P f args i.W fun e w' => e = .returned v ∧ Below i.W.heap.size i.W w') :
    Calls P f args i.W fun e w'' => e = .returned v ∧ ∃ j : Wo p, w'' = j.W := h.mono fun e w' ⟨he, hb⟩ => ⟨he, ⟨w', hp _ _ i.ok hb⟩, rfl⟩
theorem Calls.quietC_same {P : Program} {p : World → Prop} {f : FuncId} {args : Array Value} {i : Wo p} {v : Value} (h : Calls P f args i.W fun e w' => e = .returned v ∧ i.W = w') :
    Calls P f args i.W fun e w'' => e = .returned v ∧ ∃ j : Wo p, w'' = j.W := h.mono fun e w' ⟨he, hb⟩ => ⟨he, i, hb.symm⟩
/-- A law's class: behind the world at first, its arguments' boxes as they are. -/
theorem Outlives.below (w : World) : Outlives (fun W => Below w.heap.size w W) := fun _ _ h hb => below_after h hb
theorem Outlives.blk (g : Nat) (t : TypeId) (cs : Array Value) : Outlives (fun W => Blk W g t cs) := fun _ _ h hb => h.below hb h.lt
theorem Outlives.and {p q : World → Prop} (hp : Outlives p) (hq : Outlives q) : Outlives (fun W => p W ∧ q W) := fun W W' h hb => ⟨hp W W' h.1 hb, hq W W' h.2 hb⟩
/-- Worlds behind w in which boxes are as they were. -/
def BoxC (w : World) (bs : List (Nat × TypeId × Array Value)) (W : World) : Prop := Below w.heap.size w W ∧ ∀ b ∈ bs, Blk W b.1 b.2.1 b.2.2
theorem BoxC.out (w : World) (bs : List (Nat × TypeId × Array Value)) : Outlives (BoxC w bs) := fun _ _ h hb => ⟨below_after h.1 hb, fun b hm => (h.2 b hm).below hb (h.2 b hm).lt⟩
theorem BoxC.hidden (w : World) (bs : List (Nat × TypeId × Array Value)) (W0 : World) (h : BoxC w bs W0) :
    ∃ p : World → Prop, Outlives p ∧ p W0 ∧ Nonempty (Wo p) ∧ (∀ i : Wo p, BoxC w bs i.W) := ⟨BoxC w bs, BoxC.out w bs, h, ⟨⟨W0, h⟩⟩, fun i => i.ok⟩
theorem BoxC.one (w W : World) (g : Nat) (t : TypeId) (cs : Array Value) (hb : Below w.heap.size w W) (h : Blk W g t cs) : BoxC w [(g, t, cs)] W.drew := ⟨hb.drew, fun b hm => by
  have e : b = (g, t, cs) := by simpa using hm
  subst e
  exact h.drew⟩
end Go.Proofs.Ytegegljpmelomaa
