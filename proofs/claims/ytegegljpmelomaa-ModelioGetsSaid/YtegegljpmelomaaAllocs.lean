/- Blocks made one behind the other, their contents in a list. No condition. -/
import Derived.Test.YtegegljpmelomaaBase
set_option linter.unusedVariables false
namespace Go.Proofs.Ytegegljpmelomaa
open Go.RowKit Go.Deep

def allocs (w : World) : List (Array Value × TypeId) → World
  | [] => w
  | x :: l => allocs (w.alloc (.cells x.1 x.2)) l
theorem allocs_size (l : List (Array Value × TypeId)) : ∀ w : World, (allocs w l).heap.size = w.heap.size + l.length := by
  induction l with
  | nil => intro w; rfl
  | cons x l ih =>
    intro w
    show (allocs (w.alloc (.cells x.1 x.2)) l).heap.size = _
    rw [ih]
    simp
    omega
theorem allocs_below (l : List (Array Value × TypeId)) : ∀ w : World, Below w.heap.size w (allocs w l) := by
  induction l with
  | nil => intro w; exact Below.refl _ _
  | cons x l ih =>
    intro w
    exact below_after ((Below.refl _ _).alloc (Nat.le_refl _) (.cells x.1 x.2)) (ih _)
theorem allocs_blk (l : List (Array Value × TypeId)) : ∀ (w : World) (i : Nat) (x : Array Value × TypeId), l[i]? = some x → Blk (allocs w l) (w.heap.size + i) x.2 x.1 := by
  induction l with
  | nil => intro w i x h; simp at h
  | cons y l ih =>
    intro w i x h
    rcases i with _ | i
    · have e : y = x := by simpa using h
      subst e
      exact (Blk.new w y.2 y.1).below (allocs_below l (w.alloc (.cells y.1 y.2))) (by simp)
    · have := ih (w.alloc (.cells y.1 y.2)) i x (by simpa using h)
      have e : (w.alloc (.cells y.1 y.2)).heap.size + i = w.heap.size + (i + 1) := by simp; omega
      rw [e] at this
      exact this
end Go.Proofs.Ytegegljpmelomaa
