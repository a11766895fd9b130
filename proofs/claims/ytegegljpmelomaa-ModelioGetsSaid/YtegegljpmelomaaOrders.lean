/- A drawn statement whose operations first only read, then make memory in one of a few orders, and at last write in one order: its reads are walked once, then each order of the making. No condition. -/
import Derived.Test.YtegegljpmelomaaStill
set_option linter.unusedVariables false
namespace Go.Proofs.Ytegegljpmelomaa
open Go

section
variable {P : Program} {ops : Array Oper} {md : Region.Mode} {Q : Exit → Act → World → Prop} {S : World → Prop}
def ordersOf (md : Region.Mode) (ops : Array Oper) : Nat → Array Bool → List (List Nat)
  | 0, _ => [[]]
  | n + 1, listed => (Region.ready md ops listed).flatMap fun i => (ordersOf md ops n (listed.setIfInBounds i true)).map (i :: ·)
def ordersOk (md : Region.Mode) (ops : Array Oper) (m g : Nat) : Nat → Array Bool → Bool
  | 0, listed => Region.seqB md ops g m listed
  | n + 1, listed => !(Region.ready md ops listed).isEmpty && (Region.ready md ops listed).all fun i => decide (i < m) && (decide (i < ops.size) && ordersOk md ops m g n (listed.setIfInBounds i true))
theorem orders_some {m g : Nat} : ∀ (n : Nat) (listed : Array Bool), ordersOk md ops m g n listed = true → ∃ l, l ∈ ordersOf md ops n listed
  | 0, listed, _ => ⟨[], by simp [ordersOf]⟩
  | n + 1, listed, h => by
    simp only [ordersOk, Bool.and_eq_true, Bool.not_eq_true', List.all_eq_true] at h
    obtain ⟨h0, h1⟩ := h
    cases hr : Region.ready md ops listed with
    | nil => rw [hr] at h0; cases h0
    | cons i is =>
      have hi := h1 i (by rw [hr]; simp)
      obtain ⟨l, hl⟩ := orders_some n _ hi.2.2
      refine ⟨i :: l, ?_⟩
      unfold ordersOf
      rw [List.mem_flatMap]
      exact ⟨i, by rw [hr]; simp, List.mem_map.2 ⟨l, hl, rfl⟩⟩
theorem to_of_orders {m : Nat} (rest : List Oper) (hrest : ∀ j, rest[j]? = ops[m + j]?) : ∀ (n : Nat) (listed : Array Bool) (a : Act) (w : World), ordersOk md ops m rest.length n listed = true →
    (∀ l ∈ ordersOf md ops n listed, wpMid P ops S (wpList P ops Q rest) (l.filterMap fun i => ops[i]?) a w) → anyTo P md ops Q S [] m (n + rest.length) listed a w
  | 0, listed, a, w, hB, h => by
    rw [Nat.zero_add]
    exact to_of_list rest m listed a w (Nat.le_refl _) hrest hB (h [] (by simp [ordersOf]))
  | n + 1, listed, a, w, hB, h => by
    simp only [ordersOk, Bool.and_eq_true, Bool.not_eq_true', List.all_eq_true, decide_eq_true_eq] at hB
    rw [show n + 1 + rest.length = (n + rest.length) + 1 from by omega]
    refine ⟨fun h1 => (by rw [h1] at hB; cases hB.1), fun i hi => ?_⟩
    obtain ⟨him, hisz, hok⟩ := hB.2 i hi
    have ho : ops[i]? = some ops[i] := Array.getElem?_eq_getElem hisz
    have step : ∀ l ∈ ordersOf md ops n (listed.setIfInBounds i true), wpMid P ops S (wpList P ops Q rest) (ops[i] :: l.filterMap fun i => ops[i]?) a w := by
      intro l hl
      have := h (i :: l) (by
        unfold ordersOf
        rw [List.mem_flatMap]
        exact ⟨i, hi, List.mem_map.2 ⟨l, hl, rfl⟩⟩)
      rwa [List.filterMap_cons, ho] at this
    obtain ⟨l0, hl0⟩ := orders_some n _ hok
    obtain ⟨hw, v, w1, hr, hs, _⟩ := step l0 hl0
    unfold wpOp
    simp only [ho, hw, if_true]
    refine .inl ?_
    unfold Oper.wp
    rw [hr, Oper.upon_value]
    refine ⟨fun _ _ => hs, to_of_orders rest hrest n _ _ _ hok fun l hl => ?_⟩
    obtain ⟨_, v', w1', hr', _, hm⟩ := step l hl
    rw [hr] at hr'
    injection hr' with e1 e2
    injection e1 with e1
    subst e1 e2
    exact hm
def takenAll : List Nat → Array Bool → Array Bool
  | [], listed => listed
  | i :: is, listed => takenAll is (listed.setIfInBounds i true)
def takesTo (md : Region.Mode) (ops : Array Oper) (m : Nat) : List Nat → Array Bool → Bool
  | [], _ => true
  | i :: is, listed => decide (i < m) && (decide (i < ops.size) && (Region.free md ops listed i && ((Region.ready md ops listed).contains i && takesTo md ops m is (listed.setIfInBounds i true))))
theorem to_takes {m f : Nat} {w : World} {K : Act → Prop} (hsel : Region.noSelect ops = true) (hs : sinkX md ops [] m = true) (hc : Region.chainB md ops m = true) (hm : m < ops.size) (hSw : S w) :
    ∀ (is : List Nat) (listed : Array Bool) (a : Act), ShutUp md ops listed → takesTo md ops m is listed = true → (∀ a', K a' → anyTo P md ops Q S [] m f (takenAll is listed) a' w) → wpHead P ops Q S K (is.filterMap fun i => ops[i]?) a → anyTo P md ops Q S [] m (is.length + f) listed a w
  | [], listed, a, _, _, hK, h => by
    rw [List.length_nil, Nat.zero_add]
    exact hK a h
  | i :: is, listed, a, inv, hB, hK, h => by
    simp only [takesTo, Bool.and_eq_true, decide_eq_true_eq] at hB
    obtain ⟨him, hisz, hfr, hrd, hB⟩ := hB
    have ho : ops[i]? = some ops[i] := Array.getElem?_eq_getElem hisz
    rw [List.filterMap_cons, ho] at h
    obtain ⟨v, hy, hQ, hk⟩ := h
    have hr : i ∈ Region.ready md ops listed := by simpa using hrd
    rw [List.length_cons, show is.length + 1 + f = (is.length + f) + 1 from by omega]
    refine anyTo_first (T := S) (I := fun _ => True) ho hsel hQ (fun _ _ _ => trivial) (fun _ h _ _ => h) (fun listed inv' _ hun j hj w' hw' => ?_) (is.length + f) listed a w inv trivial (Region.free_spec ho hfr) hr hy hSw ?_
    · exact hw' (Nat.lt_of_not_le fun hle => late hs hc hm inv' him (by simp) hun j hle hj) (by simp)
    · exact to_takes hsel hs hc hm hSw is _ _ (inv.set hr) hB hK hk
/-- The check, for the kernel. -/
def ordB (md : Region.Mode) (ops : Array Oper) (is : List Nat) (m n : Nat) (os : List (List Nat)) : Bool :=
  Region.noSelect ops && (decide (m < ops.size) && (decide (is.length + (n + (ops.size - m)) = ops.size) && (sinkX md ops [] m && (Region.chainB md ops m && (takesTo md ops m is (Array.replicate ops.size false) &&
    (ordersOk md ops m (ops.size - m) n (takenAll is (Array.replicate ops.size false)) && decide (ordersOf md ops n (takenAll is (Array.replicate ops.size false)) = os)))))))
/-- THE LAW: the operations 'is' only read; n operations make memory, in one of the orders os; from m on there is one order. -/
theorem wp_region_orders {id : Nat} {a : Act} {w : World} {l : List Oper} (S : World → Prop) (is : List Nat) (m n : Nat) (os : List (List Nat)) (hf : P.follows .mixedOrders = true) (hB : ordB .any l.toArray is m n os = true) (hS : S w.drew)
    (h : wpHead P l.toArray Q S (fun a' => ∀ o ∈ os, wpMid P l.toArray S (wpList P l.toArray Q (l.drop m)) (o.filterMap fun i => l[i]?) a' w.drew) (is.filterMap fun i => l[i]?) a) : (Code.region id l.toArray true).wp P Q a w := by
  simp only [ordB, Bool.and_eq_true, decide_eq_true_eq] at hB
  obtain ⟨hsel, hm, hsz, hs, hc, ht, hok, hos⟩ := hB
  have inv0 : ShutUp .any l.toArray (Array.replicate l.toArray.size false) := ⟨by simp, fun j oj _ hl => (by rw [getD_replicate_false] at hl; cases hl)⟩
  have hlen : (l.drop m).length = l.toArray.size - m := by rw [List.length_drop]; simp
  suffices key : ∀ F, F = is.length + (n + (l.drop m).length) → anyTo P .any l.toArray Q S [] m F (Array.replicate l.toArray.size false) a w.drew from
    wp_region_any hf (any_of_anyTo (S := S) (ex := []) (m := m) _ _ _ _ (key _ (by rw [hlen]; exact hsz.symm)))
  rintro _ rfl
  refine to_takes hsel hs hc hm hS is _ a inv0 ht (fun a' hK => ?_) (by simpa using h)
  subst hos
  refine to_of_orders (l.drop m) (fun j => by rw [List.getElem?_drop, List.getElem?_toArray]) n _ a' w.drew (by rw [hlen]; exact hok) fun o ho => ?_
  have := hK o ho
  simpa using this
end
end Go.Proofs.Ytegegljpmelomaa
