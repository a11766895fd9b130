/- A drawn statement whose operations first only read, then make memory or call in one of a few orders, and at last only read and make calls that change nothing, in whatever order: its reads are walked once, then each order of the making, then the rest in the text's order. No condition. -/
import Derived.Test.YtegegljpmelomaaTypC
import Derived.Test.YtegegljpmelomaaOrders
set_option linter.unusedVariables false
namespace Go.Proofs.Ytegegljpmelomaa
open Go

section
variable {P : Program} {ops : Array Oper} {md : Region.Mode} {Q : Exit → Act → World → Prop} {S : World → Prop}
/-- Each from m on but m itself waits for one ahead of it, from m on. -/
def tailW (md : Region.Mode) (ops : Array Oper) (m : Nat) : Bool :=
  (List.range (ops.size - m)).all fun d => decide (d = 0) || (List.range d).any fun e => Region.waitsFor md ops (m + d) (m + e)
/-- While one of the first m has not come up, none from m on may. -/
theorem lateW {m : Nat} (hs : sinkX md ops [] m = true) (hc : tailW md ops m = true) (hm : m < ops.size) {listed : Array Bool} (h : ShutUp md ops listed) :
    ∀ {i : Nat}, i < m → listed.getD i true = false → ∀ t, m ≤ t → t ∉ Region.ready md ops listed := by
  have stays : ∀ i j, listed.getD i true = false → Region.waitsFor md ops j i = true → listed.getD j false = false ∧ j ∉ Region.ready md ops listed := by
    intro i j hun hw
    obtain ⟨oj, hoj, e, he, hb, hon⟩ := Region.waitsFor_spec hw
    refine ⟨?_, fun hr => ?_⟩
    · cases hl : listed.getD j false with
      | false => rfl
      | true =>
        have h2 := h.closed j oj hoj hl e he hb
        rw [hon, getD_both hun] at h2
        cases h2
    · obtain ⟨_, oj', hoj', hall⟩ := mem_ready.1 hr
      obtain rfl : oj' = oj := Option.some.inj (hoj'.symm.trans hoj)
      have h2 := hall e he hb
      rw [hon, getD_both hun] at h2
      cases h2
  have atM : ∀ d i, m - i = d → i < m → listed.getD i true = false → listed.getD m false = false ∧ m ∉ Region.ready md ops listed := by
    intro d
    induction d using Nat.strongRecOn with
    | _ d ih =>
      intro i hd hi hun
      have h1 := List.all_eq_true.1 hs i (List.mem_range.2 hi)
      simp only [List.contains_nil, Bool.false_or] at h1
      obtain ⟨j, hj, hj2⟩ := List.any_eq_true.1 h1
      rw [Bool.and_eq_true, decide_eq_true_eq] at hj2
      have hjm : j ≤ m := Nat.le_of_lt_succ (List.mem_range.1 hj)
      have hw : Region.waitsFor md ops j i = true := by
        have := hj2.2
        simpa using this
      have h2 := stays i j hun hw
      by_cases e : j = m
      · subst e
        exact h2
      · exact ih (m - j) (by omega) j rfl (by omega) (getD_in (by rw [h.size]; omega) h2.1)
  intro i hi hun t ht
  obtain ⟨k1, k2⟩ := atM _ i rfl hi hun
  have up : ∀ d, m + d < ops.size → listed.getD (m + d) false = false ∧ m + d ∉ Region.ready md ops listed := by
    intro d
    induction d using Nat.strongRecOn with
    | _ d ih =>
      intro hd
      by_cases e0 : d = 0
      · subst e0
        exact ⟨k1, k2⟩
      · have h1 := List.all_eq_true.1 hc d (List.mem_range.2 (by omega))
        rw [Bool.or_eq_true, decide_eq_true_eq] at h1
        obtain ⟨e, he, hw⟩ := List.any_eq_true.1 (h1.resolve_left e0)
        have hed := List.mem_range.1 he
        exact stays (m + e) (m + d) (getD_in (by rw [h.size]; omega) (ih e hed (by omega)).1) hw
  intro hr
  have hts : t < ops.size := by
    obtain ⟨_, ot, hot, _⟩ := mem_ready.1 hr
    exact (Array.getElem?_eq_some_iff.1 hot).1
  obtain ⟨d, rfl⟩ := Nat.exists_eq_add_of_le ht
  exact (up d hts).2 hr
/-- Where the first m have come up, nothing is asked any more. -/
theorem anyTo_of_any {m : Nat} : ∀ (f : Nat) (listed : Array Bool) (a : Act) (w : World), (∀ i, i < m → listed.getD i true = true) → wpAny P md ops Q f listed a w → anyTo P md ops Q S [] m f listed a w
  | 0, _, _, _, _, h => h
  | f + 1, listed, a, w, hl, h => ⟨h.1, fun i hi => wpOp_mono (fun a' w' h' => by
      have hmi : ¬ i < m := fun hlt => by
        have h1 := hl i hlt
        rw [(mem_ready.1 hi).1] at h1
        cases h1
      refine ⟨fun hlt => absurd hlt hmi, anyTo_of_any f _ a' w' (fun j hj => ?_) h'⟩
      by_cases e : i = j
      · subst e
        exact absurd hj hmi
      · rw [getD_set_ne true e]
        exact hl j hj) (h.2 i hi)⟩
def seqSt (md : Region.Mode) (ops : Array Oper) (m g : Nat) : List Nat → Array Bool → Bool
  | [], listed => Region.lexFrom md ops g m listed && (List.range m).all fun i => listed.getD i true
  | b :: bs, listed => decide (Region.ready md ops listed = [b]) && (decide (b < ops.size) && seqSt md ops m g bs (listed.setIfInBounds b true))
theorem to_of_midCS {m : Nat} (hsel : Region.noSelect ops = true) (rest : List Oper) (hrest : ∀ j, rest[j]? = ops[m + j]?) : ∀ (bs : List Nat) (listed : Array Bool) (a : Act) (w : World),
    seqSt md ops m rest.length bs listed = true → wpMidC P ops S (fun a w => wpStill P ops w (fun b => Q .normal b w) rest a) (bs.filterMap fun i => ops[i]?) a w → anyTo P md ops Q S [] m (bs.length + rest.length) listed a w
  | [], listed, a, w, hB, h => by
    rw [List.length_nil, Nat.zero_add]
    simp only [seqSt, Bool.and_eq_true, List.all_eq_true] at hB
    refine anyTo_of_any _ _ _ _ (fun i hi => hB.2 i (List.mem_range.2 hi)) ?_
    exact wpAny_of_still (Q := fun b => Q .normal b w) (fun _ h => h) _ _ _ (wpAnyS_lex hsel rest m listed a hrest hB.1 h)
  | b :: bs, listed, a, w, hB, h => by
    simp only [seqSt, Bool.and_eq_true, decide_eq_true_eq] at hB
    have h0 : ops[b]? = some ops[b] := Array.getElem?_eq_getElem hB.2.1
    rw [List.length_cons, show bs.length + 1 + rest.length = (bs.length + rest.length) + 1 from by omega]
    rw [List.filterMap_cons, h0] at h
    refine ⟨fun h1 => (by rw [hB.1] at h1; cases h1), fun i hi => ?_⟩
    rw [hB.1] at hi
    obtain rfl : i = b := by simpa using hi
    obtain ⟨hw, hm⟩ := h
    unfold wpOp
    simp only [h0, hw, if_true]
    exact .inl (OpTo.wp hm fun v w' hk' => ⟨fun _ _ => hk'.1, to_of_midCS hsel rest hrest bs _ _ _ hB.2.2 hk'.2⟩)
def ordersStOk (md : Region.Mode) (ops : Array Oper) (m : Nat) (bs : List Nat) (g : Nat) : Nat → Array Bool → Bool
  | 0, listed => seqSt md ops m g bs listed
  | n + 1, listed => !(Region.ready md ops listed).isEmpty && (Region.ready md ops listed).all fun i => decide (i < m) && (decide (i < ops.size) && ordersStOk md ops m bs g n (listed.setIfInBounds i true))
theorem ordersSt_some {m : Nat} {bs : List Nat} {g : Nat} : ∀ (n : Nat) (listed : Array Bool), ordersStOk md ops m bs g n listed = true → ∃ l, l ∈ ordersOf md ops n listed
  | 0, listed, _ => ⟨[], by simp [ordersOf]⟩
  | n + 1, listed, h => by
    simp only [ordersStOk, Bool.and_eq_true, Bool.not_eq_true', List.all_eq_true] at h
    obtain ⟨h0, h1⟩ := h
    cases hr : Region.ready md ops listed with
    | nil => rw [hr] at h0; cases h0
    | cons i is =>
      have hi := h1 i (by rw [hr]; simp)
      obtain ⟨l, hl⟩ := ordersSt_some n _ hi.2.2
      refine ⟨i :: l, ?_⟩
      unfold ordersOf
      rw [List.mem_flatMap]
      exact ⟨i, by rw [hr]; simp, List.mem_map.2 ⟨l, hl, rfl⟩⟩
theorem to_of_ordersS {m : Nat} (hsel : Region.noSelect ops = true) (bs : List Nat) (rest : List Oper) (hrest : ∀ j, rest[j]? = ops[m + j]?) : ∀ (n : Nat) (listed : Array Bool) (a : Act) (w : World), ordersStOk md ops m bs rest.length n listed = true →
    (∀ l ∈ ordersOf md ops n listed, wpMid P ops S (fun a w => wpMidC P ops S (fun a w => wpStill P ops w (fun b => Q .normal b w) rest a) (bs.filterMap fun i => ops[i]?) a w) (l.filterMap fun i => ops[i]?) a w) → anyTo P md ops Q S [] m (n + (bs.length + rest.length)) listed a w
  | 0, listed, a, w, hB, h => by
    rw [Nat.zero_add]
    exact to_of_midCS hsel rest hrest bs listed a w hB (h [] (by simp [ordersOf]))
  | n + 1, listed, a, w, hB, h => by
    simp only [ordersStOk, Bool.and_eq_true, Bool.not_eq_true', List.all_eq_true, decide_eq_true_eq] at hB
    rw [show n + 1 + (bs.length + rest.length) = (n + (bs.length + rest.length)) + 1 from by omega]
    refine ⟨fun h1 => (by rw [h1] at hB; cases hB.1), fun i hi => ?_⟩
    obtain ⟨him, hisz, hok⟩ := hB.2 i hi
    have ho : ops[i]? = some ops[i] := Array.getElem?_eq_getElem hisz
    have step : ∀ l ∈ ordersOf md ops n (listed.setIfInBounds i true), wpMid P ops S (fun a w => wpMidC P ops S (fun a w => wpStill P ops w (fun b => Q .normal b w) rest a) (bs.filterMap fun i => ops[i]?) a w) (ops[i] :: l.filterMap fun i => ops[i]?) a w := by
      intro l hl
      have := h (i :: l) (by
        unfold ordersOf
        rw [List.mem_flatMap]
        exact ⟨i, hi, List.mem_map.2 ⟨l, hl, rfl⟩⟩)
      rwa [List.filterMap_cons, ho] at this
    obtain ⟨l0, hl0⟩ := ordersSt_some n _ hok
    obtain ⟨hw, v, w1, hr, hs, _⟩ := step l0 hl0
    unfold wpOp
    simp only [ho, hw, if_true]
    refine .inl ?_
    unfold Oper.wp
    rw [hr, Oper.upon_value]
    refine ⟨fun _ _ => hs, to_of_ordersS hsel bs rest hrest n _ _ _ hok fun l hl => ?_⟩
    obtain ⟨_, v', w1', hr', _, hm⟩ := step l hl
    rw [hr] at hr'
    injection hr' with e1 e2
    injection e1 with e1
    subst e1 e2
    exact hm
theorem to_takesW {m f : Nat} {w : World} {K : Act → Prop} (hsel : Region.noSelect ops = true) (hs : sinkX md ops [] m = true) (hc : tailW md ops m = true) (hm : m < ops.size) (hSw : S w) :
    ∀ (is : List Nat) (listed : Array Bool) (a : Act), ShutUp md ops listed → takesTo md ops m is listed = true → (∀ a', K a' → anyTo P md ops Q S [] m f (takenAll is listed) a' w) → wpHead P ops Q S K (is.filterMap fun i => ops[i]?) a → anyTo P md ops Q S [] m (is.length + f) listed a w
  | [], listed, a, _, _, hK, h => by
    rw [List.length_nil, Nat.zero_add]
    exact hK a h
  | i :: is, listed, a, inv, hB, hK, h => by
    simp only [takesTo, Bool.and_eq_true, decide_eq_true_eq] at hB
    obtain ⟨him, hisz, hfr, hrd, hB⟩ := hB
    have ho : ops[i]? = some ops[i] := Array.getElem?_eq_getElem hisz
    rw [List.filterMap_cons, ho] at h
    obtain ⟨v, hy, hQ, hk⟩ := h
    have hr : i ∈ Region.ready md ops listed := by simpa using hrd
    rw [List.length_cons, show is.length + 1 + f = (is.length + f) + 1 from by omega]
    refine anyTo_first (T := S) (I := fun _ => True) ho hsel hQ (fun _ _ _ => trivial) (fun _ h _ _ => h) (fun listed inv' _ hun j hj w' hw' => ?_) (is.length + f) listed a w inv trivial (Region.free_spec ho hfr) hr hy hSw ?_
    · exact hw' (Nat.lt_of_not_le fun hle => lateW hs hc hm inv' him hun j hle hj) (by simp)
    · exact to_takesW hsel hs hc hm hSw is _ _ (inv.set hr) hB hK hk
/-- The check, for the kernel. -/
def ordSB (md : Region.Mode) (ops : Array Oper) (is : List Nat) (m n : Nat) (os : List (List Nat)) (bs : List Nat) : Bool :=
  Region.noSelect ops && (decide (m < ops.size) && (decide (is.length + (n + (bs.length + (ops.size - m))) = ops.size) && (sinkX md ops [] m && (tailW md ops m && (takesTo md ops m is (Array.replicate ops.size false) &&
    (ordersStOk md ops m bs (ops.size - m) n (takenAll is (Array.replicate ops.size false)) && decide (ordersOf md ops n (takenAll is (Array.replicate ops.size false)) = os)))))))
/-- THE LAW: the operations 'is' only read; n operations make memory, in one of the orders os; then those of bs call or make memory, in that order alone; from m on all only read, and call what changes nothing. -/
theorem wp_region_orders_still {id : Nat} {a : Act} {w : World} {l : List Oper} (S : World → Prop) (is : List Nat) (m n : Nat) (os : List (List Nat)) (bs : List Nat) (hf : P.follows .mixedOrders = true) (hB : ordSB .any l.toArray is m n os bs = true) (hS : S w.drew)
    (h : wpHead P l.toArray Q S (fun a' => ∀ o ∈ os, wpMid P l.toArray S (fun a w => wpMidC P l.toArray S (fun a w => wpStill P l.toArray w (fun b => Q .normal b w) (l.drop m) a) (bs.filterMap fun i => l[i]?) a w) (o.filterMap fun i => l[i]?) a' w.drew) (is.filterMap fun i => l[i]?) a) : (Code.region id l.toArray true).wp P Q a w := by
  simp only [ordSB, Bool.and_eq_true, decide_eq_true_eq] at hB
  obtain ⟨hsel, hm, hsz, hs, hc, ht, hok, hos⟩ := hB
  have inv0 : ShutUp .any l.toArray (Array.replicate l.toArray.size false) := ⟨by simp, fun j oj _ hl => (by rw [getD_replicate_false] at hl; cases hl)⟩
  have hlen : (l.drop m).length = l.toArray.size - m := by rw [List.length_drop]; simp
  suffices key : ∀ F, F = is.length + (n + (bs.length + (l.drop m).length)) → anyTo P .any l.toArray Q S [] m F (Array.replicate l.toArray.size false) a w.drew from
    wp_region_any hf (any_of_anyTo (S := S) (ex := []) (m := m) _ _ _ _ (key _ (by rw [hlen]; exact hsz.symm)))
  rintro _ rfl
  refine to_takesW hsel hs hc hm hS is _ a inv0 ht (fun a' hK => ?_) (by simpa using h)
  subst hos
  refine to_of_ordersS hsel bs (l.drop m) (fun j => by rw [List.getElem?_drop, List.getElem?_toArray]) n _ a' w.drew (by rw [hlen]; exact hok) fun o ho => ?_
  have := hK o ho
  simpa using this
end
end Go.Proofs.Ytegegljpmelomaa
