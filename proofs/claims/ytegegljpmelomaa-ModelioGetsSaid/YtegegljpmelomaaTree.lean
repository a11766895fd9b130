/- A drawn statement whose operations first only read, and then go one by one, in whatever orders there are: its reads are walked once, then each order by hand. No condition. -/
import Derived.Test.YtegegljpmelomaaOrdSt
set_option linter.unusedVariables false
namespace Go.Proofs.Ytegegljpmelomaa
open Go

section
variable {P : Program} {ops : Array Oper} {md : Region.Mode} {Q : Exit → Act → World → Prop} {S : World → Prop}
/-- The check, for the kernel. -/
def treeB (md : Region.Mode) (ops : Array Oper) (is : List Nat) (m f : Nat) : Bool :=
  Region.noSelect ops && (decide (m < ops.size) && (decide (is.length + f = ops.size) && (sinkX md ops [] m && (tailW md ops m && takesTo md ops m is (Array.replicate ops.size false)))))
/-- THE LAW: the operations 'is' only read; all others then go in any order. -/
theorem wp_region_tree {id : Nat} {a : Act} {w : World} {l : List Oper} (S : World → Prop) (is : List Nat) (m f : Nat) (hf : P.follows .mixedOrders = true) (hB : treeB .any l.toArray is m f = true) (hS : S w.drew)
    (h : wpHead P l.toArray Q S (fun a' => anyTo P .any l.toArray Q S [] m f (takenAll is (Array.replicate l.toArray.size false)) a' w.drew) (is.filterMap fun i => l[i]?) a) : (Code.region id l.toArray true).wp P Q a w := by
  simp only [treeB, Bool.and_eq_true, decide_eq_true_eq] at hB
  obtain ⟨hsel, hm, hsz, hs, hc, ht⟩ := hB
  have inv0 : ShutUp .any l.toArray (Array.replicate l.toArray.size false) := ⟨by simp, fun j oj _ hl => (by rw [getD_replicate_false] at hl; cases hl)⟩
  suffices key : ∀ F, F = is.length + f → anyTo P .any l.toArray Q S [] m F (Array.replicate l.toArray.size false) a w.drew from
    wp_region_any hf (any_of_anyTo (S := S) (ex := []) (m := m) _ _ _ _ (key _ hsz.symm))
  rintro _ rfl
  exact to_takesW hsel hs hc hm hS is _ a inv0 ht (fun a' hK => hK) (by simpa using h)
variable {m f : Nat} {listed : Array Bool} {a : Act} {w : World}
theorem tree_go {i : Nat} {o : Oper} (hi : ops[i]? = some o) (h : wpMidC P ops S (fun a w => anyTo P md ops Q S [] m f (listed.setIfInBounds i true) a w) [o] a w) : wpOp P ops Q i (fun a' w' => (i < m → ([] : List Nat).contains i = false → S w') ∧ anyTo P md ops Q S [] m f (listed.setIfInBounds i true) a' w') a w := by
  obtain ⟨hw, h⟩ := h
  unfold wpOp
  simp only [hi, hw, if_true]
  exact .inl (OpTo.wp h fun v w' hk => ⟨fun _ _ => hk.1, hk.2⟩)
theorem tree_one (i : Nat) {o : Oper} (hr : Region.ready md ops listed = [i]) (hi : ops[i]? = some o) (h : wpMidC P ops S (fun a w => anyTo P md ops Q S [] m f (listed.setIfInBounds i true) a w) [o] a w) : anyTo P md ops Q S [] m (f + 1) listed a w :=
  ⟨fun h1 => (by rw [hr] at h1; cases h1), fun j hj => by
    rw [hr] at hj
    obtain rfl : j = i := by simpa using hj
    exact tree_go hi h⟩
theorem tree_two (i j : Nat) {o p : Oper} (hr : Region.ready md ops listed = [i, j]) (hi : ops[i]? = some o) (hj : ops[j]? = some p) (h : wpMidC P ops S (fun a w => anyTo P md ops Q S [] m f (listed.setIfInBounds i true) a w) [o] a w)
    (h2 : wpMidC P ops S (fun a w => anyTo P md ops Q S [] m f (listed.setIfInBounds j true) a w) [p] a w) : anyTo P md ops Q S [] m (f + 1) listed a w :=
  ⟨fun h1 => (by rw [hr] at h1; cases h1), fun k hk => by
    rw [hr] at hk
    rcases List.mem_cons.1 hk with rfl | hk
    · exact tree_go hi h
    · obtain rfl : k = j := by simpa using hk
      exact tree_go hj h2⟩
/-- From here on there is one order. -/
theorem tree_list (rest : List Oper) (k : Nat) (hmk : m ≤ k) (hk : ops.toList.drop k = rest) (hB : Region.seqB md ops rest.length k listed = true) (hfl : f = rest.length) (h : wpList P ops Q rest a w) : anyTo P md ops Q S [] m f listed a w := by
  subst hfl
  exact to_of_list rest k listed a w hmk (fun j => by rw [← hk, List.getElem?_drop, Array.getElem?_toList]) hB h
def shutB (md : Region.Mode) (ops : Array Oper) (listed : Array Bool) : Bool :=
  decide (listed.size = ops.size) && (List.range ops.size).all fun j => match ops[j]? with
    | some oj => !listed.getD j false || oj.after.all fun e => !Region.binds md e || listed.getD e.on false
    | none => true
theorem shut_of {md : Region.Mode} {ops : Array Oper} {listed : Array Bool} (h : shutB md ops listed = true) : ShutUp md ops listed := by
  simp only [shutB, Bool.and_eq_true, decide_eq_true_eq, List.all_eq_true] at h
  refine ⟨h.1, fun j oj hj hl e he hb => ?_⟩
  have h1 := h.2 j (List.mem_range.2 (Array.getElem?_eq_some_iff.1 hj).1)
  simp only [hj, hl, Bool.not_true, Bool.false_or] at h1
  have h2 := Array.all_eq_true_iff_forall_mem.1 h1 e he
  rw [hb] at h2
  simpa using h2
def againB (md : Region.Mode) (ops : Array Oper) (m : Nat) (is : List Nat) (m' : Nat) (listed : Array Bool) : Bool :=
  Region.noSelect ops && (decide (m' < ops.size) && (shutB md ops listed && ((List.range m).all (fun i => listed.getD i true) && (sinkX md ops [] m' && (tailW md ops m' && takesTo md ops m' is listed)))))
/-- Once the first m have come up, others may be read first. -/
theorem tree_again (is : List Nat) (m' : Nat) (T : World → Prop) (hB : againB md ops m is m' listed = true) (hT : T w) (h : wpHead P ops Q T (fun a' => anyTo P md ops Q T [] m' f (takenAll is listed) a' w) (is.filterMap fun i => ops[i]?) a) : anyTo P md ops Q S [] m (is.length + f) listed a w := by
  simp only [againB, Bool.and_eq_true, decide_eq_true_eq, List.all_eq_true] at hB
  obtain ⟨hsel, hm, hsh, hall, hs, hc, ht⟩ := hB
  refine anyTo_of_any _ _ _ _ (fun i hi => hall i (List.mem_range.2 hi)) (any_of_anyTo (S := T) (ex := []) (m := m') _ _ _ _ ?_)
  exact to_takesW hsel hs hc hm hT is _ a (shut_of hsh) ht (fun a' hK => hK) h
theorem to_of_listT {m : Nat} : ∀ (l : List Oper) (k : Nat) (listed : Array Bool) (a : Act) (w : World), (∀ j, l[j]? = ops[k + j]?) → Region.seqB md ops l.length k listed = true → wpList P ops Q l a w → anyTo P md ops Q (fun _ => True) [] m l.length listed a w
  | [], _, _, _, _, _, hB, h => ⟨by simpa [Region.seqB] using hB, h⟩
  | o :: l, k, listed, a, w, hl, hB, h => by
    have h0 : ops[k]? = some o := by simpa using (hl 0).symm
    simp only [List.length_cons, Region.seqB, Bool.and_eq_true, decide_eq_true_eq] at hB
    refine ⟨fun h1 => (by rw [hB.1] at h1; cases h1), fun i hi => ?_⟩
    rw [hB.1] at hi
    obtain rfl : i = k := by simpa using hi
    have hw : wpOp P ops Q i (wpList P ops Q l) a w := by unfold wpOp; simp only [h0]; exact h
    refine wpOp_mono (fun a' w' h' => ⟨fun _ _ => trivial, ?_⟩) hw
    refine to_of_listT l (i + 1) _ a' w' (fun j => ?_) hB.2 h'
    have := hl (j + 1)
    simpa [Nat.add_assoc, Nat.add_comm 1 j] using this
/-- From here on there is one order, and nothing need be kept. -/
theorem tree_rest (rest : List Oper) (k : Nat) (hk : ops.toList.drop k = rest) (hB : Region.seqB md ops rest.length k listed = true) (hfl : f = rest.length) (h : wpList P ops Q rest a w) : anyTo P md ops Q (fun _ => True) [] m f listed a w := by
  subst hfl
  exact to_of_listT rest k listed a w (fun j => by rw [← hk, List.getElem?_drop, Array.getElem?_toList]) hB h
/-! Some may be read first that do not wait for what others do. -/
theorem lateX {ex : List Nat} {m : Nat} (hs : sinkX md ops ex m = true) (hc : tailW md ops m = true) (hm : m < ops.size) {listed : Array Bool} (h : ShutUp md ops listed) :
    ∀ {i : Nat}, i < m → ex.contains i = false → listed.getD i true = false → ∀ t, m ≤ t → t ∉ Region.ready md ops listed := by
  have stays : ∀ i j, listed.getD i true = false → Region.waitsFor md ops j i = true → listed.getD j false = false ∧ j ∉ Region.ready md ops listed := by
    intro i j hun hw
    obtain ⟨oj, hoj, e, he, hb, hon⟩ := Region.waitsFor_spec hw
    refine ⟨?_, fun hr => ?_⟩
    · cases hl : listed.getD j false with
      | false => rfl
      | true =>
        have h2 := h.closed j oj hoj hl e he hb
        rw [hon, getD_both hun] at h2
        cases h2
    · obtain ⟨_, oj', hoj', hall⟩ := mem_ready.1 hr
      obtain rfl : oj' = oj := Option.some.inj (hoj'.symm.trans hoj)
      have h2 := hall e he hb
      rw [hon, getD_both hun] at h2
      cases h2
  have atM : ∀ d i, m - i = d → i < m → ex.contains i = false → listed.getD i true = false → listed.getD m false = false ∧ m ∉ Region.ready md ops listed := by
    intro d
    induction d using Nat.strongRecOn with
    | _ d ih =>
      intro i hd hi hex hun
      have h1 := List.all_eq_true.1 hs i (List.mem_range.2 hi)
      rw [hex, Bool.false_or] at h1
      obtain ⟨j, hj, hj2⟩ := List.any_eq_true.1 h1
      simp only [Bool.and_eq_true, decide_eq_true_eq, Bool.not_eq_true'] at hj2
      have hjm : j ≤ m := Nat.le_of_lt_succ (List.mem_range.1 hj)
      have h2 := stays i j hun hj2.2.2
      by_cases e : j = m
      · subst e
        exact h2
      · exact ih (m - j) (by omega) j rfl (by omega) hj2.2.1 (getD_in (by rw [h.size]; omega) h2.1)
  intro i hi hex hun t ht
  obtain ⟨k1, k2⟩ := atM _ i rfl hi hex hun
  have up : ∀ d, m + d < ops.size → listed.getD (m + d) false = false ∧ m + d ∉ Region.ready md ops listed := by
    intro d
    induction d using Nat.strongRecOn with
    | _ d ih =>
      intro hd
      by_cases e0 : d = 0
      · subst e0
        exact ⟨k1, k2⟩
      · have h1 := List.all_eq_true.1 hc d (List.mem_range.2 (by omega))
        rw [Bool.or_eq_true, decide_eq_true_eq] at h1
        obtain ⟨e, he, hw⟩ := List.any_eq_true.1 (h1.resolve_left e0)
        have hed := List.mem_range.1 he
        exact stays (m + e) (m + d) (getD_in (by rw [h.size]; omega) (ih e hed (by omega)).1) hw
  intro hr
  have hts : t < ops.size := by
    obtain ⟨_, ot, hot, _⟩ := mem_ready.1 hr
    exact (Array.getElem?_eq_some_iff.1 hot).1
  obtain ⟨d, rfl⟩ := Nat.exists_eq_add_of_le ht
  exact (up d hts).2 hr
theorem to_takesX {ex : List Nat} {m f : Nat} {w : World} {K : Act → Prop} (hsel : Region.noSelect ops = true) (hs : sinkX md ops ex m = true) (hc : tailW md ops m = true) (hm : m < ops.size) (hSw : S w) :
    ∀ (is : List Nat) (listed : Array Bool) (a : Act), (is.all fun i => !ex.contains i) = true → ShutUp md ops listed → takesTo md ops m is listed = true → (∀ a', K a' → anyTo P md ops Q S [] m f (takenAll is listed) a' w) → wpHead P ops Q S K (is.filterMap fun i => ops[i]?) a → anyTo P md ops Q S [] m (is.length + f) listed a w
  | [], listed, a, _, _, _, hK, h => by
    rw [List.length_nil, Nat.zero_add]
    exact hK a h
  | i :: is, listed, a, hex, inv, hB, hK, h => by
    simp only [takesTo, Bool.and_eq_true, decide_eq_true_eq] at hB
    simp only [List.all_cons, Bool.and_eq_true, Bool.not_eq_true'] at hex
    obtain ⟨him, hisz, hfr, hrd, hB⟩ := hB
    have ho : ops[i]? = some ops[i] := Array.getElem?_eq_getElem hisz
    rw [List.filterMap_cons, ho] at h
    obtain ⟨v, hy, hQ, hk⟩ := h
    have hr : i ∈ Region.ready md ops listed := by simpa using hrd
    rw [List.length_cons, show is.length + 1 + f = (is.length + f) + 1 from by omega]
    refine anyTo_first (T := S) (I := fun _ => True) ho hsel hQ (fun _ _ _ => trivial) (fun _ h _ _ => h) (fun listed inv' _ hun j hj w' hw' => ?_) (is.length + f) listed a w inv trivial (Region.free_spec ho hfr) hr hy hSw ?_
    · exact hw' (Nat.lt_of_not_le fun hle => lateX hs hc hm inv' him hex.1 hun j hle hj) (by simp)
    · exact to_takesX hsel hs hc hm hSw is _ _ hex.2 (inv.set hr) hB hK hk
theorem anyT_of_any {m : Nat} : ∀ (f : Nat) (listed : Array Bool) (a : Act) (w : World), wpAny P md ops Q f listed a w → anyTo P md ops Q (fun _ => True) [] m f listed a w
  | 0, _, _, _, h => h
  | f + 1, listed, a, w, h => ⟨h.1, fun i hi => wpOp_mono (fun a' w' h' => ⟨fun _ _ => trivial, anyT_of_any f _ a' w' h'⟩) (h.2 i hi)⟩
def takeB (md : Region.Mode) (ops : Array Oper) (ex is : List Nat) (m' : Nat) (listed : Array Bool) : Bool :=
  Region.noSelect ops && (decide (m' < ops.size) && (shutB md ops listed && (sinkX md ops ex m' && (tailW md ops m' && ((is.all fun i => !ex.contains i) && takesTo md ops m' is listed)))))
/-- Those of 'is' may be read next; nobody up to m' waits for those of ex. -/
theorem tree_take (ex is : List Nat) (m' : Nat) (T : World → Prop) (hB : takeB md ops ex is m' listed = true) (hT : T w) (h : wpHead P ops Q T (fun a' => anyTo P md ops Q T [] m' f (takenAll is listed) a' w) (is.filterMap fun i => ops[i]?) a) : anyTo P md ops Q (fun _ => True) [] m (is.length + f) listed a w := by
  simp only [takeB, Bool.and_eq_true, decide_eq_true_eq] at hB
  obtain ⟨hsel, hm, hsh, hs, hc, hex, ht⟩ := hB
  refine anyT_of_any _ _ _ _ (any_of_anyTo (S := T) (ex := []) (m := m') _ _ _ _ ?_)
  exact to_takesX hsel hs hc hm hT is _ a hex (shut_of hsh) ht (fun a' hK => hK) h
end
end Go.Proofs.Ytegegljpmelomaa
