/- A drawn statement whose operations first only read, then make memory, and at last write: its reads are walked in the text's order, though Go leaves it open whether some of them come behind the making. No condition. -/
import Derived.StillTail
import Derived.OrdersHeld
set_option linter.unusedVariables false
namespace Go.Proofs.Ytegegljpmelomaa
open Go

section
variable {P : Program} {ops : Array Oper} {md : Region.Mode} {Q : Exit → Act → World → Prop} {S : World → Prop}
/-- What has come up is closed under what it waits for. -/
structure ShutUp (md : Region.Mode) (ops : Array Oper) (listed : Array Bool) : Prop where
  size : listed.size = ops.size
  closed : ∀ j oj, ops[j]? = some oj → listed.getD j false = true → ∀ e ∈ oj.after, Region.binds md e = true → listed.getD e.on false = true
theorem ShutUp.set {i : Nat} {listed : Array Bool} (h : ShutUp md ops listed) (hi : i ∈ Region.ready md ops listed) : ShutUp md ops (listed.setIfInBounds i true) := by
  obtain ⟨_, oi, hoi, hall⟩ := mem_ready.1 hi
  refine ⟨by simp [h.size], fun j oj hj hl e he hb => ?_⟩
  by_cases e1 : i = j
  · subst e1
    obtain rfl : oj = oi := Option.some.inj (hj.symm.trans hoi)
    exact getD_set_true (hall e he hb)
  · rw [getD_set_ne false e1] at hl
    exact getD_set_true (h.closed j oj hj hl e he hb)
/-- Each of the first m, but those of ex, is waited for by one behind it, up to m, that is none of ex. -/
def sinkX (md : Region.Mode) (ops : Array Oper) (ex : List Nat) (m : Nat) : Bool :=
  (List.range m).all fun i => ex.contains i || (List.range (m + 1)).any fun j => decide (i < j) && (!ex.contains j && Region.waitsFor md ops j i)
/-- While one of the first m that is none of ex has not come up, none from m on may. -/
theorem late {ex : List Nat} {m : Nat} (hs : sinkX md ops ex m = true) (hc : Region.chainB md ops m = true) (hm : m < ops.size) {listed : Array Bool} (h : ShutUp md ops listed) :
    ∀ {i : Nat}, i < m → ex.contains i = false → listed.getD i true = false → ∀ t, m ≤ t → t ∉ Region.ready md ops listed := by
  -- what waits for one that has not come up has not come up, and may not
  have stays : ∀ i j, listed.getD i true = false → Region.waitsFor md ops j i = true → listed.getD j false = false ∧ j ∉ Region.ready md ops listed := by
    intro i j hun hw
    obtain ⟨oj, hoj, e, he, hb, hon⟩ := Region.waitsFor_spec hw
    refine ⟨?_, fun hr => ?_⟩
    · cases hl : listed.getD j false with
      | false => rfl
      | true =>
        have h2 := h.closed j oj hoj hl e he hb
        rw [hon, getD_both hun] at h2
        cases h2
    · obtain ⟨_, oj', hoj', hall⟩ := mem_ready.1 hr
      obtain rfl : oj' = oj := Option.some.inj (hoj'.symm.trans hoj)
      have h2 := hall e he hb
      rw [hon, getD_both hun] at h2
      cases h2
  have atM : ∀ d i, m - i = d → i < m → ex.contains i = false → listed.getD i true = false → listed.getD m false = false ∧ m ∉ Region.ready md ops listed := by
    intro d
    induction d using Nat.strongRecOn with
    | _ d ih =>
      intro i hd hi hx hun
      have h1 := List.all_eq_true.1 hs i (List.mem_range.2 hi)
      rw [hx, Bool.false_or] at h1
      obtain ⟨j, hj, hj2⟩ := List.any_eq_true.1 h1
      rw [Bool.and_eq_true, Bool.and_eq_true, decide_eq_true_eq, Bool.not_eq_true'] at hj2
      have hjm : j ≤ m := Nat.le_of_lt_succ (List.mem_range.1 hj)
      have h2 := stays i j hun hj2.2.2
      by_cases e : j = m
      · subst e
        exact h2
      · exact ih (m - j) (by omega) j rfl (by omega) hj2.2.1 (getD_in (by rw [h.size]; omega) h2.1)
  intro i hi hx hun t ht
  obtain ⟨k1, k2⟩ := atM _ i rfl hi hx hun
  have up : ∀ d, m + d < ops.size → listed.getD (m + d) false = false ∧ m + d ∉ Region.ready md ops listed := by
    intro d
    induction d with
    | zero => exact fun _ => ⟨k1, k2⟩
    | succ d ih =>
      intro hd
      have h1 := List.all_eq_true.1 hc (m + (d + 1)) (List.mem_range.2 hd)
      rw [Bool.or_eq_true, decide_eq_true_eq] at h1
      exact stays (m + d) (m + (d + 1)) (getD_in (by rw [h.size]; omega) (ih (by omega)).1) (h1.resolve_left (by omega))
  intro hr
  have hts : t < ops.size := by
    obtain ⟨_, ot, hot, _⟩ := mem_ready.1 hr
    exact (Array.getElem?_eq_some_iff.1 hot).1
  obtain ⟨d, rfl⟩ := Nat.exists_eq_add_of_le ht
  exact (up d hts).2 hr

/-- Whatever order is picked; S is shown anew behind each of the first m, but those of ex. -/
def anyTo (P : Program) (md : Region.Mode) (ops : Array Oper) (Q : Exit → Act → World → Prop) (S : World → Prop) (ex : List Nat) (m : Nat) : Nat → Array Bool → Act → World → Prop
  | 0, listed, a, w => Region.ready md ops listed = [] ∧ Q .normal a w
  | f + 1, listed, a, w => (Region.ready md ops listed = [] → Q .normal a w) ∧
    ∀ i ∈ Region.ready md ops listed, wpOp P ops Q i (fun a' w' => (i < m → ex.contains i = false → S w') ∧ anyTo P md ops Q S ex m f (listed.setIfInBounds i true) a' w') a w
theorem any_of_anyTo {ex : List Nat} {m : Nat} : ∀ (f : Nat) (listed : Array Bool) (a : Act) (w : World), anyTo P md ops Q S ex m f listed a w → wpAny P md ops Q f listed a w
  | 0, _, _, _, h => h
  | f + 1, _, _, _, h => ⟨h.1, fun i hi => wpOp_mono (fun a' w' h' => any_of_anyTo f _ a' w' h'.2) (h.2 i hi)⟩
/-- An operation may be taken first. T: what it asks of the world; I: what is kept of what has come up. -/
theorem anyTo_first {ex : List Nat} {m i : Nat} {oi : Oper} {v : Value} {T : World → Prop} {I : Array Bool → Prop} (hi : ops[i]? = some oi) (hsel : Region.noSelect ops = true) (hQ : ∀ c a w, Q (.panic c) (a.put oi.dst v) w → Q (.panic c) a w)
    (hI : ∀ listed j, I listed → I (listed.setIfInBounds j true)) (hD : ∀ w, T w → i < m → ex.contains i = false → S w)
    (hT : ∀ listed, ShutUp md ops listed → I listed → listed.getD i true = false → ∀ j ∈ Region.ready md ops listed, ∀ w', (j < m → ex.contains j = false → S w') → T w') : ∀ (f : Nat) (listed : Array Bool) (a : Act) (w : World), ShutUp md ops listed → I listed →
      (∀ j oj, ops[j]? = some oj → j ≠ i → listed.getD j true = false → (∀ e ∈ oj.after, Region.binds md e = true → e.on ≠ i) → oi.apart ops oj = true) →
      i ∈ Region.ready md ops listed → YieldsIf P ops T oi v a → T w → anyTo P md ops Q S ex m f (listed.setIfInBounds i true) (a.put oi.dst v) w → anyTo P md ops Q S ex m (f + 1) listed a w := by
  have sel := Region.noSelect_spec hsel
  intro f
  induction f with
  | zero =>
    intro listed a w inv hIl _ hr hy hTw H
    refine ⟨fun e => (by rw [e] at hr; cases hr), fun j hj => ?_⟩
    by_cases e : j = i
    · subst e
      exact hy.wpOp hi hTw ⟨hD w hTw, H⟩
    · have := ready_mono hj e
      rw [H.1] at this
      cases this
  | succ f ih =>
    intro listed a w inv hIl hfree hr hy hTw H
    have hun := (mem_ready.1 hr).1
    refine ⟨fun e => (by rw [e] at hr; cases hr), fun j hj => ?_⟩
    by_cases e : j = i
    · subst e
      exact hy.wpOp hi hTw ⟨hD w hTw, H⟩
    · obtain ⟨hjun, oj, hoj, hall⟩ := mem_ready.1 hj
      have hno : ∀ e ∈ oj.after, Region.binds md e = true → e.on ≠ i := by
        intro e he hb heq
        have h1 := hall e he hb
        rw [heq, getD_both hun] at h1
        cases h1
      have h1 := wpOp_putIf hoj (hfree j oj hoj e hjun hno) (fun cs b => sel i oi cs b hi) (fun cs b => sel j oj cs b hoj) hQ hy (H.2 j (ready_mono hj e))
      refine wpOp_mono (fun a' w' h2 => ⟨h2.2.1, ih (listed.setIfInBounds j true) a' w' (inv.set hj) (hI _ _ hIl) ?_ (ready_mono hr (Ne.symm e)) h2.1 (hT listed inv hIl hun j hj w' h2.2.1) ?_⟩) h1
      · intro k ok hk hki hkun hkno
        refine hfree k ok hk hki ?_ hkno
        by_cases ejk : j = k
        · subst ejk
          exact hjun
        · rwa [getD_set_ne true ejk] at hkun
      · rw [Array.setIfInBounds_comm _ _ e]
        exact h2.2.2

/-- The reads, in the text's order: each yields a value in every world that meets S (those of ex: in whatever world). -/
def wpHead (P : Program) (ops : Array Oper) (Q : Exit → Act → World → Prop) (S : World → Prop) (K : Act → Prop) : List Oper → Act → Prop
  | [], a => K a
  | o :: l, a => ∃ v, YieldsIf P ops S o v a ∧ (∀ c a w, Q (.panic c) (a.put o.dst v) w → Q (.panic c) a w) ∧ wpHead P ops Q S K l (a.put o.dst v)
/-- What makes memory, one behind the other, S shown anew behind each. -/
def wpMid (P : Program) (ops : Array Oper) (S : World → Prop) (K : Act → World → Prop) : List Oper → Act → World → Prop
  | [], a, w => K a w
  | o :: l, a, w => Region.wanted o (yielded ops a.tmps) = true ∧ ∃ v w1, (execOp a.eval o).run P w = .ok (.value v) w1 ∧ S w1 ∧ wpMid P ops S K l (a.put o.dst v) w1
theorem head_step {K : Act → Prop} {o : Oper} {l : List Oper} {a : Act} (v : Value) (h0 : Region.wanted o (yielded ops a.tmps) = true) (h : ∀ w, S w → (execOp a.eval o).run P w = .ok (.value v) w) (hQ : ∀ c a w, Q (.panic c) (a.put o.dst v) w → Q (.panic c) a w) (hk : wpHead P ops Q S K l (a.put o.dst v)) : wpHead P ops Q S K (o :: l) a :=
  ⟨v, .inl ⟨h0, h⟩, hQ, hk⟩
theorem head_nil {K : Act → Prop} {a : Act} (h : K a) : wpHead P ops Q S K [] a := h
theorem mid_step {K : Act → World → Prop} {o : Oper} {l : List Oper} {a : Act} {w : World} (v : Value) (w1 : World) (h0 : Region.wanted o (yielded ops a.tmps) = true) (h : (execOp a.eval o).run P w = .ok (.value v) w1) (hs : S w1) (hk : wpMid P ops S K l (a.put o.dst v) w1) : wpMid P ops S K (o :: l) a w :=
  ⟨h0, v, w1, h, hs, hk⟩
theorem mid_nil {K : Act → World → Prop} {a : Act} {w : World} (h : K a w) : wpMid P ops S K [] a w := h

theorem to_of_list {ex : List Nat} {m : Nat} : ∀ (l : List Oper) (k : Nat) (listed : Array Bool) (a : Act) (w : World), m ≤ k → (∀ j, l[j]? = ops[k + j]?) → Region.seqB md ops l.length k listed = true → wpList P ops Q l a w → anyTo P md ops Q S ex m l.length listed a w
  | [], _, _, _, _, _, _, hB, h => ⟨by simpa [Region.seqB] using hB, h⟩
  | o :: l, k, listed, a, w, hmk, hl, hB, h => by
    have h0 : ops[k]? = some o := by simpa using (hl 0).symm
    simp only [List.length_cons, Region.seqB, Bool.and_eq_true, decide_eq_true_eq] at hB
    refine ⟨fun h1 => (by rw [hB.1] at h1; cases h1), fun i hi => ?_⟩
    rw [hB.1] at hi
    obtain rfl : i = k := by simpa using hi
    have hw : wpOp P ops Q i (wpList P ops Q l) a w := by unfold wpOp; simp only [h0]; exact h
    refine wpOp_mono (fun a' w' h' => ⟨fun hlt => absurd hlt (by omega), ?_⟩) hw
    refine to_of_list l (i + 1) _ a' w' (by omega) (fun j => ?_) hB.2 h'
    have := hl (j + 1)
    simpa [Nat.add_assoc, Nat.add_comm 1 j] using this
theorem to_of_mid {ex : List Nat} {m g : Nat} (rest : List Oper) (hg : g = rest.length) (hrest : ∀ j, rest[j]? = ops[m + j]?) : ∀ (l : List Oper) (k : Nat) (listed : Array Bool) (a : Act) (w : World), k + l.length = m → (∀ j, j < l.length → l[j]? = ops[k + j]?) →
    Region.seqB md ops (l.length + g) k listed = true → wpMid P ops S (wpList P ops Q rest) l a w → anyTo P md ops Q S ex m (l.length + g) listed a w
  | [], k, listed, a, w, hk, _, hB, h => by
    obtain rfl : k = m := by simpa using hk
    rw [List.length_nil, Nat.zero_add] at hB ⊢
    rw [hg] at hB ⊢
    exact to_of_list rest k listed a w (Nat.le_refl _) hrest hB h
  | o :: l, k, listed, a, w, hk, hl, hB, h => by
    have h0 : ops[k]? = some o := by simpa using (hl 0 (by simp)).symm
    rw [List.length_cons, show l.length + 1 + g = (l.length + g) + 1 from by omega] at hB ⊢
    rw [List.length_cons] at hk
    simp only [Region.seqB, Bool.and_eq_true, decide_eq_true_eq] at hB
    refine ⟨fun h1 => (by rw [hB.1] at h1; cases h1), fun i hi => ?_⟩
    rw [hB.1] at hi
    obtain rfl : i = k := by simpa using hi
    obtain ⟨hw, v, w1, hr, hs, hm⟩ := h
    unfold wpOp
    simp only [h0, hw, if_true]
    refine .inl ?_
    unfold Oper.wp
    rw [hr, Oper.upon_value]
    refine ⟨fun _ _ => hs, to_of_mid rest hg hrest l (i + 1) _ _ _ (by omega) (fun j hj => ?_) hB.2 hm⟩
    have := hl (j + 1) (by rw [List.length_cons]; omega)
    simpa [Nat.add_assoc, Nat.add_comm 1 j] using this
/-- What is none of ex, behind those of ex. -/
theorem to_of_head {ex : List Nat} {m n g : Nat} {w : World} {K : Act → Prop} (hsel : Region.noSelect ops = true) (hs : sinkX md ops ex m = true) (hc : Region.chainB md ops m = true) (hm : m < ops.size) (hnm : n ≤ m) (hSw : S w)
    (hK : ∀ listed a, Region.seqB md ops g n listed = true → K a → anyTo P md ops Q S ex m g listed a w) :
    ∀ (l : List Oper) (k : Nat) (listed : Array Bool) (a : Act), (∀ j, j < l.length → l[j]? = ops[k + j]?) → k + l.length = n → (∀ j, k ≤ j → j < n → ex.contains j = false) → ShutUp md ops listed → (∀ x ∈ ex, listed.getD x true = true) →
    Region.lexHead md ops g l.length k listed = true → wpHead P ops Q S K l a → anyTo P md ops Q S ex m (l.length + g) listed a w := by
  intro l
  induction l with
  | nil =>
    intro k listed a _ hk _ _ _ hB h
    obtain rfl : k = n := by simpa using hk
    rw [List.length_nil, Nat.zero_add]
    exact hK listed a hB h
  | cons o l ih =>
    intro k listed a hl hk hx inv hex hB h
    have hok : ops[k]? = some o := by simpa using (hl 0 (by simp)).symm
    rw [List.length_cons, Region.lexHead, Bool.and_eq_true, Bool.and_eq_true] at hB
    rw [List.length_cons] at hk
    have hr : k ∈ Region.ready md ops listed := by simpa using hB.1.1
    have hkx := hx k (Nat.le_refl _) (by omega)
    have setx : ∀ (listed : Array Bool) (j : Nat), (∀ x ∈ ex, listed.getD x true = true) → ∀ x ∈ ex, (listed.setIfInBounds j true).getD x true = true := by
      intro listed j h x hxm
      by_cases e : j = x
      · subst e
        rcases Nat.lt_or_ge j listed.size with h' | h'
        · simp [h']
        · simp [h']
      · rw [getD_set_ne true e]
        exact h x hxm
    obtain ⟨v, hy, hQ, hk2⟩ := h
    rw [List.length_cons, show l.length + 1 + g = (l.length + g) + 1 from by omega]
    refine anyTo_first (T := S) (I := fun listed => ∀ x ∈ ex, listed.getD x true = true) hok hsel hQ setx (fun _ h _ _ => h) (fun listed inv' hex' hun j hj w' hw' => ?_) (l.length + g) listed a w inv hex (Region.free_spec hok hB.1.2) hr hy hSw ?_
    · refine hw' (Nat.lt_of_not_le fun hle => late hs hc hm inv' (by omega) hkx hun j hle hj) ?_
      cases hc2 : ex.contains j with
      | false => rfl
      | true =>
        have h1 := hex' j (by simpa using hc2)
        rw [(mem_ready.1 hj).1] at h1
        cases h1
    · refine ih (k + 1) _ _ (fun j hj => ?_) (by omega) (fun j h1 h2 => hx j (by omega) h2) (inv.set hr) (setx _ _ hex) hB.2 hk2
      have := hl (j + 1) (by rw [List.length_cons]; omega)
      simpa [Nat.add_assoc, Nat.add_comm 1 j] using this
/-- The check, for the kernel: the first operation is the one of ex. -/
def tailB (md : Region.Mode) (ops : Array Oper) (n m : Nat) : Bool :=
  Region.noSelect ops && (decide (m < ops.size) && (decide (0 < n) && (decide (n ≤ m) && (sinkX md ops [0] m && (Region.chainB md ops m && (Region.free md ops (Array.replicate ops.size false) 0 && ((Region.ready md ops (Array.replicate ops.size false)).contains 0 &&
    Region.lexHead md ops (ops.size - n) (n - 1) 1 ((Array.replicate ops.size false).setIfInBounds 0 true))))))))
/-- THE LAW: operation 0 copies a letter; operations 1 to p only read; q operations make memory; then what has one order. -/
theorem wp_region_reads {id : Nat} {a : Act} {w : World} {o : Oper} {l : List Oper} (S : World → Prop) (v : Value) (p q : Nat) (hf : P.follows .mixedOrders = true) (hB : tailB .any (o :: l).toArray (p + 1) (p + 1 + q) = true)
    (hy : Yields P (o :: l).toArray o v a) (hQ : ∀ c a w, Q (.panic c) (a.put o.dst v) w → Q (.panic c) a w) (hS : S w.drew)
    (h : wpHead P (o :: l).toArray Q S (fun a' => wpMid P (o :: l).toArray S (wpList P (o :: l).toArray Q ((l.drop p).drop q)) ((l.drop p).take q) a' w.drew) (l.take p) (a.put o.dst v)) : (Code.region id (o :: l).toArray true).wp P Q a w := by
  simp only [tailB, Bool.and_eq_true, decide_eq_true_eq] at hB
  obtain ⟨hsel, hm, _, hnm, hs, hc, hfr, hr, hlex⟩ := hB
  have hsz : (o :: l).toArray.size = l.length + 1 := by simp
  rw [hsz] at hm
  have inv0 : ShutUp .any (o :: l).toArray (Array.replicate (o :: l).toArray.size false) := ⟨by simp, fun j oj _ hl => (by rw [getD_replicate_false] at hl; cases hl)⟩
  have hr0 : 0 ∈ Region.ready .any (o :: l).toArray (Array.replicate (o :: l).toArray.size false) := by simpa using hr
  have hpl : p ≤ l.length := by omega
  have htk : (l.take p).length = p := by rw [List.length_take]; omega
  have hmd : ((l.drop p).take q).length = q := by rw [List.length_take, List.length_drop]; omega
  have htl : ((l.drop p).drop q).length = l.length + 1 - (p + 1 + q) := by rw [List.length_drop, List.length_drop]; omega
  have hg : (o :: l).toArray.size - (p + 1) = q + ((l.drop p).drop q).length := by rw [hsz, htl]; omega
  suffices key : ∀ F, F = (p + ((o :: l).toArray.size - (p + 1))) + 1 → anyTo P .any (o :: l).toArray Q S [0] (p + 1 + q) F (Array.replicate (o :: l).toArray.size false) a w.drew from
    wp_region_any hf (any_of_anyTo (S := S) (ex := [0]) (m := p + 1 + q) _ _ _ _ (key _ (by rw [hsz]; omega)))
  rintro _ rfl
  refine anyTo_first (i := 0) (oi := o) (T := fun _ => True) (I := fun _ => True) (by simp) hsel hQ (fun _ _ _ => trivial) (fun _ _ _ h => by simp at h) (fun _ _ _ _ _ _ _ _ => trivial) _ _ _ _ inv0 trivial (Region.free_spec (by simp) hfr) hr0
    (hy.imp (fun ⟨h1, h2⟩ => ⟨h1, fun w _ => h2 w⟩) fun h => h) trivial ?_
  have H := to_of_head (md := .any) (P := P) (ops := (o :: l).toArray) (Q := Q) (S := S) (ex := [0]) (m := p + 1 + q) (n := p + 1) (g := (o :: l).toArray.size - (p + 1)) (w := w.drew) (K := fun a' => wpMid P (o :: l).toArray S (wpList P (o :: l).toArray Q ((l.drop p).drop q)) ((l.drop p).take q) a' w.drew)
    hsel hs hc (by rw [hsz]; exact hm) hnm hS (fun listed a' hseq hK => by
      rw [hg] at hseq ⊢
      have := to_of_mid (md := .any) (P := P) (ops := (o :: l).toArray) (Q := Q) (S := S) (ex := [0]) (m := p + 1 + q) (g := ((l.drop p).drop q).length) ((l.drop p).drop q) rfl (fun j => by
        rw [List.getElem?_drop, List.getElem?_drop, List.getElem?_toArray, show p + 1 + q + j = (p + (q + j)) + 1 from by omega, List.getElem?_cons_succ]) ((l.drop p).take q) (p + 1) listed a' w.drew (by rw [hmd]) (fun j hj => by
          rw [hmd] at hj
          rw [List.getElem?_take, if_pos hj, List.getElem?_drop, List.getElem?_toArray, show p + 1 + j = (p + j) + 1 from by omega, List.getElem?_cons_succ]) (by rw [hmd]; exact hseq) hK
      rw [hmd] at this
      exact this)
    (l.take p) 1 _ (a.put o.dst v) (fun j hj => by
      rw [htk] at hj
      rw [List.getElem?_take, if_pos hj, List.getElem?_toArray, Nat.add_comm, List.getElem?_cons_succ]) (by rw [htk]; omega) (fun j h1 _ => by simp; omega) (inv0.set hr0) (fun x hx => by
      obtain rfl : x = 0 := by simpa using hx
      simp) (by rw [htk]; exact hlex) h
  rw [htk] at H
  exact H

/-! A drawn statement that ends in a panic: all that may come up ahead of the call that panics only reads. -/
/-- Each of 'is' may be taken first, in this order; then c alone may come up. -/
def takesB (md : Region.Mode) (ops : Array Oper) (c : Nat) : List Nat → Array Bool → Bool
  | [], listed => decide (Region.ready md ops listed = [c])
  | i :: is, listed => Region.free md ops listed i && ((Region.ready md ops listed).contains i && takesB md ops c is (listed.setIfInBounds i true))
theorem any_takes {c : Nat} {w : World} (hsel : Region.noSelect ops = true) (hS : S w) : ∀ (is : List Nat) (f : Nat) (listed : Array Bool) (a : Act), (∀ i ∈ is, i < ops.size) → takesB md ops c is listed = true →
    wpHead P ops Q S (fun a' => wpOp P ops Q c (fun _ _ => False) a' w) (is.filterMap fun i => ops[i]?) a → wpAnyH P md ops Q S (is.length + (f + 1)) listed a w
  | [], f, listed, a, _, hB, h => by
    rw [List.length_nil, Nat.zero_add]
    refine wpAnyH_all (rs := [c]) (by simpa [takesB] using hB) (by simp) fun i hi => ?_
    obtain rfl : i = c := by simpa using hi
    exact wpOp_mono (K := fun _ _ => False) (fun _ _ h => h.elim) (show wpOp P ops Q i (fun _ _ => False) a w from h)
  | i :: is, f, listed, a, hlt, hB, h => by
    have hi : i < ops.size := hlt i (by simp)
    have ho : ops[i]? = some ops[i] := Array.getElem?_eq_getElem hi
    rw [List.filterMap_cons, ho] at h
    obtain ⟨v, hy, hQ, hk⟩ := h
    simp only [takesB, Bool.and_eq_true] at hB
    rw [List.length_cons, show is.length + 1 + (f + 1) = (is.length + (f + 1)) + 1 from by omega]
    exact wpAnyH_take ho hsel hB.1 hB.2.1 hQ hy hS (any_takes hsel hS is f _ _ (fun j hj => hlt j (by simp [hj])) hB.2.2 hk)
def panicB (md : Region.Mode) (ops : Array Oper) (is : List Nat) (c : Nat) : Bool :=
  Region.noSelect ops && (decide (is.length < ops.size) && (is.all (fun i => decide (i < ops.size)) && takesB md ops c is (Array.replicate ops.size false)))
theorem wp_region_panics {id : Nat} {a : Act} {w : World} {l : List Oper} (S : World → Prop) (is : List Nat) (c : Nat) (hf : P.follows .mixedOrders = true) (hB : panicB .any l.toArray is c = true) (hS : S w.drew)
    (h : wpHead P l.toArray Q S (fun a' => wpOp P l.toArray Q c (fun _ _ => False) a' w.drew) (is.filterMap fun i => l[i]?) a) : (Code.region id l.toArray true).wp P Q a w := by
  simp only [panicB, Bool.and_eq_true, decide_eq_true_eq, List.all_eq_true] at hB
  obtain ⟨hsel, hlen, hlt, hT⟩ := hB
  have e : l.toArray.size = is.length + ((l.toArray.size - is.length - 1) + 1) := by omega
  have K := any_takes (Q := Q) hsel hS is (l.toArray.size - is.length - 1) _ a hlt hT (by simpa using h)
  rw [← e] at K
  exact wp_region_held hf K
theorem op_at {c : Nat} {o : Oper} {a : Act} {w : World} {K : Act → World → Prop} (ho : ops[c]? = some o) (hw : Region.wanted o (yielded ops a.tmps) = true) (h : o.wp P a w K Q) : wpOp P ops Q c K a w := by
  unfold wpOp
  simp only [ho, hw, if_true]
  exact .inl h
end
end Go.Proofs.Ytegegljpmelomaa
