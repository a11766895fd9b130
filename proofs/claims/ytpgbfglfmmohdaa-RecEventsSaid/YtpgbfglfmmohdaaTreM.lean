/- Laws of drawn statements: reads first, then memory made in a few orders, calls, stores. Merged of several texts. No condition. -/
import Derived.StillTail
import Derived.OrdersHeld
set_option linter.unusedVariables false
namespace Go.Proofs.Ytpgbfglfmmohdaa
open Go

section
variable {P : Program} {ops : Array Oper} {md : Region.Mode} {Q : Exit → Act → World → Prop} {S : World → Prop}
/-- What has come up is closed under what it waits for. -/
structure ShutUp (md : Region.Mode) (ops : Array Oper) (listed : Array Bool) : Prop where
  size : listed.size = ops.size
  closed : ∀ j oj, ops[j]? = some oj → listed.getD j false = true → ∀ e ∈ oj.after, Region.binds md e = true → listed.getD e.on false = true
theorem ShutUp.set {i : Nat} {listed : Array Bool} (h : ShutUp md ops listed) (hi : i ∈ Region.ready md ops listed) : ShutUp md ops (listed.setIfInBounds i true) := by
  obtain ⟨_, oi, hoi, hall⟩ := mem_ready.1 hi
  refine ⟨by simp [h.size], fun j oj hj hl e he hb => ?_⟩
  by_cases e1 : i = j
  · subst e1
    obtain rfl : oj = oi := Option.some.inj (hj.symm.trans hoi)
    exact getD_set_true (hall e he hb)
  · rw [getD_set_ne false e1] at hl
    exact getD_set_true (h.closed j oj hj hl e he hb)
/-- Each of the first m, but those of ex, is waited for by one behind it, up to m, that is none of ex. -/
def sinkX (md : Region.Mode) (ops : Array Oper) (ex : List Nat) (m : Nat) : Bool :=
  (List.range m).all fun i => ex.contains i || (List.range (m + 1)).any fun j => decide (i < j) && (!ex.contains j && Region.waitsFor md ops j i)
/-- While one of the first m that is none of ex has not come up, none from m on may. -/
theorem late {ex : List Nat} {m : Nat} (hs : sinkX md ops ex m = true) (hc : Region.chainB md ops m = true) (hm : m < ops.size) {listed : Array Bool} (h : ShutUp md ops listed) :
    ∀ {i : Nat}, i < m → ex.contains i = false → listed.getD i true = false → ∀ t, m ≤ t → t ∉ Region.ready md ops listed := by
  -- what waits for one that has not come up has not come up, and may not
  have stays : ∀ i j, listed.getD i true = false → Region.waitsFor md ops j i = true → listed.getD j false = false ∧ j ∉ Region.ready md ops listed := by
    intro i j hun hw
    obtain ⟨oj, hoj, e, he, hb, hon⟩ := Region.waitsFor_spec hw
    refine ⟨?_, fun hr => ?_⟩
    · cases hl : listed.getD j false with
      | false => rfl
      | true =>
        have h2 := h.closed j oj hoj hl e he hb
        rw [hon, getD_both hun] at h2
        cases h2
    · obtain ⟨_, oj', hoj', hall⟩ := mem_ready.1 hr
      obtain rfl : oj' = oj := Option.some.inj (hoj'.symm.trans hoj)
      have h2 := hall e he hb
      rw [hon, getD_both hun] at h2
      cases h2
  have atM : ∀ d i, m - i = d → i < m → ex.contains i = false → listed.getD i true = false → listed.getD m false = false ∧ m ∉ Region.ready md ops listed := by
    intro d
    induction d using Nat.strongRecOn with
    | _ d ih =>
      intro i hd hi hx hun
      have h1 := List.all_eq_true.1 hs i (List.mem_range.2 hi)
      rw [hx, Bool.false_or] at h1
      obtain ⟨j, hj, hj2⟩ := List.any_eq_true.1 h1
      rw [Bool.and_eq_true, Bool.and_eq_true, decide_eq_true_eq, Bool.not_eq_true'] at hj2
      have hjm : j ≤ m := Nat.le_of_lt_succ (List.mem_range.1 hj)
      have h2 := stays i j hun hj2.2.2
      by_cases e : j = m
      · subst e
        exact h2
      · exact ih (m - j) (by omega) j rfl (by omega) hj2.2.1 (getD_in (by rw [h.size]; omega) h2.1)
  intro i hi hx hun t ht
  obtain ⟨k1, k2⟩ := atM _ i rfl hi hx hun
  have up : ∀ d, m + d < ops.size → listed.getD (m + d) false = false ∧ m + d ∉ Region.ready md ops listed := by
    intro d
    induction d with
    | zero => exact fun _ => ⟨k1, k2⟩
    | succ d ih =>
      intro hd
      have h1 := List.all_eq_true.1 hc (m + (d + 1)) (List.mem_range.2 hd)
      rw [Bool.or_eq_true, decide_eq_true_eq] at h1
      exact stays (m + d) (m + (d + 1)) (getD_in (by rw [h.size]; omega) (ih (by omega)).1) (h1.resolve_left (by omega))
  intro hr
  have hts : t < ops.size := by
    obtain ⟨_, ot, hot, _⟩ := mem_ready.1 hr
    exact (Array.getElem?_eq_some_iff.1 hot).1
  obtain ⟨d, rfl⟩ := Nat.exists_eq_add_of_le ht
  exact (up d hts).2 hr

/-- Whatever order is picked; S is shown anew behind each of the first m, but those of ex. -/
def anyTo (P : Program) (md : Region.Mode) (ops : Array Oper) (Q : Exit → Act → World → Prop) (S : World → Prop) (ex : List Nat) (m : Nat) : Nat → Array Bool → Act → World → Prop
  | 0, listed, a, w => Region.ready md ops listed = [] ∧ Q .normal a w
  | f + 1, listed, a, w => (Region.ready md ops listed = [] → Q .normal a w) ∧
    ∀ i ∈ Region.ready md ops listed, wpOp P ops Q i (fun a' w' => (i < m → ex.contains i = false → S w') ∧ anyTo P md ops Q S ex m f (listed.setIfInBounds i true) a' w') a w
theorem any_of_anyTo {ex : List Nat} {m : Nat} : ∀ (f : Nat) (listed : Array Bool) (a : Act) (w : World), anyTo P md ops Q S ex m f listed a w → wpAny P md ops Q f listed a w
  | 0, _, _, _, h => h
  | f + 1, _, _, _, h => ⟨h.1, fun i hi => wpOp_mono (fun a' w' h' => any_of_anyTo f _ a' w' h'.2) (h.2 i hi)⟩
/-- An operation may be taken first. T: what it asks of the world; I: what is kept of what has come up. -/
theorem anyTo_first {ex : List Nat} {m i : Nat} {oi : Oper} {v : Value} {T : World → Prop} {I : Array Bool → Prop} (hi : ops[i]? = some oi) (hsel : Region.noSelect ops = true) (hQ : ∀ c a w, Q (.panic c) (a.put oi.dst v) w → Q (.panic c) a w)
    (hI : ∀ listed j, I listed → I (listed.setIfInBounds j true)) (hD : ∀ w, T w → i < m → ex.contains i = false → S w)
    (hT : ∀ listed, ShutUp md ops listed → I listed → listed.getD i true = false → ∀ j ∈ Region.ready md ops listed, ∀ w', (j < m → ex.contains j = false → S w') → T w') : ∀ (f : Nat) (listed : Array Bool) (a : Act) (w : World), ShutUp md ops listed → I listed →
      (∀ j oj, ops[j]? = some oj → j ≠ i → listed.getD j true = false → (∀ e ∈ oj.after, Region.binds md e = true → e.on ≠ i) → oi.apart ops oj = true) →
      i ∈ Region.ready md ops listed → YieldsIf P ops T oi v a → T w → anyTo P md ops Q S ex m f (listed.setIfInBounds i true) (a.put oi.dst v) w → anyTo P md ops Q S ex m (f + 1) listed a w := by
  have sel := Region.noSelect_spec hsel
  intro f
  induction f with
  | zero =>
    intro listed a w inv hIl _ hr hy hTw H
    refine ⟨fun e => (by rw [e] at hr; cases hr), fun j hj => ?_⟩
    by_cases e : j = i
    · subst e
      exact hy.wpOp hi hTw ⟨hD w hTw, H⟩
    · have := ready_mono hj e
      rw [H.1] at this
      cases this
  | succ f ih =>
    intro listed a w inv hIl hfree hr hy hTw H
    have hun := (mem_ready.1 hr).1
    refine ⟨fun e => (by rw [e] at hr; cases hr), fun j hj => ?_⟩
    by_cases e : j = i
    · subst e
      exact hy.wpOp hi hTw ⟨hD w hTw, H⟩
    · obtain ⟨hjun, oj, hoj, hall⟩ := mem_ready.1 hj
      have hno : ∀ e ∈ oj.after, Region.binds md e = true → e.on ≠ i := by
        intro e he hb heq
        have h1 := hall e he hb
        rw [heq, getD_both hun] at h1
        cases h1
      have h1 := wpOp_putIf hoj (hfree j oj hoj e hjun hno) (fun cs b => sel i oi cs b hi) (fun cs b => sel j oj cs b hoj) hQ hy (H.2 j (ready_mono hj e))
      refine wpOp_mono (fun a' w' h2 => ⟨h2.2.1, ih (listed.setIfInBounds j true) a' w' (inv.set hj) (hI _ _ hIl) ?_ (ready_mono hr (Ne.symm e)) h2.1 (hT listed inv hIl hun j hj w' h2.2.1) ?_⟩) h1
      · intro k ok hk hki hkun hkno
        refine hfree k ok hk hki ?_ hkno
        by_cases ejk : j = k
        · subst ejk
          exact hjun
        · rwa [getD_set_ne true ejk] at hkun
      · rw [Array.setIfInBounds_comm _ _ e]
        exact h2.2.2

/-- The reads, in the text's order: each yields a value in every world that meets S (those of ex: in whatever world). -/
def wpHead (P : Program) (ops : Array Oper) (Q : Exit → Act → World → Prop) (S : World → Prop) (K : Act → Prop) : List Oper → Act → Prop
  | [], a => K a
  | o :: l, a => ∃ v, YieldsIf P ops S o v a ∧ (∀ c a w, Q (.panic c) (a.put o.dst v) w → Q (.panic c) a w) ∧ wpHead P ops Q S K l (a.put o.dst v)
/-- What makes memory, one behind the other, S shown anew behind each. -/
def wpMid (P : Program) (ops : Array Oper) (S : World → Prop) (K : Act → World → Prop) : List Oper → Act → World → Prop
  | [], a, w => K a w
  | o :: l, a, w => Region.wanted o (yielded ops a.tmps) = true ∧ ∃ v w1, (execOp a.eval o).run P w = .ok (.value v) w1 ∧ S w1 ∧ wpMid P ops S K l (a.put o.dst v) w1
theorem head_step {K : Act → Prop} {o : Oper} {l : List Oper} {a : Act} (v : Value) (h0 : Region.wanted o (yielded ops a.tmps) = true) (h : ∀ w, S w → (execOp a.eval o).run P w = .ok (.value v) w) (hQ : ∀ c a w, Q (.panic c) (a.put o.dst v) w → Q (.panic c) a w) (hk : wpHead P ops Q S K l (a.put o.dst v)) : wpHead P ops Q S K (o :: l) a :=
  ⟨v, .inl ⟨h0, h⟩, hQ, hk⟩
theorem head_nil {K : Act → Prop} {a : Act} (h : K a) : wpHead P ops Q S K [] a := h
theorem mid_step {K : Act → World → Prop} {o : Oper} {l : List Oper} {a : Act} {w : World} (v : Value) (w1 : World) (h0 : Region.wanted o (yielded ops a.tmps) = true) (h : (execOp a.eval o).run P w = .ok (.value v) w1) (hs : S w1) (hk : wpMid P ops S K l (a.put o.dst v) w1) : wpMid P ops S K (o :: l) a w :=
  ⟨h0, v, w1, h, hs, hk⟩
theorem mid_nil {K : Act → World → Prop} {a : Act} {w : World} (h : K a w) : wpMid P ops S K [] a w := h

theorem to_of_list {ex : List Nat} {m : Nat} : ∀ (l : List Oper) (k : Nat) (listed : Array Bool) (a : Act) (w : World), m ≤ k → (∀ j, l[j]? = ops[k + j]?) → Region.seqB md ops l.length k listed = true → wpList P ops Q l a w → anyTo P md ops Q S ex m l.length listed a w
  | [], _, _, _, _, _, _, hB, h => ⟨by simpa [Region.seqB] using hB, h⟩
  | o :: l, k, listed, a, w, hmk, hl, hB, h => by
    have h0 : ops[k]? = some o := by simpa using (hl 0).symm
    simp only [List.length_cons, Region.seqB, Bool.and_eq_true, decide_eq_true_eq] at hB
    refine ⟨fun h1 => (by rw [hB.1] at h1; cases h1), fun i hi => ?_⟩
    rw [hB.1] at hi
    obtain rfl : i = k := by simpa using hi
    have hw : wpOp P ops Q i (wpList P ops Q l) a w := by unfold wpOp; simp only [h0]; exact h
    refine wpOp_mono (fun a' w' h' => ⟨fun hlt => absurd hlt (by omega), ?_⟩) hw
    refine to_of_list l (i + 1) _ a' w' (by omega) (fun j => ?_) hB.2 h'
    have := hl (j + 1)
    simpa [Nat.add_assoc, Nat.add_comm 1 j] using this
theorem to_of_mid {ex : List Nat} {m g : Nat} (rest : List Oper) (hg : g = rest.length) (hrest : ∀ j, rest[j]? = ops[m + j]?) : ∀ (l : List Oper) (k : Nat) (listed : Array Bool) (a : Act) (w : World), k + l.length = m → (∀ j, j < l.length → l[j]? = ops[k + j]?) →
    Region.seqB md ops (l.length + g) k listed = true → wpMid P ops S (wpList P ops Q rest) l a w → anyTo P md ops Q S ex m (l.length + g) listed a w
  | [], k, listed, a, w, hk, _, hB, h => by
    obtain rfl : k = m := by simpa using hk
    rw [List.length_nil, Nat.zero_add] at hB ⊢
    rw [hg] at hB ⊢
    exact to_of_list rest k listed a w (Nat.le_refl _) hrest hB h
  | o :: l, k, listed, a, w, hk, hl, hB, h => by
    have h0 : ops[k]? = some o := by simpa using (hl 0 (by simp)).symm
    rw [List.length_cons, show l.length + 1 + g = (l.length + g) + 1 from by omega] at hB ⊢
    rw [List.length_cons] at hk
    simp only [Region.seqB, Bool.and_eq_true, decide_eq_true_eq] at hB
    refine ⟨fun h1 => (by rw [hB.1] at h1; cases h1), fun i hi => ?_⟩
    rw [hB.1] at hi
    obtain rfl : i = k := by simpa using hi
    obtain ⟨hw, v, w1, hr, hs, hm⟩ := h
    unfold wpOp
    simp only [h0, hw, if_true]
    refine .inl ?_
    unfold Oper.wp
    rw [hr, Oper.upon_value]
    refine ⟨fun _ _ => hs, to_of_mid rest hg hrest l (i + 1) _ _ _ (by omega) (fun j hj => ?_) hB.2 hm⟩
    have := hl (j + 1) (by rw [List.length_cons]; omega)
    simpa [Nat.add_assoc, Nat.add_comm 1 j] using this
/-- What is none of ex, behind those of ex. -/
theorem to_of_head {ex : List Nat} {m n g : Nat} {w : World} {K : Act → Prop} (hsel : Region.noSelect ops = true) (hs : sinkX md ops ex m = true) (hc : Region.chainB md ops m = true) (hm : m < ops.size) (hnm : n ≤ m) (hSw : S w)
    (hK : ∀ listed a, Region.seqB md ops g n listed = true → K a → anyTo P md ops Q S ex m g listed a w) :
    ∀ (l : List Oper) (k : Nat) (listed : Array Bool) (a : Act), (∀ j, j < l.length → l[j]? = ops[k + j]?) → k + l.length = n → (∀ j, k ≤ j → j < n → ex.contains j = false) → ShutUp md ops listed → (∀ x ∈ ex, listed.getD x true = true) →
    Region.lexHead md ops g l.length k listed = true → wpHead P ops Q S K l a → anyTo P md ops Q S ex m (l.length + g) listed a w := by
  intro l
  induction l with
  | nil =>
    intro k listed a _ hk _ _ _ hB h
    obtain rfl : k = n := by simpa using hk
    rw [List.length_nil, Nat.zero_add]
    exact hK listed a hB h
  | cons o l ih =>
    intro k listed a hl hk hx inv hex hB h
    have hok : ops[k]? = some o := by simpa using (hl 0 (by simp)).symm
    rw [List.length_cons, Region.lexHead, Bool.and_eq_true, Bool.and_eq_true] at hB
    rw [List.length_cons] at hk
    have hr : k ∈ Region.ready md ops listed := by simpa using hB.1.1
    have hkx := hx k (Nat.le_refl _) (by omega)
    have setx : ∀ (listed : Array Bool) (j : Nat), (∀ x ∈ ex, listed.getD x true = true) → ∀ x ∈ ex, (listed.setIfInBounds j true).getD x true = true := by
      intro listed j h x hxm
      by_cases e : j = x
      · subst e
        rcases Nat.lt_or_ge j listed.size with h' | h'
        · simp [h']
        · simp [h']
      · rw [getD_set_ne true e]
        exact h x hxm
    obtain ⟨v, hy, hQ, hk2⟩ := h
    rw [List.length_cons, show l.length + 1 + g = (l.length + g) + 1 from by omega]
    refine anyTo_first (T := S) (I := fun listed => ∀ x ∈ ex, listed.getD x true = true) hok hsel hQ setx (fun _ h _ _ => h) (fun listed inv' hex' hun j hj w' hw' => ?_) (l.length + g) listed a w inv hex (Region.free_spec hok hB.1.2) hr hy hSw ?_
    · refine hw' (Nat.lt_of_not_le fun hle => late hs hc hm inv' (by omega) hkx hun j hle hj) ?_
      cases hc2 : ex.contains j with
      | false => rfl
      | true =>
        have h1 := hex' j (by simpa using hc2)
        rw [(mem_ready.1 hj).1] at h1
        cases h1
    · refine ih (k + 1) _ _ (fun j hj => ?_) (by omega) (fun j h1 h2 => hx j (by omega) h2) (inv.set hr) (setx _ _ hex) hB.2 hk2
      have := hl (j + 1) (by rw [List.length_cons]; omega)
      simpa [Nat.add_assoc, Nat.add_comm 1 j] using this
/-- The check, for the kernel: the first operation is the one of ex. -/
def tailB (md : Region.Mode) (ops : Array Oper) (n m : Nat) : Bool :=
  Region.noSelect ops && (decide (m < ops.size) && (decide (0 < n) && (decide (n ≤ m) && (sinkX md ops [0] m && (Region.chainB md ops m && (Region.free md ops (Array.replicate ops.size false) 0 && ((Region.ready md ops (Array.replicate ops.size false)).contains 0 &&
    Region.lexHead md ops (ops.size - n) (n - 1) 1 ((Array.replicate ops.size false).setIfInBounds 0 true))))))))
/-- THE LAW: operation 0 copies a letter; operations 1 to p only read; q operations make memory; then what has one order. -/
theorem wp_region_reads {id : Nat} {a : Act} {w : World} {o : Oper} {l : List Oper} (S : World → Prop) (v : Value) (p q : Nat) (hf : P.follows .mixedOrders = true) (hB : tailB .any (o :: l).toArray (p + 1) (p + 1 + q) = true)
    (hy : Yields P (o :: l).toArray o v a) (hQ : ∀ c a w, Q (.panic c) (a.put o.dst v) w → Q (.panic c) a w) (hS : S w.drew)
    (h : wpHead P (o :: l).toArray Q S (fun a' => wpMid P (o :: l).toArray S (wpList P (o :: l).toArray Q ((l.drop p).drop q)) ((l.drop p).take q) a' w.drew) (l.take p) (a.put o.dst v)) : (Code.region id (o :: l).toArray true).wp P Q a w := by
  simp only [tailB, Bool.and_eq_true, decide_eq_true_eq] at hB
  obtain ⟨hsel, hm, _, hnm, hs, hc, hfr, hr, hlex⟩ := hB
  have hsz : (o :: l).toArray.size = l.length + 1 := by simp
  rw [hsz] at hm
  have inv0 : ShutUp .any (o :: l).toArray (Array.replicate (o :: l).toArray.size false) := ⟨by simp, fun j oj _ hl => (by rw [getD_replicate_false] at hl; cases hl)⟩
  have hr0 : 0 ∈ Region.ready .any (o :: l).toArray (Array.replicate (o :: l).toArray.size false) := by simpa using hr
  have hpl : p ≤ l.length := by omega
  have htk : (l.take p).length = p := by rw [List.length_take]; omega
  have hmd : ((l.drop p).take q).length = q := by rw [List.length_take, List.length_drop]; omega
  have htl : ((l.drop p).drop q).length = l.length + 1 - (p + 1 + q) := by rw [List.length_drop, List.length_drop]; omega
  have hg : (o :: l).toArray.size - (p + 1) = q + ((l.drop p).drop q).length := by rw [hsz, htl]; omega
  suffices key : ∀ F, F = (p + ((o :: l).toArray.size - (p + 1))) + 1 → anyTo P .any (o :: l).toArray Q S [0] (p + 1 + q) F (Array.replicate (o :: l).toArray.size false) a w.drew from
    wp_region_any hf (any_of_anyTo (S := S) (ex := [0]) (m := p + 1 + q) _ _ _ _ (key _ (by rw [hsz]; omega)))
  rintro _ rfl
  refine anyTo_first (i := 0) (oi := o) (T := fun _ => True) (I := fun _ => True) (by simp) hsel hQ (fun _ _ _ => trivial) (fun _ _ _ h => by simp at h) (fun _ _ _ _ _ _ _ _ => trivial) _ _ _ _ inv0 trivial (Region.free_spec (by simp) hfr) hr0
    (hy.imp (fun ⟨h1, h2⟩ => ⟨h1, fun w _ => h2 w⟩) fun h => h) trivial ?_
  have H := to_of_head (md := .any) (P := P) (ops := (o :: l).toArray) (Q := Q) (S := S) (ex := [0]) (m := p + 1 + q) (n := p + 1) (g := (o :: l).toArray.size - (p + 1)) (w := w.drew) (K := fun a' => wpMid P (o :: l).toArray S (wpList P (o :: l).toArray Q ((l.drop p).drop q)) ((l.drop p).take q) a' w.drew)
    hsel hs hc (by rw [hsz]; exact hm) hnm hS (fun listed a' hseq hK => by
      rw [hg] at hseq ⊢
      have := to_of_mid (md := .any) (P := P) (ops := (o :: l).toArray) (Q := Q) (S := S) (ex := [0]) (m := p + 1 + q) (g := ((l.drop p).drop q).length) ((l.drop p).drop q) rfl (fun j => by
        rw [List.getElem?_drop, List.getElem?_drop, List.getElem?_toArray, show p + 1 + q + j = (p + (q + j)) + 1 from by omega, List.getElem?_cons_succ]) ((l.drop p).take q) (p + 1) listed a' w.drew (by rw [hmd]) (fun j hj => by
          rw [hmd] at hj
          rw [List.getElem?_take, if_pos hj, List.getElem?_drop, List.getElem?_toArray, show p + 1 + j = (p + j) + 1 from by omega, List.getElem?_cons_succ]) (by rw [hmd]; exact hseq) hK
      rw [hmd] at this
      exact this)
    (l.take p) 1 _ (a.put o.dst v) (fun j hj => by
      rw [htk] at hj
      rw [List.getElem?_take, if_pos hj, List.getElem?_toArray, Nat.add_comm, List.getElem?_cons_succ]) (by rw [htk]; omega) (fun j h1 _ => by simp; omega) (inv0.set hr0) (fun x hx => by
      obtain rfl : x = 0 := by simpa using hx
      simp) (by rw [htk]; exact hlex) h
  rw [htk] at H
  exact H

/-! A drawn statement that ends in a panic: all that may come up ahead of the call that panics only reads. -/
/-- Each of 'is' may be taken first, in this order; then c alone may come up. -/
def takesB (md : Region.Mode) (ops : Array Oper) (c : Nat) : List Nat → Array Bool → Bool
  | [], listed => decide (Region.ready md ops listed = [c])
  | i :: is, listed => Region.free md ops listed i && ((Region.ready md ops listed).contains i && takesB md ops c is (listed.setIfInBounds i true))
theorem any_takes {c : Nat} {w : World} (hsel : Region.noSelect ops = true) (hS : S w) : ∀ (is : List Nat) (f : Nat) (listed : Array Bool) (a : Act), (∀ i ∈ is, i < ops.size) → takesB md ops c is listed = true →
    wpHead P ops Q S (fun a' => wpOp P ops Q c (fun _ _ => False) a' w) (is.filterMap fun i => ops[i]?) a → wpAnyH P md ops Q S (is.length + (f + 1)) listed a w
  | [], f, listed, a, _, hB, h => by
    rw [List.length_nil, Nat.zero_add]
    refine wpAnyH_all (rs := [c]) (by simpa [takesB] using hB) (by simp) fun i hi => ?_
    obtain rfl : i = c := by simpa using hi
    exact wpOp_mono (K := fun _ _ => False) (fun _ _ h => h.elim) (show wpOp P ops Q i (fun _ _ => False) a w from h)
  | i :: is, f, listed, a, hlt, hB, h => by
    have hi : i < ops.size := hlt i (by simp)
    have ho : ops[i]? = some ops[i] := Array.getElem?_eq_getElem hi
    rw [List.filterMap_cons, ho] at h
    obtain ⟨v, hy, hQ, hk⟩ := h
    simp only [takesB, Bool.and_eq_true] at hB
    rw [List.length_cons, show is.length + 1 + (f + 1) = (is.length + (f + 1)) + 1 from by omega]
    exact wpAnyH_take ho hsel hB.1 hB.2.1 hQ hy hS (any_takes hsel hS is f _ _ (fun j hj => hlt j (by simp [hj])) hB.2.2 hk)
def panicB (md : Region.Mode) (ops : Array Oper) (is : List Nat) (c : Nat) : Bool :=
  Region.noSelect ops && (decide (is.length < ops.size) && (is.all (fun i => decide (i < ops.size)) && takesB md ops c is (Array.replicate ops.size false)))
theorem wp_region_panics {id : Nat} {a : Act} {w : World} {l : List Oper} (S : World → Prop) (is : List Nat) (c : Nat) (hf : P.follows .mixedOrders = true) (hB : panicB .any l.toArray is c = true) (hS : S w.drew)
    (h : wpHead P l.toArray Q S (fun a' => wpOp P l.toArray Q c (fun _ _ => False) a' w.drew) (is.filterMap fun i => l[i]?) a) : (Code.region id l.toArray true).wp P Q a w := by
  simp only [panicB, Bool.and_eq_true, decide_eq_true_eq, List.all_eq_true] at hB
  obtain ⟨hsel, hlen, hlt, hT⟩ := hB
  have e : l.toArray.size = is.length + ((l.toArray.size - is.length - 1) + 1) := by omega
  have K := any_takes (Q := Q) hsel hS is (l.toArray.size - is.length - 1) _ a hlt hT (by simpa using h)
  rw [← e] at K
  exact wp_region_held hf K
theorem op_at {c : Nat} {o : Oper} {a : Act} {w : World} {K : Act → World → Prop} (ho : ops[c]? = some o) (hw : Region.wanted o (yielded ops a.tmps) = true) (h : o.wp P a w K Q) : wpOp P ops Q c K a w := by
  unfold wpOp
  simp only [ho, hw, if_true]
  exact .inl h
end
end Go.Proofs.Ytpgbfglfmmohdaa
namespace Go.Proofs.Ytpgbfglfmmohdaa
open Go

section
variable {P : Program} {ops : Array Oper} {md : Region.Mode} {Q : Exit → Act → World → Prop} {S : World → Prop}
def ordersOf (md : Region.Mode) (ops : Array Oper) : Nat → Array Bool → List (List Nat)
  | 0, _ => [[]]
  | n + 1, listed => (Region.ready md ops listed).flatMap fun i => (ordersOf md ops n (listed.setIfInBounds i true)).map (i :: ·)
def ordersOk (md : Region.Mode) (ops : Array Oper) (m g : Nat) : Nat → Array Bool → Bool
  | 0, listed => Region.seqB md ops g m listed
  | n + 1, listed => !(Region.ready md ops listed).isEmpty && (Region.ready md ops listed).all fun i => decide (i < m) && (decide (i < ops.size) && ordersOk md ops m g n (listed.setIfInBounds i true))
theorem orders_some {m g : Nat} : ∀ (n : Nat) (listed : Array Bool), ordersOk md ops m g n listed = true → ∃ l, l ∈ ordersOf md ops n listed
  | 0, listed, _ => ⟨[], by simp [ordersOf]⟩
  | n + 1, listed, h => by
    simp only [ordersOk, Bool.and_eq_true, Bool.not_eq_true', List.all_eq_true] at h
    obtain ⟨h0, h1⟩ := h
    cases hr : Region.ready md ops listed with
    | nil => rw [hr] at h0; cases h0
    | cons i is =>
      have hi := h1 i (by rw [hr]; simp)
      obtain ⟨l, hl⟩ := orders_some n _ hi.2.2
      refine ⟨i :: l, ?_⟩
      unfold ordersOf
      rw [List.mem_flatMap]
      exact ⟨i, by rw [hr]; simp, List.mem_map.2 ⟨l, hl, rfl⟩⟩
theorem to_of_orders {m : Nat} (rest : List Oper) (hrest : ∀ j, rest[j]? = ops[m + j]?) : ∀ (n : Nat) (listed : Array Bool) (a : Act) (w : World), ordersOk md ops m rest.length n listed = true →
    (∀ l ∈ ordersOf md ops n listed, wpMid P ops S (wpList P ops Q rest) (l.filterMap fun i => ops[i]?) a w) → anyTo P md ops Q S [] m (n + rest.length) listed a w
  | 0, listed, a, w, hB, h => by
    rw [Nat.zero_add]
    exact to_of_list rest m listed a w (Nat.le_refl _) hrest hB (h [] (by simp [ordersOf]))
  | n + 1, listed, a, w, hB, h => by
    simp only [ordersOk, Bool.and_eq_true, Bool.not_eq_true', List.all_eq_true, decide_eq_true_eq] at hB
    rw [show n + 1 + rest.length = (n + rest.length) + 1 from by omega]
    refine ⟨fun h1 => (by rw [h1] at hB; cases hB.1), fun i hi => ?_⟩
    obtain ⟨him, hisz, hok⟩ := hB.2 i hi
    have ho : ops[i]? = some ops[i] := Array.getElem?_eq_getElem hisz
    have step : ∀ l ∈ ordersOf md ops n (listed.setIfInBounds i true), wpMid P ops S (wpList P ops Q rest) (ops[i] :: l.filterMap fun i => ops[i]?) a w := by
      intro l hl
      have := h (i :: l) (by
        unfold ordersOf
        rw [List.mem_flatMap]
        exact ⟨i, hi, List.mem_map.2 ⟨l, hl, rfl⟩⟩)
      rwa [List.filterMap_cons, ho] at this
    obtain ⟨l0, hl0⟩ := orders_some n _ hok
    obtain ⟨hw, v, w1, hr, hs, _⟩ := step l0 hl0
    unfold wpOp
    simp only [ho, hw, if_true]
    refine .inl ?_
    unfold Oper.wp
    rw [hr, Oper.upon_value]
    refine ⟨fun _ _ => hs, to_of_orders rest hrest n _ _ _ hok fun l hl => ?_⟩
    obtain ⟨_, v', w1', hr', _, hm⟩ := step l hl
    rw [hr] at hr'
    injection hr' with e1 e2
    injection e1 with e1
    subst e1 e2
    exact hm
def takenAll : List Nat → Array Bool → Array Bool
  | [], listed => listed
  | i :: is, listed => takenAll is (listed.setIfInBounds i true)
def takesTo (md : Region.Mode) (ops : Array Oper) (m : Nat) : List Nat → Array Bool → Bool
  | [], _ => true
  | i :: is, listed => decide (i < m) && (decide (i < ops.size) && (Region.free md ops listed i && ((Region.ready md ops listed).contains i && takesTo md ops m is (listed.setIfInBounds i true))))
theorem to_takes {m f : Nat} {w : World} {K : Act → Prop} (hsel : Region.noSelect ops = true) (hs : sinkX md ops [] m = true) (hc : Region.chainB md ops m = true) (hm : m < ops.size) (hSw : S w) :
    ∀ (is : List Nat) (listed : Array Bool) (a : Act), ShutUp md ops listed → takesTo md ops m is listed = true → (∀ a', K a' → anyTo P md ops Q S [] m f (takenAll is listed) a' w) → wpHead P ops Q S K (is.filterMap fun i => ops[i]?) a → anyTo P md ops Q S [] m (is.length + f) listed a w
  | [], listed, a, _, _, hK, h => by
    rw [List.length_nil, Nat.zero_add]
    exact hK a h
  | i :: is, listed, a, inv, hB, hK, h => by
    simp only [takesTo, Bool.and_eq_true, decide_eq_true_eq] at hB
    obtain ⟨him, hisz, hfr, hrd, hB⟩ := hB
    have ho : ops[i]? = some ops[i] := Array.getElem?_eq_getElem hisz
    rw [List.filterMap_cons, ho] at h
    obtain ⟨v, hy, hQ, hk⟩ := h
    have hr : i ∈ Region.ready md ops listed := by simpa using hrd
    rw [List.length_cons, show is.length + 1 + f = (is.length + f) + 1 from by omega]
    refine anyTo_first (T := S) (I := fun _ => True) ho hsel hQ (fun _ _ _ => trivial) (fun _ h _ _ => h) (fun listed inv' _ hun j hj w' hw' => ?_) (is.length + f) listed a w inv trivial (Region.free_spec ho hfr) hr hy hSw ?_
    · exact hw' (Nat.lt_of_not_le fun hle => late hs hc hm inv' him (by simp) hun j hle hj) (by simp)
    · exact to_takes hsel hs hc hm hSw is _ _ (inv.set hr) hB hK hk
/-- The check, for the kernel. -/
def ordB (md : Region.Mode) (ops : Array Oper) (is : List Nat) (m n : Nat) (os : List (List Nat)) : Bool :=
  Region.noSelect ops && (decide (m < ops.size) && (decide (is.length + (n + (ops.size - m)) = ops.size) && (sinkX md ops [] m && (Region.chainB md ops m && (takesTo md ops m is (Array.replicate ops.size false) &&
    (ordersOk md ops m (ops.size - m) n (takenAll is (Array.replicate ops.size false)) && decide (ordersOf md ops n (takenAll is (Array.replicate ops.size false)) = os)))))))
/-- THE LAW: the operations 'is' only read; n operations make memory, in one of the orders os; from m on there is one order. -/
theorem wp_region_orders {id : Nat} {a : Act} {w : World} {l : List Oper} (S : World → Prop) (is : List Nat) (m n : Nat) (os : List (List Nat)) (hf : P.follows .mixedOrders = true) (hB : ordB .any l.toArray is m n os = true) (hS : S w.drew)
    (h : wpHead P l.toArray Q S (fun a' => ∀ o ∈ os, wpMid P l.toArray S (wpList P l.toArray Q (l.drop m)) (o.filterMap fun i => l[i]?) a' w.drew) (is.filterMap fun i => l[i]?) a) : (Code.region id l.toArray true).wp P Q a w := by
  simp only [ordB, Bool.and_eq_true, decide_eq_true_eq] at hB
  obtain ⟨hsel, hm, hsz, hs, hc, ht, hok, hos⟩ := hB
  have inv0 : ShutUp .any l.toArray (Array.replicate l.toArray.size false) := ⟨by simp, fun j oj _ hl => (by rw [getD_replicate_false] at hl; cases hl)⟩
  have hlen : (l.drop m).length = l.toArray.size - m := by rw [List.length_drop]; simp
  suffices key : ∀ F, F = is.length + (n + (l.drop m).length) → anyTo P .any l.toArray Q S [] m F (Array.replicate l.toArray.size false) a w.drew from
    wp_region_any hf (any_of_anyTo (S := S) (ex := []) (m := m) _ _ _ _ (key _ (by rw [hlen]; exact hsz.symm)))
  rintro _ rfl
  refine to_takes hsel hs hc hm hS is _ a inv0 ht (fun a' hK => ?_) (by simpa using h)
  subst hos
  refine to_of_orders (l.drop m) (fun j => by rw [List.getElem?_drop, List.getElem?_toArray]) n _ a' w.drew (by rw [hlen]; exact hok) fun o ho => ?_
  have := hK o ho
  simpa using this
end
end Go.Proofs.Ytpgbfglfmmohdaa
namespace Go.Proofs.Ytpgbfglfmmohdaa
open Go

section
variable {P : Program} {ops : Array Oper} {md : Region.Mode} {Q : Exit → Act → World → Prop} {S : World → Prop} {R : World → World → Prop} {T : Nat → (Nat → Value) → World → Prop} {C : Nat → Value → Nat → Prop}
/-- What an operation comes to. -/
def OpTo (P : Program) (o : Oper) (f : Operand → Value) (w : World) (K : Value → World → Prop) : Prop :=
  match (execOp f o).run P w with
  | .ok (.value v) w' => K v w'
  | .ok (.enter g args) w' => Calls P g args w' fun e w'' => ∃ v, e = .returned v ∧ K v w''
  | _ => False
theorem OpTo.wp {o : Oper} {a : Act} {w : World} {K : Value → World → Prop} {next : Act → World → Prop} (h : OpTo P o a.eval w K) (hk : ∀ v w', K v w' → next (a.put o.dst v) w') : o.wp P a w next Q := by
  unfold OpTo at h
  unfold Oper.wp
  generalize (execOp a.eval o).run P w = r at *
  cases r with
  | ok n w' =>
    cases n <;> simp only [Oper.upon] at h ⊢
    case value => exact hk _ _ h
    case enter =>
      refine Calls.mono h fun e w'' he => ?_
      obtain ⟨v, rfl, hv⟩ := he
      exact hk _ _ hv
  | halt x w' => exact h.elim
def dstOf (ops : Array Oper) (i : Nat) : Option Tmp := (ops[i]?).bind (·.dst)
def putSel (ops : Array Oper) (vs : Nat → Value) (listed : Array Bool) : List Nat → Act → Act
  | [], a => a
  | j :: js, a => putSel ops vs listed js (if listed.getD j false then a.put (dstOf ops j) (vs j) else a)
def updV (vs : Nat → Value) (i : Nat) (v : Value) : Nat → Value := fun j => if j = i then v else vs j
/-- What is asked of an operation: what it waits for is known. -/
def tyStep (P : Program) (md : Region.Mode) (ops : Array Oper) (S : World → Prop) (R : World → World → Prop) (T : Nat → (Nat → Value) → World → Prop) (C : Nat → Value → Nat → Prop) (i : Nat) (done : List Nat) (vs : Nat → Value) (o : Option Oper) (a : Act) : Prop :=
  match o with
  | none => False
  | some o => ∀ w, S w → (∀ j ∈ done, Region.waitsFor md ops i j = true → T j vs w) →
    (Region.wanted o (yielded ops a.tmps) = true ∧ OpTo P o a.eval w fun v w' => S w' ∧ R w w' ∧ T i (updV vs i v) w' ∧ ∀ b, C i v b → w.heap.size ≤ b ∧ b < w'.heap.size) ∨
    (Region.wanted o (yielded ops a.tmps) = false ∧ T i (updV vs i undef) w ∧ ∀ b, ¬ C i undef b)
/-- The operations in the text's order, each in any world in which it may come; then what has one order. -/
def tyAll (P : Program) (md : Region.Mode) (ops : Array Oper) (Q : Exit → Act → World → Prop) (S : World → Prop) (R : World → World → Prop) (T : Nat → (Nat → Value) → World → Prop) (C : Nat → Value → Nat → Prop) (rest : List Oper) : List Nat → List Nat → (Nat → Value) → Act → Prop
  | [], done, vs, a => ∀ w, S w → (∀ j ∈ done, T j vs w) → (∀ i ∈ done, ∀ j ∈ done, i ≠ j → ∀ b, C i (vs i) b → ¬ C j (vs j) b) → wpList P ops Q rest a w
  | i :: js, done, vs, a => tyStep P md ops S R T C i done vs ops[i]? a ∧ ∀ v, tyAll P md ops Q S R T C rest js (i :: done) (updV vs i v) (a.put (dstOf ops i) v)

/-! The check. -/
def apartB (md : Region.Mode) (ops : Array Oper) (j i : Nat) : Bool :=
  match ops[j]?, ops[i]? with
  | some oj, some oi => (match oi.dst with | some d => !(oj.looksAt ops).contains d && !(oj.dst == some d) | none => true) && (!Region.waitsFor md ops j i && (Region.waitsFor md ops i j || match oj.dst with | some d => !(oi.looksAt ops).contains d | none => true))
  | _, _ => false
theorem apartB_spec {j i : Nat} (h : apartB md ops j i = true) : ∃ oj oi, ops[j]? = some oj ∧ ops[i]? = some oi ∧ (∀ d, oi.dst = some d → d ∉ oj.looksAt ops ∧ oj.dst ≠ some d) ∧ (Region.waitsFor md ops i j = true ∨ ∀ d, oj.dst = some d → d ∉ oi.looksAt ops) ∧ Region.waitsFor md ops j i = false := by
  unfold apartB at h
  split at h
  · rename_i oj oi hj hi
    rw [Bool.and_eq_true, Bool.and_eq_true, Bool.or_eq_true, Bool.not_eq_true'] at h
    refine ⟨oj, oi, hj, hi, fun d hd => ?_, h.2.2.imp id fun h2 d hd => ?_, h.2.1⟩
    · have h1 := h.1
      rw [hd] at h1
      simp only [Bool.and_eq_true, Bool.not_eq_true', beq_eq_false_iff_ne] at h1
      exact ⟨fun hm => (by rw [List.contains_iff_mem.2 hm] at h1; cases h1.1), h1.2⟩
    · rw [hd] at h2
      simp only [Bool.not_eq_true'] at h2
      exact fun hm => (by rw [List.contains_iff_mem.2 hm] at h2; cases h2)
  · cases h
def lookB (md : Region.Mode) (ops : Array Oper) : List Nat → Bool
  | [] => true
  | j :: js => !js.contains j && (js.all (apartB md ops j) && lookB md ops js)
theorem lookB_cons {j : Nat} {js : List Nat} (h : lookB md ops (j :: js) = true) : j ∉ js ∧ (∀ i ∈ js, apartB md ops j i = true) ∧ lookB md ops js = true := by
  simp only [lookB, Bool.and_eq_true, Bool.not_eq_true', List.all_eq_true] at h
  exact ⟨fun hm => (by rw [List.contains_iff_mem.2 hm] at h; cases h.1), h.2.1, h.2.2⟩
theorem dst_ne {j i : Nat} (h : apartB md ops j i = true) : ∀ d, dstOf ops j = some d → dstOf ops i ≠ some d := by
  obtain ⟨oj, oi, hj, hi, h1, _⟩ := apartB_spec h
  intro d hd hd'
  unfold dstOf at hd hd'
  rw [hj] at hd
  rw [hi] at hd'
  exact (h1 d (by simpa using hd')).2 (by simpa using hd)
theorem putSel_put {vs : Nat → Value} {listed : Array Bool} {x : Option Tmp} {v : Value} : ∀ (js : List Nat) (a : Act), (∀ i ∈ js, ∀ d, x = some d → dstOf ops i ≠ some d) → putSel ops vs listed js (a.put x v) = (putSel ops vs listed js a).put x v
  | [], a, _ => rfl
  | j :: js, a, h => by
    unfold putSel
    split
    · rw [Act.put_comm a v (vs j) (h j (by simp))]
      exact putSel_put js _ fun i hi => h i (by simp [hi])
    · exact putSel_put js _ fun i hi => h i (by simp [hi])
theorem putSel_congr {vs vs' : Nat → Value} {listed listed' : Array Bool} : ∀ (js : List Nat) (a : Act), (∀ j ∈ js, listed.getD j false = listed'.getD j false ∧ vs j = vs' j) → putSel ops vs listed js a = putSel ops vs' listed' js a
  | [], a, _ => rfl
  | j :: js, a, h => by
    unfold putSel
    rw [(h j (by simp)).1, (h j (by simp)).2]
    exact putSel_congr js _ fun i hi => h i (by simp [hi])
theorem putSel_set {vs : Nat → Value} {listed : Array Bool} {i : Nat} {v : Value} (hsz : i < listed.size) (hl : listed.getD i false = false) : ∀ (js : List Nat) (a : Act), lookB md ops js = true → i ∈ js →
    putSel ops (updV vs i v) (listed.setIfInBounds i true) js a = (putSel ops vs listed js a).put (dstOf ops i) v
  | [], _, _, h => by cases h
  | j :: js, a, hB, hi => by
    obtain ⟨hn, hap, hB'⟩ := lookB_cons hB
    unfold putSel
    by_cases e : j = i
    · subst e
      have h1 : (listed.setIfInBounds j true).getD j false = true := by simp [hsz]
      rw [h1, if_pos rfl, hl, if_neg (by simp)]
      have h2 : updV vs j v j = v := by simp [updV]
      rw [h2, putSel_put js a fun k hk => dst_ne (hap k hk)]
      rw [putSel_congr (vs' := vs) (listed' := listed) js a fun k hk => (have hkj : k ≠ j := (fun e => hn (by rw [← e]; exact hk)); ⟨getD_set_ne false (Ne.symm hkj), by unfold updV; rw [if_neg hkj]⟩)]
    · have h1 : (listed.setIfInBounds i true).getD j false = listed.getD j false := getD_set_ne false (Ne.symm e)
      have h2 : updV vs i v j = vs j := by simp [updV, e]
      rw [h1, h2]
      exact putSel_set hsz hl js _ hB' (by simpa [Ne.symm e] using hi)
theorem exec_sel {vs : Nat → Value} {listed : Array Bool} {o : Oper} (hs : ∀ cs b, o.op ≠ .select cs b) : ∀ (js : List Nat) (a : Act), (∀ i ∈ js, ∀ d, dstOf ops i = some d → d ∉ o.looksAt ops) →
    execOp (putSel ops vs listed js a).eval o = execOp a.eval o ∧ Region.wanted o (yielded ops (putSel ops vs listed js a).tmps) = Region.wanted o (yielded ops a.tmps)
  | [], a, _ => ⟨rfl, rfl⟩
  | j :: js, a, h => by
    unfold putSel
    split
    · have h1 := exec_sel (vs := vs) (listed := listed) hs js (a.put (dstOf ops j) (vs j)) fun i hi => h i (by simp [hi])
      exact ⟨h1.1.trans (execOp_put o hs a _ _ (h j (by simp))), h1.2.trans (wanted_put o a _ _ (h j (by simp)))⟩
    · exact exec_sel hs js a fun i hi => h i (by simp [hi])
/-- What is known of an operation hangs on its own value and on those that it waits for. -/
def TDep (md : Region.Mode) (ops : Array Oper) (T : Nat → (Nat → Value) → World → Prop) : Prop := ∀ i vs vs' w, vs i = vs' i → (∀ j, Region.waitsFor md ops i j = true → vs j = vs' j) → T i vs w → T i vs' w
theorem ty_step {rest : List Oper} {vs : Nat → Value} {listed : Array Bool} {i : Nat} {o : Oper} (hs : ∀ cs b, o.op ≠ .select cs b) (ho : ops[i]? = some o) (hl : listed.getD i false = false) (hw : ∀ j, Region.waitsFor md ops i j = true → listed.getD j false = true) :
    ∀ (js done : List Nat) (vt : Nat → Value) (a : Act), lookB md ops js = true → i ∈ js → (∀ j, j ∉ js → vt j = vs j) → tyAll P md ops Q S R T C rest js done vt a →
    ∃ done' vt' a', tyStep P md ops S R T C i done' vt' (some o) a' ∧ (∀ j ∈ done', j ∈ done ∨ j ∈ js) ∧ (∀ j, j ∉ js → vt' j = vs j) ∧ (∀ j ∈ done', j ∉ done → vt' j = vs j) ∧ (∀ j, Region.waitsFor md ops i j = true → vt' j = vs j) ∧ (∀ j ∈ done', j ∉ done → ∀ k, Region.waitsFor md ops j k = true → vt' k = vs k) ∧
      execOp (putSel ops vs listed js a).eval o = execOp a'.eval o ∧ Region.wanted o (yielded ops (putSel ops vs listed js a).tmps) = Region.wanted o (yielded ops a'.tmps)
  | [], _, _, _, _, h, _, _ => by cases h
  | j :: js, done, vt, a, hB, hi, hvt, h => by
    obtain ⟨hn, hap, hB'⟩ := lookB_cons hB
    obtain ⟨h1, h2⟩ := h
    unfold putSel
    by_cases e : j = i
    · subst e
      rw [ho] at h1
      rw [hl, if_neg (by simp)]
      refine ⟨done, vt, a, h1, fun k hk => .inl hk, hvt, fun k hk hk' => absurd hk hk', fun k hk => hvt k fun hkm => ?_, fun k hk hk' => absurd hk hk', exec_sel hs js a fun k hk d hd => ?_⟩
      · rcases List.mem_cons.1 hkm with rfl | hkm
        · rw [hw _ hk] at hl; cases hl
        · obtain ⟨_, _, _, _, _, _, h5⟩ := apartB_spec (hap k hkm)
          rw [hk] at h5; cases h5
      · obtain ⟨oj, oi, hj, hi', h3, _⟩ := apartB_spec (hap k hk)
        obtain rfl : oj = o := Option.some.inj (hj.symm.trans ho)
        unfold dstOf at hd
        rw [hi'] at hd
        exact (h3 d (by simpa using hd)).1
    · have hi2 : i ∈ js := by simpa [Ne.symm e] using hi
      have hvt2 : ∀ k, k ∉ js → updV vt j (vs j) k = vs k := by
        intro k hk
        unfold updV
        by_cases ek : k = j
        · rw [if_pos ek, ek]
        · rw [if_neg ek]; exact hvt k fun hm => by
            rcases List.mem_cons.1 hm with h | h
            · exact ek h
            · exact hk h
      obtain ⟨done', vt', a', k1, k2, k5, k6, k7, k8, k3, k4⟩ := ty_step (vs := vs) (listed := listed) hs ho hl hw js _ _ _ hB' hi2 hvt2 (h2 (vs j))
      refine ⟨done', vt', a', k1, fun k hk => ?_, fun k hk => k5 k fun hm => hk (by simp [hm]), fun k hk hk' => ?_, k7, fun j0 hj0 hj0' k hk => ?_, ?_⟩
      · rcases k2 k hk with h | h
        · rcases List.mem_cons.1 h with rfl | h
          · exact .inr (by simp)
          · exact .inl h
        · exact .inr (by simp [h])
      · by_cases ek : k = j
        · subst ek; exact k5 k hn
        · exact k6 k hk fun hm => by
            rcases List.mem_cons.1 hm with h | h
            · exact ek h
            · exact hk' h
      · by_cases ej : j0 = j
        · subst ej
          exact k5 k fun hkm => by
            obtain ⟨_, _, _, _, _, _, h5⟩ := apartB_spec (hap k hkm)
            rw [hk] at h5; cases h5
        · exact k8 j0 hj0 (fun hm => by
            rcases List.mem_cons.1 hm with h | h
            · exact ej h
            · exact hj0' h) k hk
      · cases hlj : listed.getD j false with
        | true => rw [if_pos rfl]; exact ⟨k3, k4⟩
        | false =>
          rw [if_neg (by simp)]
          have hno : ∀ d, dstOf ops j = some d → d ∉ o.looksAt ops := by
            obtain ⟨oj, oi, hj, hi', _, h4, _⟩ := apartB_spec (hap i hi2)
            obtain rfl : oi = o := Option.some.inj (hi'.symm.trans ho)
            intro d hd
            unfold dstOf at hd
            rw [hj] at hd
            rcases h4 with h4 | h4
            · rw [hw j h4] at hlj; cases hlj
            · exact h4 d (by simpa using hd)
          rw [putSel_put js a fun k hk => dst_ne (hap k hk)] at k3 k4
          exact ⟨(execOp_put o hs _ _ _ hno).symm.trans k3, (wanted_put o _ _ _ hno).symm.trans k4⟩
theorem ty_end {rest : List Oper} {vs : Nat → Value} {listed : Array Bool} {w : World} (hS : S w) : ∀ (js done : List Nat) (vt : Nat → Value) (a : Act), lookB md ops js = true → (∀ j ∈ js, listed.getD j false = true) → (∀ j, j ∉ js → vt j = vs j) → tyAll P md ops Q S R T C rest js done vt a →
    (∀ j, j ∈ done ∨ j ∈ js → T j vs w) → (∀ i j, i ∈ done ∨ i ∈ js → j ∈ done ∨ j ∈ js → i ≠ j → ∀ b, C i (vs i) b → ¬ C j (vs j) b) → wpList P ops Q rest (putSel ops vs listed js a) w
  | [], done, vt, a, _, _, hvt, h, hT, hC => by
    have e : vt = vs := funext fun j => hvt j (by simp)
    subst e
    exact h w hS (fun p hp => hT p (.inl hp)) fun p hp q hq => hC p q (.inl hp) (.inl hq)
  | j :: js, done, vt, a, hB, hl, hvt, h, hT, hC => by
    obtain ⟨hn, hap, hB'⟩ := lookB_cons hB
    unfold putSel
    rw [hl j (by simp), if_pos rfl]
    have key : ∀ k, k ∈ j :: done ∨ k ∈ js → k ∈ done ∨ k ∈ j :: js := by
      intro k hk
      rcases hk with hk | hk
      · rcases List.mem_cons.1 hk with rfl | hk
        · exact .inr (by simp)
        · exact .inl hk
      · exact .inr (by simp [hk])
    exact ty_end hS js _ _ _ hB' (fun k hk => hl k (by simp [hk])) (fun k hk => by
      unfold updV
      by_cases ek : k = j
      · rw [if_pos ek, ek]
      · rw [if_neg ek]; exact hvt k fun hm => by
          rcases List.mem_cons.1 hm with h | h
          · exact ek h
          · exact hk h) (h.2 (vs j)) (fun k hk => hT k (key k hk)) fun p q hp hq => hC p q (key p hp) (key q hq)
theorem filter_off {p p' : Nat → Bool} {i : Nat} (hp : p i = true) (hp' : p' i = false) (h : ∀ j, j ≠ i → p' j = p j) : ∀ js : List Nat, i ∈ js → lookB md ops js = true → (js.filter p').length + 1 = (js.filter p).length
  | [], h, _ => by cases h
  | j :: js, hi, hB => by
    obtain ⟨hn, _, hB'⟩ := lookB_cons hB
    by_cases e : j = i
    · subst e
      rw [List.filter_cons_of_neg (by simp [hp']), List.filter_cons_of_pos hp, List.length_cons]
      have : js.filter p' = js.filter p := List.filter_congr fun k hk => h k fun e => hn (e ▸ hk)
      rw [this]
    · have := filter_off hp hp' h js (by simpa [Ne.symm e] using hi) hB'
      cases hpj : p j with
      | true =>
        rw [List.filter_cons_of_pos hpj, List.filter_cons_of_pos (by rw [h j e]; exact hpj), List.length_cons, List.length_cons]
        omega
      | false =>
        rw [List.filter_cons_of_neg (by rw [h j e, hpj]; simp), List.filter_cons_of_neg (by rw [hpj]; simp)]
        exact this
/-- All of the first m have come up. -/
def fullTo (m n : Nat) : Array Bool := (List.replicate m true ++ List.replicate n false).toArray
theorem full_eq {m n : Nat} {listed : Array Bool} (hs : listed.size = m + n) (h1 : ∀ j, j < m → listed.getD j false = true) (h2 : ∀ t, m ≤ t → listed.getD t false = false) : listed = fullTo m n := by
  have hz : (fullTo m n).size = m + n := by simp [fullTo]
  refine Array.ext (by rw [hs, hz]) fun t ht ht' => ?_
  have e : listed.getD t false = listed[t] := by simp [ht]
  rw [← e]
  by_cases hm : t < m
  · rw [h1 t hm]
    simp [fullTo, hm]
  · rw [h2 t (by omega)]
    simp [fullTo, List.getElem_append, hm]
/-- What may come up waits for lesser ones alone. -/
def lessB (md : Region.Mode) (ops : Array Oper) (js : List Nat) : Bool := js.all fun i => match ops[i]? with | some o => o.after.all (fun e => !Region.binds md e || decide (e.on < i)) | none => false
structure TyInv (S : World → Prop) (T : Nat → (Nat → Value) → World → Prop) (C : Nat → Value → Nat → Prop) (js : List Nat) (listed : Array Bool) (vs : Nat → Value) (w : World) : Prop where
  s : S w
  t : ∀ j ∈ js, listed.getD j false = true → T j vs w
  b : ∀ j ∈ js, listed.getD j false = true → ∀ b, C j (vs j) b → b < w.heap.size
  c : ∀ i ∈ js, ∀ j ∈ js, listed.getD i false = true → listed.getD j false = true → i ≠ j → ∀ b, C i (vs i) b → ¬ C j (vs j) b
theorem ty_any {rest : List Oper} {m : Nat} {js : List Nat} {a : Act} (hsel : Region.noSelect ops = true) (hs : sinkX md ops [] m = true) (hc : Region.chainB md ops m = true) (hm : m < ops.size) (hrest : ∀ j, rest[j]? = ops[m + j]?) (hlen : rest.length = ops.size - m)
    (hlook : lookB md ops js = true) (hless : lessB md ops js = true) (hjm : ∀ j ∈ js, j < m) (hseq : Region.seqB md ops rest.length m (fullTo m (ops.size - m)) = true)
    (hRz : ∀ w w', R w w' → w.heap.size ≤ w'.heap.size) (hRT : ∀ i vs w w', S w → S w' → R w w' → T i vs w → T i vs w') (hTD : TDep md ops T) (vs0 : Nat → Value) (h : tyAll P md ops Q S R T C rest js [] vs0 a) :
    ∀ (n : Nat) (listed : Array Bool) (vs : Nat → Value) (w : World), ShutUp md ops listed → (∀ j, j < m → j ∉ js → listed.getD j false = true) → (∀ t, m ≤ t → listed.getD t false = false) →
      (js.filter fun j => !listed.getD j false).length = n → (∀ j, j ∉ js → vs0 j = vs j) → TyInv S T C js listed vs w → anyTo P md ops Q S [] m (n + rest.length) listed (putSel ops vs listed js a) w := by
  intro n
  induction n with
  | zero =>
    intro listed vs w inv hpre htail hn hv0 I
    have hall : ∀ j ∈ js, listed.getD j false = true := by
      intro j hj
      have h0 := List.eq_nil_of_length_eq_zero hn
      cases hl : listed.getD j false with
      | true => rfl
      | false =>
        have : j ∈ js.filter fun j => !listed.getD j false := List.mem_filter.2 ⟨hj, by rw [hl]; rfl⟩
        rw [h0] at this
        cases this
    have hfull : listed = fullTo m (ops.size - m) := full_eq (by rw [inv.size]; omega) (fun j hj => by
      by_cases hjs : j ∈ js
      · exact hall j hjs
      · exact hpre j hj hjs) htail
    rw [Nat.zero_add]
    refine to_of_list rest m listed _ w (Nat.le_refl _) hrest (by rw [hfull]; exact hseq) ?_
    refine ty_end I.s js [] vs0 a hlook hall hv0 h (fun p hp => ?_) fun p q hp hq hne => ?_
    · rcases hp with hp | hp
      · cases hp
      · exact I.t _ hp (hall _ hp)
    · rcases hp with hp | hp
      · cases hp
      · rcases hq with hq | hq
        · cases hq
        · exact I.c _ hp _ hq (hall _ hp) (hall _ hq) hne
  | succ n ih =>
    intro listed vs w inv hpre htail hn hv0 I
    have hex : ∃ j, j ∈ js ∧ listed.getD j false = false := by
      cases hf : js.filter fun j => !listed.getD j false with
      | nil => rw [hf] at hn; cases hn
      | cons j _ =>
        have hj : j ∈ js.filter fun j => !listed.getD j false := by rw [hf]; simp
        obtain ⟨h1, h2⟩ := List.mem_filter.1 hj
        exact ⟨j, h1, by simpa using h2⟩
    have hready : ∀ d i, i = d → i ∈ js → listed.getD i false = false → ∃ k, k ∈ Region.ready md ops listed := by
      intro d
      induction d using Nat.strongRecOn with
      | _ d ihd =>
        intro i hid hi hli
        have h1 := List.all_eq_true.1 hless i hi
        have him := hjm i hi
        have ho : ops[i]? = some ops[i] := Array.getElem?_eq_getElem (by omega)
        rw [ho] at h1
        simp only [Array.all_eq_true_iff_forall_mem, Bool.or_eq_true, Bool.not_eq_true', decide_eq_true_eq] at h1
        by_cases hall : ∀ e ∈ (ops[i]).after, Region.binds md e = true → listed.getD e.on false = true
        · exact ⟨i, mem_ready.2 ⟨getD_in (by rw [inv.size]; omega) hli, _, ho, hall⟩⟩
        · simp only [Classical.not_forall] at hall
          obtain ⟨e, he, hb, hne⟩ := hall
          have hlt : e.on < i := (h1 e he).resolve_left (by rw [hb]; simp)
          have hne' : listed.getD e.on false = false := by simpa using hne
          have hejs : e.on ∈ js := by
            by_cases hjs : e.on ∈ js
            · exact hjs
            · rw [hpre e.on (by omega) hjs] at hne'; cases hne'
          exact ihd e.on (by omega) e.on rfl hejs hne'
    obtain ⟨j0, hj0, hlj0⟩ := hex
    obtain ⟨k0, hk0⟩ := hready j0 j0 rfl hj0 hlj0
    rw [show n + 1 + rest.length = (n + rest.length) + 1 from by omega]
    refine ⟨fun e => (by rw [e] at hk0; cases hk0), fun i hi => ?_⟩
    have him : i < m := Nat.lt_of_not_le fun hle => late hs hc hm inv (hjm j0 hj0) (by simp) (getD_in (by rw [inv.size]; have := hjm j0 hj0; omega) hlj0) i hle hi
    have hisz : i < listed.size := by rw [inv.size]; omega
    obtain ⟨hli, o, ho, hafter⟩ := mem_ready.1 hi
    have hlif : listed.getD i false = false := getD_both hli
    have hijs : i ∈ js := by
      by_cases hjs : i ∈ js
      · exact hjs
      · rw [hpre i him hjs] at hlif; cases hlif
    have hwait : ∀ j, Region.waitsFor md ops i j = true → listed.getD j false = true := by
      intro j hj
      obtain ⟨o', ho', e, he, hb, hon⟩ := Region.waitsFor_spec hj
      obtain rfl : o' = o := Option.some.inj (ho'.symm.trans ho)
      rw [← hon]
      exact hafter e he hb
    obtain ⟨done', vt', a', hst, hdone, hvo, hvd, hvw, hvk, hexec, hwant⟩ := ty_step (vs := vs) (listed := listed) (Region.noSelect_spec hsel i o · · ho) ho hlif hwait js [] vs0 a hlook hijs hv0 h
    have next : ∀ v w', S w' → T i (updV vs i v) w' → (w.heap.size ≤ w'.heap.size) → (∀ j ∈ js, listed.getD j false = true → T j vs w') → (∀ b, C i v b → w.heap.size ≤ b ∧ b < w'.heap.size) →
        (i < m → ([] : List Nat).contains i = false → S w') ∧ anyTo P md ops Q S [] m (n + rest.length) (listed.setIfInBounds i true) ((putSel ops vs listed js a).put o.dst v) w' := by
      intro v w' hSw hTv hz hTs hCv
      refine ⟨fun _ _ => hSw, ?_⟩
      have hd : o.dst = dstOf ops i := by unfold dstOf; rw [ho]; rfl
      rw [hd, ← putSel_set hisz hlif js a hlook hijs]
      have hold : ∀ j, j ≠ i → (listed.setIfInBounds i true).getD j false = listed.getD j false := fun j hj => getD_set_ne false (Ne.symm hj)
      have hnew : (listed.setIfInBounds i true).getD i false = true := by simp [hisz]
      have vi : updV vs i v i = v := by simp [updV]
      have vj : ∀ j, j ≠ i → updV vs i v j = vs j := fun j hj => by simp [updV, hj]
      refine ih _ _ _ (inv.set hi) (fun j hj hjs => getD_set_true (hpre j hj hjs)) (fun t ht => by rw [hold t (by omega)]; exact htail t ht) ?_ (fun j hj => by rw [vj j (fun e => hj (e ▸ hijs))]; exact hv0 j hj) ⟨hSw, fun j hj hl => ?_, fun j hj hl b hb => ?_, fun p hp q hq hlp hlq hne b hb => ?_⟩
      · have := filter_off (md := md) (ops := ops) (p := fun j => !listed.getD j false) (p' := fun j => !(listed.setIfInBounds i true).getD j false) (i := i) (by show (!listed.getD i false) = true; rw [hlif]; rfl) (by show (!(listed.setIfInBounds i true).getD i false) = false; rw [hnew]; rfl) (fun j hj => by show (!(listed.setIfInBounds i true).getD j false) = (!listed.getD j false); rw [hold j hj]) js hijs hlook
        omega
      · by_cases e : j = i
        · subst e; exact hTv
        · have hlj : listed.getD j false = true := by rw [← hold j e]; exact hl
          refine hTD j vs _ w' (vj j e).symm (fun k hk => (vj k fun ek => ?_).symm) (hTs j hj hlj)
          subst ek
          obtain ⟨oj, hoj, e', he', hb', hon'⟩ := Region.waitsFor_spec hk
          have := inv.closed j oj hoj hlj e' he' hb'
          rw [hon', hlif] at this
          cases this
      · by_cases e : j = i
        · subst e; rw [vi] at hb; exact (hCv b hb).2
        · rw [vj j e] at hb
          exact Nat.lt_of_lt_of_le (I.b j hj (by rw [← hold j e]; exact hl) b hb) hz
      · by_cases ep : p = i
        · subst ep
          rw [vi] at hb
          rw [vj q (Ne.symm hne)]
          intro hb'
          have := I.b q hq (by rw [← hold q (Ne.symm hne)]; exact hlq) b hb'
          have := (hCv b hb).1
          omega
        · rw [vj p ep] at hb
          by_cases eq : q = i
          · subst eq
            rw [vi]
            intro hb'
            have := I.b p hp (by rw [← hold p ep]; exact hlp) b hb
            have := (hCv b hb').1
            omega
          · rw [vj q eq]
            exact I.c p hp q hq (by rw [← hold p ep]; exact hlp) (by rw [← hold q eq]; exact hlq) hne b hb
    have hst := hst w I.s fun j hj hw => by
      have hjj : j ∈ js := (hdone j hj).resolve_left (by simp)
      have hlj := hwait j hw
      refine hTD j vs vt' w (hvd j hj (by simp)).symm (fun k hk => (hvk j hj (by simp) k hk).symm) (I.t j hjj hlj)
    have tdep : ∀ v w', T i (updV vt' i v) w' → T i (updV vs i v) w' := fun v w' ht => hTD i _ _ w' (by simp [updV]) (fun k hk => by
      have hki : k ≠ i := fun e => by rw [e] at hk; rw [hwait i hk] at hlif; cases hlif
      simp only [updV, if_neg hki]
      exact hvw k hk) ht
    unfold wpOp
    simp only [ho]
    rcases hst with ⟨h1, h2⟩ | ⟨h1, h2, h3⟩
    · rw [if_pos (hwant.trans h1)]
      refine .inl (OpTo.wp (K := fun v w' => S w' ∧ R w w' ∧ T i (updV vt' i v) w' ∧ ∀ b, C i v b → w.heap.size ≤ b ∧ b < w'.heap.size) (by unfold OpTo at h2 ⊢; rw [hexec]; exact h2) fun v w' hk => ?_)
      exact next v w' hk.1 (tdep _ _ hk.2.2.1) (hRz _ _ hk.2.1) (fun j hj hl => hRT _ _ _ _ I.s hk.1 hk.2.1 (I.t j hj hl)) hk.2.2.2
    · rw [if_neg (by rw [hwant, h1]; simp)]
      exact next undef w I.s (tdep _ _ h2) (Nat.le_refl _) I.t fun b hb => absurd hb (h3 b)
theorem taken_shut {m : Nat} : ∀ (is : List Nat) (listed : Array Bool), ShutUp md ops listed → takesTo md ops m is listed = true → ShutUp md ops (takenAll is listed)
  | [], _, h, _ => h
  | i :: is, listed, h, hB => by
    simp only [takesTo, Bool.and_eq_true, decide_eq_true_eq] at hB
    exact taken_shut is _ (h.set (by simpa using hB.2.2.2.1)) hB.2.2.2.2
theorem taken_in : ∀ (is : List Nat) (listed : Array Bool) (j : Nat), j < listed.size → j ∈ is ∨ listed.getD j false = true → (takenAll is listed).getD j false = true
  | [], _, _, _, h => h.resolve_left (by simp)
  | i :: is, listed, j, hj, h => by
    refine taken_in is _ j (by simpa using hj) ?_
    rcases h with h | h
    · rcases List.mem_cons.1 h with rfl | h
      · exact .inr (by simp [hj])
      · exact .inl h
    · exact .inr (getD_set_true h)
theorem taken_out : ∀ (is : List Nat) (listed : Array Bool) (j : Nat), j ∉ is → (takenAll is listed).getD j false = listed.getD j false
  | [], _, _, _ => rfl
  | i :: is, listed, j, h => by
    unfold takenAll
    rw [taken_out is _ j (fun hm => h (by simp [hm])), getD_set_ne false fun e => h (by simp [e])]
/-- The check, for the kernel. -/
def tyB (md : Region.Mode) (ops : Array Oper) (is : List Nat) (m : Nat) (js : List Nat) : Bool :=
  Region.noSelect ops && (decide (m < ops.size) && (decide (is.length + (js.length + (ops.size - m)) = ops.size) && (sinkX md ops [] m && (Region.chainB md ops m && (takesTo md ops m is (Array.replicate ops.size false) &&
    (lookB md ops js && (lessB md ops js && (js.all (fun j => decide (j < m) && !is.contains j) && ((List.range m).all (fun j => is.contains j || js.contains j) && (is.all (fun i => decide (i < m)) && Region.seqB md ops (ops.size - m) m (fullTo m (ops.size - m))))))))))))
/-- THE LAW: the operations 'is' only read; those of 'js' call or make memory; from m on there is one order. T: what is known of what an operation left; C: the memory that it has made its own. -/
theorem wp_region_typed {id : Nat} {a : Act} {w : World} {l : List Oper} (S : World → Prop) (R : World → World → Prop) (T : Nat → (Nat → Value) → World → Prop) (C : Nat → Value → Nat → Prop) (is : List Nat) (m : Nat) (js : List Nat) (hf : P.follows .mixedOrders = true) (hB : tyB .any l.toArray is m js = true) (hS : S w.drew)
    (hRz : ∀ w w', R w w' → w.heap.size ≤ w'.heap.size) (hRT : ∀ i vs w w', S w → S w' → R w w' → T i vs w → T i vs w') (hTD : TDep .any l.toArray T)
    (h : wpHead P l.toArray Q S (fun a' => tyAll P .any l.toArray Q S R T C (l.drop m) js [] (fun _ => undef) a') (is.filterMap fun i => l[i]?) a) : (Code.region id l.toArray true).wp P Q a w := by
  simp only [tyB, Bool.and_eq_true, decide_eq_true_eq, List.all_eq_true, Bool.not_eq_true', Bool.or_eq_true] at hB
  obtain ⟨hsel, hm, hsz, hs, hc, ht, hlook, hless, hjm, hcov, him, hseq⟩ := hB
  have inv0 : ShutUp .any l.toArray (Array.replicate l.toArray.size false) := ⟨by simp, fun j oj _ hl => (by rw [getD_replicate_false] at hl; cases hl)⟩
  have hlen : (l.drop m).length = l.toArray.size - m := by rw [List.length_drop]; simp
  suffices key : ∀ F, F = is.length + (js.length + (l.drop m).length) → anyTo P .any l.toArray Q S [] m F (Array.replicate l.toArray.size false) a w.drew from
    wp_region_any hf (any_of_anyTo (S := S) (ex := []) (m := m) _ _ _ _ (key _ (by rw [hlen]; exact hsz.symm)))
  rintro _ rfl
  have hnot : ∀ j, j ∉ is → (takenAll is (Array.replicate l.toArray.size false)).getD j false = false := fun j hj => by rw [taken_out _ _ _ hj, getD_replicate_false]
  have hjis : ∀ j ∈ js, j ∉ is := fun j hj hm => by
    have := (hjm j hj).2
    rw [List.contains_iff_mem.2 hm] at this
    cases this
  refine to_takes hsel hs hc hm hS is _ a inv0 ht (fun a' hK => ?_) (by simpa using h)
  have hf0 : ∀ j ∈ js, (takenAll is (Array.replicate l.toArray.size false)).getD j false = false := fun j hj => hnot j (hjis j hj)
  have hp0 : ∀ (js : List Nat) (a : Act), (∀ j ∈ js, (takenAll is (Array.replicate l.toArray.size false)).getD j false = false) → putSel l.toArray (fun _ => undef) (takenAll is (Array.replicate l.toArray.size false)) js a = a := by
    intro js
    induction js with
    | nil => intro a _; rfl
    | cons j js ih =>
      intro a h
      unfold putSel
      rw [h j (by simp), if_neg (by simp)]
      exact ih a fun k hk => h k (by simp [hk])
  have := ty_any (P := P) (md := .any) (ops := l.toArray) (Q := Q) (S := S) (R := R) (T := T) (C := C) (rest := l.drop m) (m := m) (js := js) (a := a') hsel hs hc hm (fun j => by rw [List.getElem?_drop, List.getElem?_toArray]) hlen hlook hless (fun j hj => (hjm j hj).1) (by rw [hlen]; exact hseq) hRz hRT hTD (fun _ => undef) hK js.length (takenAll is (Array.replicate l.toArray.size false)) (fun _ => undef) w.drew
    (taken_shut is _ inv0 ht) (fun j hj hjs => taken_in is _ j (by simpa using Nat.lt_trans hj (by simpa using hm)) (.inl (by
      rcases hcov j (List.mem_range.2 hj) with h | h
      · simpa using h
      · exact absurd (by simpa using h) hjs))) (fun t ht => hnot t fun hm => by have := him t hm; omega) (by
        rw [List.filter_eq_self.2]
        intro j hj
        rw [hf0 j hj]; rfl) (fun _ _ => rfl) ⟨hS, fun j hj hl => (by rw [hf0 j hj] at hl; cases hl), fun j hj hl => (by rw [hf0 j hj] at hl; cases hl), fun i hi j hj hl => (by rw [hf0 i hi] at hl; cases hl)⟩
  rw [hp0 js a' hf0] at this
  exact this
/-! Words for the walk. -/
theorem TDep.own (T : Nat → Value → World → Prop) : TDep md ops (fun i vs w => T i (vs i) w) := fun i vs vs' w h _ ht => by
  show T i (vs' i) w
  rw [← h]
  exact ht
theorem ty_nil {rest : List Oper} {done : List Nat} {vs : Nat → Value} {a : Act} (h : ∀ w, S w → (∀ j ∈ done, T j vs w) → (∀ i ∈ done, ∀ j ∈ done, i ≠ j → ∀ b, C i (vs i) b → ¬ C j (vs j) b) → wpList P ops Q rest a w) : tyAll P md ops Q S R T C rest [] done vs a := h
theorem ty_one {rest : List Oper} {i : Nat} {js done : List Nat} {vs : Nat → Value} {a : Act} {o : Oper} (ho : ops[i]? = some o) (hw : Region.wanted o (yielded ops a.tmps) = true)
    (h : ∀ w, S w → (∀ j ∈ done, Region.waitsFor md ops i j = true → T j vs w) → OpTo P o a.eval w fun v w' => S w' ∧ R w w' ∧ T i (updV vs i v) w' ∧ ∀ b, C i v b → w.heap.size ≤ b ∧ b < w'.heap.size)
    (hk : ∀ v, tyAll P md ops Q S R T C rest js (i :: done) (updV vs i v) (a.put o.dst v)) : tyAll P md ops Q S R T C rest (i :: js) done vs a := by
  refine ⟨?_, fun v => ?_⟩
  · rw [ho]
    exact fun w hS hT => .inl ⟨hw, h w hS hT⟩
  · have hd : dstOf ops i = o.dst := by unfold dstOf; rw [ho]; rfl
    rw [hd]
    exact hk v
theorem OpTo.enter {o : Oper} {f : Operand → Value} {w w' : World} {g : FuncId} {args : Array Value} {K : Value → World → Prop} (h : (execOp f o).run P w = .ok (.enter g args) w') (hc : Calls P g args w' fun e w'' => ∃ v, e = .returned v ∧ K v w'') : OpTo P o f w K := by
  unfold OpTo
  rw [h]
  exact hc
theorem OpTo.value {o : Oper} {f : Operand → Value} {w w' : World} {v : Value} {K : Value → World → Prop} (h : (execOp f o).run P w = .ok (.value v) w') (hK : K v w') : OpTo P o f w K := by
  unfold OpTo
  rw [h]
  exact hK
end
end Go.Proofs.Ytpgbfglfmmohdaa
namespace Go.Proofs.Ytpgbfglfmmohdaa
open Go

section
variable {P : Program} {ops : Array Oper} {md : Region.Mode} {Q : Exit → Act → World → Prop} {S : World → Prop}
/-- What calls or makes memory, one behind the other, S shown anew behind each. -/
def wpMidC (P : Program) (ops : Array Oper) (S : World → Prop) (K : Act → World → Prop) : List Oper → Act → World → Prop
  | [], a, w => K a w
  | o :: l, a, w => Region.wanted o (yielded ops a.tmps) = true ∧ OpTo P o a.eval w fun v w1 => S w1 ∧ wpMidC P ops S K l (a.put o.dst v) w1
theorem midc_call {K : Act → World → Prop} {o : Oper} {l : List Oper} {a : Act} {w w' : World} {g : FuncId} {args : Array Value} (h0 : Region.wanted o (yielded ops a.tmps) = true) (h : (execOp a.eval o).run P w = .ok (.enter g args) w')
    (hk : Calls P g args w' fun e w1 => ∃ v, e = .returned v ∧ S w1 ∧ wpMidC P ops S K l (a.put o.dst v) w1) : wpMidC P ops S K (o :: l) a w := ⟨h0, OpTo.enter h hk⟩
theorem midc_step {K : Act → World → Prop} {o : Oper} {l : List Oper} {a : Act} {w : World} (v : Value) (w1 : World) (h0 : Region.wanted o (yielded ops a.tmps) = true) (h : (execOp a.eval o).run P w = .ok (.value v) w1) (hs : S w1) (hk : wpMidC P ops S K l (a.put o.dst v) w1) : wpMidC P ops S K (o :: l) a w :=
  ⟨h0, OpTo.value h ⟨hs, hk⟩⟩
theorem midc_append {K : Act → World → Prop} {l : List Oper} {o : Oper} {a : Act} (hgd : o.guard = none) (w w' : World) (s x : Operand) (T : TypeId) (v sv v' : Value)
    (ho : o.op = .call { callee := .builtin .append, args := #[s, x], argTypes := #[T, T] }) (hs : a.eval s = v) (hx : a.eval x = sv) (hrun : (Builtin.append_ #[T, T] o.type #[v, sv]).run P w = .ok v' w') (hS : S w') (h : wpMidC P ops S K l (a.put o.dst v') w') : wpMidC P ops S K (o :: l) a w := by
  refine midc_step v' w' (by simp [Region.wanted, hgd]) ?_ hS h
  unfold execOp
  simp only [ho, resolve, invoke, builtin, Sem.run_bind, Sem.run_pure, Result.andThen_ok, List.map_toArray, List.map_cons, List.map_nil, hs, hx, hrun]
theorem midc_nil {K : Act → World → Prop} {a : Act} {w : World} (h : K a w) : wpMidC P ops S K [] a w := h
theorem to_of_midC {ex : List Nat} {m g : Nat} (rest : List Oper) (hg : g = rest.length) (hrest : ∀ j, rest[j]? = ops[m + j]?) : ∀ (l : List Oper) (k : Nat) (listed : Array Bool) (a : Act) (w : World), k + l.length = m → (∀ j, j < l.length → l[j]? = ops[k + j]?) →
    Region.seqB md ops (l.length + g) k listed = true → wpMidC P ops S (wpList P ops Q rest) l a w → anyTo P md ops Q S ex m (l.length + g) listed a w
  | [], k, listed, a, w, hk, _, hB, h => by
    obtain rfl : k = m := by simpa using hk
    rw [List.length_nil, Nat.zero_add] at hB ⊢
    rw [hg] at hB ⊢
    exact to_of_list rest k listed a w (Nat.le_refl _) hrest hB h
  | o :: l, k, listed, a, w, hk, hl, hB, h => by
    have h0 : ops[k]? = some o := by simpa using (hl 0 (by simp)).symm
    rw [List.length_cons, show l.length + 1 + g = (l.length + g) + 1 from by omega] at hB ⊢
    rw [List.length_cons] at hk
    simp only [Region.seqB, Bool.and_eq_true, decide_eq_true_eq] at hB
    refine ⟨fun h1 => (by rw [hB.1] at h1; cases h1), fun i hi => ?_⟩
    rw [hB.1] at hi
    obtain rfl : i = k := by simpa using hi
    obtain ⟨hw, hm⟩ := h
    unfold wpOp
    simp only [h0, hw, if_true]
    refine .inl (OpTo.wp hm fun v w' hk' => ⟨fun _ _ => hk'.1, to_of_midC rest hg hrest l (i + 1) _ _ _ (by omega) (fun j hj => ?_) hB.2 hk'.2⟩)
    have := hl (j + 1) (by rw [List.length_cons]; omega)
    simpa [Nat.add_assoc, Nat.add_comm 1 j] using this
/-- THE LAW: operation 0 copies a letter; operations 1 to p only read; q operations call or make memory; then what has one order. -/
theorem wp_region_readsC {id : Nat} {a : Act} {w : World} {o : Oper} {l : List Oper} (S : World → Prop) (v : Value) (p q : Nat) (hf : P.follows .mixedOrders = true) (hB : tailB .any (o :: l).toArray (p + 1) (p + 1 + q) = true)
    (hy : Yields P (o :: l).toArray o v a) (hQ : ∀ c a w, Q (.panic c) (a.put o.dst v) w → Q (.panic c) a w) (hS : S w.drew)
    (h : wpHead P (o :: l).toArray Q S (fun a' => wpMidC P (o :: l).toArray S (wpList P (o :: l).toArray Q ((l.drop p).drop q)) ((l.drop p).take q) a' w.drew) (l.take p) (a.put o.dst v)) : (Code.region id (o :: l).toArray true).wp P Q a w := by
  simp only [tailB, Bool.and_eq_true, decide_eq_true_eq] at hB
  obtain ⟨hsel, hm, _, hnm, hs, hc, hfr, hr, hlex⟩ := hB
  have hsz : (o :: l).toArray.size = l.length + 1 := by simp
  rw [hsz] at hm
  have inv0 : ShutUp .any (o :: l).toArray (Array.replicate (o :: l).toArray.size false) := ⟨by simp, fun j oj _ hl => (by rw [getD_replicate_false] at hl; cases hl)⟩
  have hr0 : 0 ∈ Region.ready .any (o :: l).toArray (Array.replicate (o :: l).toArray.size false) := by simpa using hr
  have hpl : p ≤ l.length := by omega
  have htk : (l.take p).length = p := by rw [List.length_take]; omega
  have hmd : ((l.drop p).take q).length = q := by rw [List.length_take, List.length_drop]; omega
  have htl : ((l.drop p).drop q).length = l.length + 1 - (p + 1 + q) := by rw [List.length_drop, List.length_drop]; omega
  have hg : (o :: l).toArray.size - (p + 1) = q + ((l.drop p).drop q).length := by rw [hsz, htl]; omega
  suffices key : ∀ F, F = (p + ((o :: l).toArray.size - (p + 1))) + 1 → anyTo P .any (o :: l).toArray Q S [0] (p + 1 + q) F (Array.replicate (o :: l).toArray.size false) a w.drew from
    wp_region_any hf (any_of_anyTo (S := S) (ex := [0]) (m := p + 1 + q) _ _ _ _ (key _ (by rw [hsz]; omega)))
  rintro _ rfl
  refine anyTo_first (i := 0) (oi := o) (T := fun _ => True) (I := fun _ => True) (by simp) hsel hQ (fun _ _ _ => trivial) (fun _ _ _ h => by simp at h) (fun _ _ _ _ _ _ _ _ => trivial) _ _ _ _ inv0 trivial (Region.free_spec (by simp) hfr) hr0
    (hy.imp (fun ⟨h1, h2⟩ => ⟨h1, fun w _ => h2 w⟩) fun h => h) trivial ?_
  have H := to_of_head (md := .any) (P := P) (ops := (o :: l).toArray) (Q := Q) (S := S) (ex := [0]) (m := p + 1 + q) (n := p + 1) (g := (o :: l).toArray.size - (p + 1)) (w := w.drew) (K := fun a' => wpMidC P (o :: l).toArray S (wpList P (o :: l).toArray Q ((l.drop p).drop q)) ((l.drop p).take q) a' w.drew)
    hsel hs hc (by rw [hsz]; exact hm) hnm hS (fun listed a' hseq hK => by
      rw [hg] at hseq ⊢
      have := to_of_midC (md := .any) (P := P) (ops := (o :: l).toArray) (Q := Q) (S := S) (ex := [0]) (m := p + 1 + q) (g := ((l.drop p).drop q).length) ((l.drop p).drop q) rfl (fun j => by
        rw [List.getElem?_drop, List.getElem?_drop, List.getElem?_toArray, show p + 1 + q + j = (p + (q + j)) + 1 from by omega, List.getElem?_cons_succ]) ((l.drop p).take q) (p + 1) listed a' w.drew (by rw [hmd]) (fun j hj => by
          rw [hmd] at hj
          rw [List.getElem?_take, if_pos hj, List.getElem?_drop, List.getElem?_toArray, show p + 1 + j = (p + j) + 1 from by omega, List.getElem?_cons_succ]) (by rw [hmd]; exact hseq) hK
      rw [hmd] at this
      exact this)
    (l.take p) 1 _ (a.put o.dst v) (fun j hj => by
      rw [htk] at hj
      rw [List.getElem?_take, if_pos hj, List.getElem?_toArray, Nat.add_comm, List.getElem?_cons_succ]) (by rw [htk]; omega) (fun j h1 _ => by simp; omega) (inv0.set hr0) (fun x hx => by
      obtain rfl : x = 0 := by simpa using hx
      simp) (by rw [htk]; exact hlex) h
  rw [htk] at H
  exact H
end
end Go.Proofs.Ytpgbfglfmmohdaa
namespace Go.Proofs.Ytpgbfglfmmohdaa
open Go

section
variable {P : Program} {ops : Array Oper} {md : Region.Mode} {Q : Exit → Act → World → Prop} {S : World → Prop}
/-- Each from m on but m itself waits for one ahead of it, from m on. -/
def tailW (md : Region.Mode) (ops : Array Oper) (m : Nat) : Bool :=
  (List.range (ops.size - m)).all fun d => decide (d = 0) || (List.range d).any fun e => Region.waitsFor md ops (m + d) (m + e)
/-- While one of the first m has not come up, none from m on may. -/
theorem lateW {m : Nat} (hs : sinkX md ops [] m = true) (hc : tailW md ops m = true) (hm : m < ops.size) {listed : Array Bool} (h : ShutUp md ops listed) :
    ∀ {i : Nat}, i < m → listed.getD i true = false → ∀ t, m ≤ t → t ∉ Region.ready md ops listed := by
  have stays : ∀ i j, listed.getD i true = false → Region.waitsFor md ops j i = true → listed.getD j false = false ∧ j ∉ Region.ready md ops listed := by
    intro i j hun hw
    obtain ⟨oj, hoj, e, he, hb, hon⟩ := Region.waitsFor_spec hw
    refine ⟨?_, fun hr => ?_⟩
    · cases hl : listed.getD j false with
      | false => rfl
      | true =>
        have h2 := h.closed j oj hoj hl e he hb
        rw [hon, getD_both hun] at h2
        cases h2
    · obtain ⟨_, oj', hoj', hall⟩ := mem_ready.1 hr
      obtain rfl : oj' = oj := Option.some.inj (hoj'.symm.trans hoj)
      have h2 := hall e he hb
      rw [hon, getD_both hun] at h2
      cases h2
  have atM : ∀ d i, m - i = d → i < m → listed.getD i true = false → listed.getD m false = false ∧ m ∉ Region.ready md ops listed := by
    intro d
    induction d using Nat.strongRecOn with
    | _ d ih =>
      intro i hd hi hun
      have h1 := List.all_eq_true.1 hs i (List.mem_range.2 hi)
      simp only [List.contains_nil, Bool.false_or] at h1
      obtain ⟨j, hj, hj2⟩ := List.any_eq_true.1 h1
      rw [Bool.and_eq_true, decide_eq_true_eq] at hj2
      have hjm : j ≤ m := Nat.le_of_lt_succ (List.mem_range.1 hj)
      have hw : Region.waitsFor md ops j i = true := by
        have := hj2.2
        simpa using this
      have h2 := stays i j hun hw
      by_cases e : j = m
      · subst e
        exact h2
      · exact ih (m - j) (by omega) j rfl (by omega) (getD_in (by rw [h.size]; omega) h2.1)
  intro i hi hun t ht
  obtain ⟨k1, k2⟩ := atM _ i rfl hi hun
  have up : ∀ d, m + d < ops.size → listed.getD (m + d) false = false ∧ m + d ∉ Region.ready md ops listed := by
    intro d
    induction d using Nat.strongRecOn with
    | _ d ih =>
      intro hd
      by_cases e0 : d = 0
      · subst e0
        exact ⟨k1, k2⟩
      · have h1 := List.all_eq_true.1 hc d (List.mem_range.2 (by omega))
        rw [Bool.or_eq_true, decide_eq_true_eq] at h1
        obtain ⟨e, he, hw⟩ := List.any_eq_true.1 (h1.resolve_left e0)
        have hed := List.mem_range.1 he
        exact stays (m + e) (m + d) (getD_in (by rw [h.size]; omega) (ih e hed (by omega)).1) hw
  intro hr
  have hts : t < ops.size := by
    obtain ⟨_, ot, hot, _⟩ := mem_ready.1 hr
    exact (Array.getElem?_eq_some_iff.1 hot).1
  obtain ⟨d, rfl⟩ := Nat.exists_eq_add_of_le ht
  exact (up d hts).2 hr
/-- Where the first m have come up, nothing is asked any more. -/
theorem anyTo_of_any {m : Nat} : ∀ (f : Nat) (listed : Array Bool) (a : Act) (w : World), (∀ i, i < m → listed.getD i true = true) → wpAny P md ops Q f listed a w → anyTo P md ops Q S [] m f listed a w
  | 0, _, _, _, _, h => h
  | f + 1, listed, a, w, hl, h => ⟨h.1, fun i hi => wpOp_mono (fun a' w' h' => by
      have hmi : ¬ i < m := fun hlt => by
        have h1 := hl i hlt
        rw [(mem_ready.1 hi).1] at h1
        cases h1
      refine ⟨fun hlt => absurd hlt hmi, anyTo_of_any f _ a' w' (fun j hj => ?_) h'⟩
      by_cases e : i = j
      · subst e
        exact absurd hj hmi
      · rw [getD_set_ne true e]
        exact hl j hj) (h.2 i hi)⟩
def seqSt (md : Region.Mode) (ops : Array Oper) (m g : Nat) : List Nat → Array Bool → Bool
  | [], listed => Region.lexFrom md ops g m listed && (List.range m).all fun i => listed.getD i true
  | b :: bs, listed => decide (Region.ready md ops listed = [b]) && (decide (b < ops.size) && seqSt md ops m g bs (listed.setIfInBounds b true))
theorem to_of_midCS {m : Nat} (hsel : Region.noSelect ops = true) (rest : List Oper) (hrest : ∀ j, rest[j]? = ops[m + j]?) : ∀ (bs : List Nat) (listed : Array Bool) (a : Act) (w : World),
    seqSt md ops m rest.length bs listed = true → wpMidC P ops S (fun a w => wpStill P ops w (fun b => Q .normal b w) rest a) (bs.filterMap fun i => ops[i]?) a w → anyTo P md ops Q S [] m (bs.length + rest.length) listed a w
  | [], listed, a, w, hB, h => by
    rw [List.length_nil, Nat.zero_add]
    simp only [seqSt, Bool.and_eq_true, List.all_eq_true] at hB
    refine anyTo_of_any _ _ _ _ (fun i hi => hB.2 i (List.mem_range.2 hi)) ?_
    exact wpAny_of_still (Q := fun b => Q .normal b w) (fun _ h => h) _ _ _ (wpAnyS_lex hsel rest m listed a hrest hB.1 h)
  | b :: bs, listed, a, w, hB, h => by
    simp only [seqSt, Bool.and_eq_true, decide_eq_true_eq] at hB
    have h0 : ops[b]? = some ops[b] := Array.getElem?_eq_getElem hB.2.1
    rw [List.length_cons, show bs.length + 1 + rest.length = (bs.length + rest.length) + 1 from by omega]
    rw [List.filterMap_cons, h0] at h
    refine ⟨fun h1 => (by rw [hB.1] at h1; cases h1), fun i hi => ?_⟩
    rw [hB.1] at hi
    obtain rfl : i = b := by simpa using hi
    obtain ⟨hw, hm⟩ := h
    unfold wpOp
    simp only [h0, hw, if_true]
    exact .inl (OpTo.wp hm fun v w' hk' => ⟨fun _ _ => hk'.1, to_of_midCS hsel rest hrest bs _ _ _ hB.2.2 hk'.2⟩)
def ordersStOk (md : Region.Mode) (ops : Array Oper) (m : Nat) (bs : List Nat) (g : Nat) : Nat → Array Bool → Bool
  | 0, listed => seqSt md ops m g bs listed
  | n + 1, listed => !(Region.ready md ops listed).isEmpty && (Region.ready md ops listed).all fun i => decide (i < m) && (decide (i < ops.size) && ordersStOk md ops m bs g n (listed.setIfInBounds i true))
theorem ordersSt_some {m : Nat} {bs : List Nat} {g : Nat} : ∀ (n : Nat) (listed : Array Bool), ordersStOk md ops m bs g n listed = true → ∃ l, l ∈ ordersOf md ops n listed
  | 0, listed, _ => ⟨[], by simp [ordersOf]⟩
  | n + 1, listed, h => by
    simp only [ordersStOk, Bool.and_eq_true, Bool.not_eq_true', List.all_eq_true] at h
    obtain ⟨h0, h1⟩ := h
    cases hr : Region.ready md ops listed with
    | nil => rw [hr] at h0; cases h0
    | cons i is =>
      have hi := h1 i (by rw [hr]; simp)
      obtain ⟨l, hl⟩ := ordersSt_some n _ hi.2.2
      refine ⟨i :: l, ?_⟩
      unfold ordersOf
      rw [List.mem_flatMap]
      exact ⟨i, by rw [hr]; simp, List.mem_map.2 ⟨l, hl, rfl⟩⟩
theorem to_of_ordersS {m : Nat} (hsel : Region.noSelect ops = true) (bs : List Nat) (rest : List Oper) (hrest : ∀ j, rest[j]? = ops[m + j]?) : ∀ (n : Nat) (listed : Array Bool) (a : Act) (w : World), ordersStOk md ops m bs rest.length n listed = true →
    (∀ l ∈ ordersOf md ops n listed, wpMid P ops S (fun a w => wpMidC P ops S (fun a w => wpStill P ops w (fun b => Q .normal b w) rest a) (bs.filterMap fun i => ops[i]?) a w) (l.filterMap fun i => ops[i]?) a w) → anyTo P md ops Q S [] m (n + (bs.length + rest.length)) listed a w
  | 0, listed, a, w, hB, h => by
    rw [Nat.zero_add]
    exact to_of_midCS hsel rest hrest bs listed a w hB (h [] (by simp [ordersOf]))
  | n + 1, listed, a, w, hB, h => by
    simp only [ordersStOk, Bool.and_eq_true, Bool.not_eq_true', List.all_eq_true, decide_eq_true_eq] at hB
    rw [show n + 1 + (bs.length + rest.length) = (n + (bs.length + rest.length)) + 1 from by omega]
    refine ⟨fun h1 => (by rw [h1] at hB; cases hB.1), fun i hi => ?_⟩
    obtain ⟨him, hisz, hok⟩ := hB.2 i hi
    have ho : ops[i]? = some ops[i] := Array.getElem?_eq_getElem hisz
    have step : ∀ l ∈ ordersOf md ops n (listed.setIfInBounds i true), wpMid P ops S (fun a w => wpMidC P ops S (fun a w => wpStill P ops w (fun b => Q .normal b w) rest a) (bs.filterMap fun i => ops[i]?) a w) (ops[i] :: l.filterMap fun i => ops[i]?) a w := by
      intro l hl
      have := h (i :: l) (by
        unfold ordersOf
        rw [List.mem_flatMap]
        exact ⟨i, hi, List.mem_map.2 ⟨l, hl, rfl⟩⟩)
      rwa [List.filterMap_cons, ho] at this
    obtain ⟨l0, hl0⟩ := ordersSt_some n _ hok
    obtain ⟨hw, v, w1, hr, hs, _⟩ := step l0 hl0
    unfold wpOp
    simp only [ho, hw, if_true]
    refine .inl ?_
    unfold Oper.wp
    rw [hr, Oper.upon_value]
    refine ⟨fun _ _ => hs, to_of_ordersS hsel bs rest hrest n _ _ _ hok fun l hl => ?_⟩
    obtain ⟨_, v', w1', hr', _, hm⟩ := step l hl
    rw [hr] at hr'
    injection hr' with e1 e2
    injection e1 with e1
    subst e1 e2
    exact hm
theorem to_takesW {m f : Nat} {w : World} {K : Act → Prop} (hsel : Region.noSelect ops = true) (hs : sinkX md ops [] m = true) (hc : tailW md ops m = true) (hm : m < ops.size) (hSw : S w) :
    ∀ (is : List Nat) (listed : Array Bool) (a : Act), ShutUp md ops listed → takesTo md ops m is listed = true → (∀ a', K a' → anyTo P md ops Q S [] m f (takenAll is listed) a' w) → wpHead P ops Q S K (is.filterMap fun i => ops[i]?) a → anyTo P md ops Q S [] m (is.length + f) listed a w
  | [], listed, a, _, _, hK, h => by
    rw [List.length_nil, Nat.zero_add]
    exact hK a h
  | i :: is, listed, a, inv, hB, hK, h => by
    simp only [takesTo, Bool.and_eq_true, decide_eq_true_eq] at hB
    obtain ⟨him, hisz, hfr, hrd, hB⟩ := hB
    have ho : ops[i]? = some ops[i] := Array.getElem?_eq_getElem hisz
    rw [List.filterMap_cons, ho] at h
    obtain ⟨v, hy, hQ, hk⟩ := h
    have hr : i ∈ Region.ready md ops listed := by simpa using hrd
    rw [List.length_cons, show is.length + 1 + f = (is.length + f) + 1 from by omega]
    refine anyTo_first (T := S) (I := fun _ => True) ho hsel hQ (fun _ _ _ => trivial) (fun _ h _ _ => h) (fun listed inv' _ hun j hj w' hw' => ?_) (is.length + f) listed a w inv trivial (Region.free_spec ho hfr) hr hy hSw ?_
    · exact hw' (Nat.lt_of_not_le fun hle => lateW hs hc hm inv' him hun j hle hj) (by simp)
    · exact to_takesW hsel hs hc hm hSw is _ _ (inv.set hr) hB hK hk
/-- The check, for the kernel. -/
def ordSB (md : Region.Mode) (ops : Array Oper) (is : List Nat) (m n : Nat) (os : List (List Nat)) (bs : List Nat) : Bool :=
  Region.noSelect ops && (decide (m < ops.size) && (decide (is.length + (n + (bs.length + (ops.size - m))) = ops.size) && (sinkX md ops [] m && (tailW md ops m && (takesTo md ops m is (Array.replicate ops.size false) &&
    (ordersStOk md ops m bs (ops.size - m) n (takenAll is (Array.replicate ops.size false)) && decide (ordersOf md ops n (takenAll is (Array.replicate ops.size false)) = os)))))))
/-- THE LAW: the operations 'is' only read; n operations make memory, in one of the orders os; then those of bs call or make memory, in that order alone; from m on all only read, and call what changes nothing. -/
theorem wp_region_orders_still {id : Nat} {a : Act} {w : World} {l : List Oper} (S : World → Prop) (is : List Nat) (m n : Nat) (os : List (List Nat)) (bs : List Nat) (hf : P.follows .mixedOrders = true) (hB : ordSB .any l.toArray is m n os bs = true) (hS : S w.drew)
    (h : wpHead P l.toArray Q S (fun a' => ∀ o ∈ os, wpMid P l.toArray S (fun a w => wpMidC P l.toArray S (fun a w => wpStill P l.toArray w (fun b => Q .normal b w) (l.drop m) a) (bs.filterMap fun i => l[i]?) a w) (o.filterMap fun i => l[i]?) a' w.drew) (is.filterMap fun i => l[i]?) a) : (Code.region id l.toArray true).wp P Q a w := by
  simp only [ordSB, Bool.and_eq_true, decide_eq_true_eq] at hB
  obtain ⟨hsel, hm, hsz, hs, hc, ht, hok, hos⟩ := hB
  have inv0 : ShutUp .any l.toArray (Array.replicate l.toArray.size false) := ⟨by simp, fun j oj _ hl => (by rw [getD_replicate_false] at hl; cases hl)⟩
  have hlen : (l.drop m).length = l.toArray.size - m := by rw [List.length_drop]; simp
  suffices key : ∀ F, F = is.length + (n + (bs.length + (l.drop m).length)) → anyTo P .any l.toArray Q S [] m F (Array.replicate l.toArray.size false) a w.drew from
    wp_region_any hf (any_of_anyTo (S := S) (ex := []) (m := m) _ _ _ _ (key _ (by rw [hlen]; exact hsz.symm)))
  rintro _ rfl
  refine to_takesW hsel hs hc hm hS is _ a inv0 ht (fun a' hK => ?_) (by simpa using h)
  subst hos
  refine to_of_ordersS hsel bs (l.drop m) (fun j => by rw [List.getElem?_drop, List.getElem?_toArray]) n _ a' w.drew (by rw [hlen]; exact hok) fun o ho => ?_
  have := hK o ho
  simpa using this
end
end Go.Proofs.Ytpgbfglfmmohdaa
namespace Go.Proofs.Ytpgbfglfmmohdaa
open Go

section
variable {P : Program} {ops : Array Oper} {md : Region.Mode} {Q : Exit → Act → World → Prop} {S : World → Prop}
/-- The check, for the kernel. -/
def treeB (md : Region.Mode) (ops : Array Oper) (is : List Nat) (m f : Nat) : Bool :=
  Region.noSelect ops && (decide (m < ops.size) && (decide (is.length + f = ops.size) && (sinkX md ops [] m && (tailW md ops m && takesTo md ops m is (Array.replicate ops.size false)))))
/-- THE LAW: the operations 'is' only read; all others then go in any order. -/
theorem wp_region_tree {id : Nat} {a : Act} {w : World} {l : List Oper} (S : World → Prop) (is : List Nat) (m f : Nat) (hf : P.follows .mixedOrders = true) (hB : treeB .any l.toArray is m f = true) (hS : S w.drew)
    (h : wpHead P l.toArray Q S (fun a' => anyTo P .any l.toArray Q S [] m f (takenAll is (Array.replicate l.toArray.size false)) a' w.drew) (is.filterMap fun i => l[i]?) a) : (Code.region id l.toArray true).wp P Q a w := by
  simp only [treeB, Bool.and_eq_true, decide_eq_true_eq] at hB
  obtain ⟨hsel, hm, hsz, hs, hc, ht⟩ := hB
  have inv0 : ShutUp .any l.toArray (Array.replicate l.toArray.size false) := ⟨by simp, fun j oj _ hl => (by rw [getD_replicate_false] at hl; cases hl)⟩
  suffices key : ∀ F, F = is.length + f → anyTo P .any l.toArray Q S [] m F (Array.replicate l.toArray.size false) a w.drew from
    wp_region_any hf (any_of_anyTo (S := S) (ex := []) (m := m) _ _ _ _ (key _ hsz.symm))
  rintro _ rfl
  exact to_takesW hsel hs hc hm hS is _ a inv0 ht (fun a' hK => hK) (by simpa using h)
variable {m f : Nat} {listed : Array Bool} {a : Act} {w : World}
theorem tree_go {i : Nat} {o : Oper} (hi : ops[i]? = some o) (h : wpMidC P ops S (fun a w => anyTo P md ops Q S [] m f (listed.setIfInBounds i true) a w) [o] a w) : wpOp P ops Q i (fun a' w' => (i < m → ([] : List Nat).contains i = false → S w') ∧ anyTo P md ops Q S [] m f (listed.setIfInBounds i true) a' w') a w := by
  obtain ⟨hw, h⟩ := h
  unfold wpOp
  simp only [hi, hw, if_true]
  exact .inl (OpTo.wp h fun v w' hk => ⟨fun _ _ => hk.1, hk.2⟩)
theorem tree_one (i : Nat) {o : Oper} (hr : Region.ready md ops listed = [i]) (hi : ops[i]? = some o) (h : wpMidC P ops S (fun a w => anyTo P md ops Q S [] m f (listed.setIfInBounds i true) a w) [o] a w) : anyTo P md ops Q S [] m (f + 1) listed a w :=
  ⟨fun h1 => (by rw [hr] at h1; cases h1), fun j hj => by
    rw [hr] at hj
    obtain rfl : j = i := by simpa using hj
    exact tree_go hi h⟩
theorem tree_two (i j : Nat) {o p : Oper} (hr : Region.ready md ops listed = [i, j]) (hi : ops[i]? = some o) (hj : ops[j]? = some p) (h : wpMidC P ops S (fun a w => anyTo P md ops Q S [] m f (listed.setIfInBounds i true) a w) [o] a w)
    (h2 : wpMidC P ops S (fun a w => anyTo P md ops Q S [] m f (listed.setIfInBounds j true) a w) [p] a w) : anyTo P md ops Q S [] m (f + 1) listed a w :=
  ⟨fun h1 => (by rw [hr] at h1; cases h1), fun k hk => by
    rw [hr] at hk
    rcases List.mem_cons.1 hk with rfl | hk
    · exact tree_go hi h
    · obtain rfl : k = j := by simpa using hk
      exact tree_go hj h2⟩
/-- From here on there is one order. -/
theorem tree_list (rest : List Oper) (k : Nat) (hmk : m ≤ k) (hk : ops.toList.drop k = rest) (hB : Region.seqB md ops rest.length k listed = true) (hfl : f = rest.length) (h : wpList P ops Q rest a w) : anyTo P md ops Q S [] m f listed a w := by
  subst hfl
  exact to_of_list rest k listed a w hmk (fun j => by rw [← hk, List.getElem?_drop, Array.getElem?_toList]) hB h
def shutB (md : Region.Mode) (ops : Array Oper) (listed : Array Bool) : Bool :=
  decide (listed.size = ops.size) && (List.range ops.size).all fun j => match ops[j]? with
    | some oj => !listed.getD j false || oj.after.all fun e => !Region.binds md e || listed.getD e.on false
    | none => true
theorem shut_of {md : Region.Mode} {ops : Array Oper} {listed : Array Bool} (h : shutB md ops listed = true) : ShutUp md ops listed := by
  simp only [shutB, Bool.and_eq_true, decide_eq_true_eq, List.all_eq_true] at h
  refine ⟨h.1, fun j oj hj hl e he hb => ?_⟩
  have h1 := h.2 j (List.mem_range.2 (Array.getElem?_eq_some_iff.1 hj).1)
  simp only [hj, hl, Bool.not_true, Bool.false_or] at h1
  have h2 := Array.all_eq_true_iff_forall_mem.1 h1 e he
  rw [hb] at h2
  simpa using h2
def againB (md : Region.Mode) (ops : Array Oper) (m : Nat) (is : List Nat) (m' : Nat) (listed : Array Bool) : Bool :=
  Region.noSelect ops && (decide (m' < ops.size) && (shutB md ops listed && ((List.range m).all (fun i => listed.getD i true) && (sinkX md ops [] m' && (tailW md ops m' && takesTo md ops m' is listed)))))
/-- Once the first m have come up, others may be read first. -/
theorem tree_again (is : List Nat) (m' : Nat) (T : World → Prop) (hB : againB md ops m is m' listed = true) (hT : T w) (h : wpHead P ops Q T (fun a' => anyTo P md ops Q T [] m' f (takenAll is listed) a' w) (is.filterMap fun i => ops[i]?) a) : anyTo P md ops Q S [] m (is.length + f) listed a w := by
  simp only [againB, Bool.and_eq_true, decide_eq_true_eq, List.all_eq_true] at hB
  obtain ⟨hsel, hm, hsh, hall, hs, hc, ht⟩ := hB
  refine anyTo_of_any _ _ _ _ (fun i hi => hall i (List.mem_range.2 hi)) (any_of_anyTo (S := T) (ex := []) (m := m') _ _ _ _ ?_)
  exact to_takesW hsel hs hc hm hT is _ a (shut_of hsh) ht (fun a' hK => hK) h
theorem to_of_listT {m : Nat} : ∀ (l : List Oper) (k : Nat) (listed : Array Bool) (a : Act) (w : World), (∀ j, l[j]? = ops[k + j]?) → Region.seqB md ops l.length k listed = true → wpList P ops Q l a w → anyTo P md ops Q (fun _ => True) [] m l.length listed a w
  | [], _, _, _, _, _, hB, h => ⟨by simpa [Region.seqB] using hB, h⟩
  | o :: l, k, listed, a, w, hl, hB, h => by
    have h0 : ops[k]? = some o := by simpa using (hl 0).symm
    simp only [List.length_cons, Region.seqB, Bool.and_eq_true, decide_eq_true_eq] at hB
    refine ⟨fun h1 => (by rw [hB.1] at h1; cases h1), fun i hi => ?_⟩
    rw [hB.1] at hi
    obtain rfl : i = k := by simpa using hi
    have hw : wpOp P ops Q i (wpList P ops Q l) a w := by unfold wpOp; simp only [h0]; exact h
    refine wpOp_mono (fun a' w' h' => ⟨fun _ _ => trivial, ?_⟩) hw
    refine to_of_listT l (i + 1) _ a' w' (fun j => ?_) hB.2 h'
    have := hl (j + 1)
    simpa [Nat.add_assoc, Nat.add_comm 1 j] using this
/-- From here on there is one order, and nothing need be kept. -/
theorem tree_rest (rest : List Oper) (k : Nat) (hk : ops.toList.drop k = rest) (hB : Region.seqB md ops rest.length k listed = true) (hfl : f = rest.length) (h : wpList P ops Q rest a w) : anyTo P md ops Q (fun _ => True) [] m f listed a w := by
  subst hfl
  exact to_of_listT rest k listed a w (fun j => by rw [← hk, List.getElem?_drop, Array.getElem?_toList]) hB h
/-! Some may be read first that do not wait for what others do. -/
theorem lateX {ex : List Nat} {m : Nat} (hs : sinkX md ops ex m = true) (hc : tailW md ops m = true) (hm : m < ops.size) {listed : Array Bool} (h : ShutUp md ops listed) :
    ∀ {i : Nat}, i < m → ex.contains i = false → listed.getD i true = false → ∀ t, m ≤ t → t ∉ Region.ready md ops listed := by
  have stays : ∀ i j, listed.getD i true = false → Region.waitsFor md ops j i = true → listed.getD j false = false ∧ j ∉ Region.ready md ops listed := by
    intro i j hun hw
    obtain ⟨oj, hoj, e, he, hb, hon⟩ := Region.waitsFor_spec hw
    refine ⟨?_, fun hr => ?_⟩
    · cases hl : listed.getD j false with
      | false => rfl
      | true =>
        have h2 := h.closed j oj hoj hl e he hb
        rw [hon, getD_both hun] at h2
        cases h2
    · obtain ⟨_, oj', hoj', hall⟩ := mem_ready.1 hr
      obtain rfl : oj' = oj := Option.some.inj (hoj'.symm.trans hoj)
      have h2 := hall e he hb
      rw [hon, getD_both hun] at h2
      cases h2
  have atM : ∀ d i, m - i = d → i < m → ex.contains i = false → listed.getD i true = false → listed.getD m false = false ∧ m ∉ Region.ready md ops listed := by
    intro d
    induction d using Nat.strongRecOn with
    | _ d ih =>
      intro i hd hi hex hun
      have h1 := List.all_eq_true.1 hs i (List.mem_range.2 hi)
      rw [hex, Bool.false_or] at h1
      obtain ⟨j, hj, hj2⟩ := List.any_eq_true.1 h1
      simp only [Bool.and_eq_true, decide_eq_true_eq, Bool.not_eq_true'] at hj2
      have hjm : j ≤ m := Nat.le_of_lt_succ (List.mem_range.1 hj)
      have h2 := stays i j hun hj2.2.2
      by_cases e : j = m
      · subst e
        exact h2
      · exact ih (m - j) (by omega) j rfl (by omega) hj2.2.1 (getD_in (by rw [h.size]; omega) h2.1)
  intro i hi hex hun t ht
  obtain ⟨k1, k2⟩ := atM _ i rfl hi hex hun
  have up : ∀ d, m + d < ops.size → listed.getD (m + d) false = false ∧ m + d ∉ Region.ready md ops listed := by
    intro d
    induction d using Nat.strongRecOn with
    | _ d ih =>
      intro hd
      by_cases e0 : d = 0
      · subst e0
        exact ⟨k1, k2⟩
      · have h1 := List.all_eq_true.1 hc d (List.mem_range.2 (by omega))
        rw [Bool.or_eq_true, decide_eq_true_eq] at h1
        obtain ⟨e, he, hw⟩ := List.any_eq_true.1 (h1.resolve_left e0)
        have hed := List.mem_range.1 he
        exact stays (m + e) (m + d) (getD_in (by rw [h.size]; omega) (ih e hed (by omega)).1) hw
  intro hr
  have hts : t < ops.size := by
    obtain ⟨_, ot, hot, _⟩ := mem_ready.1 hr
    exact (Array.getElem?_eq_some_iff.1 hot).1
  obtain ⟨d, rfl⟩ := Nat.exists_eq_add_of_le ht
  exact (up d hts).2 hr
theorem to_takesX {ex : List Nat} {m f : Nat} {w : World} {K : Act → Prop} (hsel : Region.noSelect ops = true) (hs : sinkX md ops ex m = true) (hc : tailW md ops m = true) (hm : m < ops.size) (hSw : S w) :
    ∀ (is : List Nat) (listed : Array Bool) (a : Act), (is.all fun i => !ex.contains i) = true → ShutUp md ops listed → takesTo md ops m is listed = true → (∀ a', K a' → anyTo P md ops Q S [] m f (takenAll is listed) a' w) → wpHead P ops Q S K (is.filterMap fun i => ops[i]?) a → anyTo P md ops Q S [] m (is.length + f) listed a w
  | [], listed, a, _, _, _, hK, h => by
    rw [List.length_nil, Nat.zero_add]
    exact hK a h
  | i :: is, listed, a, hex, inv, hB, hK, h => by
    simp only [takesTo, Bool.and_eq_true, decide_eq_true_eq] at hB
    simp only [List.all_cons, Bool.and_eq_true, Bool.not_eq_true'] at hex
    obtain ⟨him, hisz, hfr, hrd, hB⟩ := hB
    have ho : ops[i]? = some ops[i] := Array.getElem?_eq_getElem hisz
    rw [List.filterMap_cons, ho] at h
    obtain ⟨v, hy, hQ, hk⟩ := h
    have hr : i ∈ Region.ready md ops listed := by simpa using hrd
    rw [List.length_cons, show is.length + 1 + f = (is.length + f) + 1 from by omega]
    refine anyTo_first (T := S) (I := fun _ => True) ho hsel hQ (fun _ _ _ => trivial) (fun _ h _ _ => h) (fun listed inv' _ hun j hj w' hw' => ?_) (is.length + f) listed a w inv trivial (Region.free_spec ho hfr) hr hy hSw ?_
    · exact hw' (Nat.lt_of_not_le fun hle => lateX hs hc hm inv' him hex.1 hun j hle hj) (by simp)
    · exact to_takesX hsel hs hc hm hSw is _ _ hex.2 (inv.set hr) hB hK hk
theorem anyT_of_any {m : Nat} : ∀ (f : Nat) (listed : Array Bool) (a : Act) (w : World), wpAny P md ops Q f listed a w → anyTo P md ops Q (fun _ => True) [] m f listed a w
  | 0, _, _, _, h => h
  | f + 1, listed, a, w, h => ⟨h.1, fun i hi => wpOp_mono (fun a' w' h' => ⟨fun _ _ => trivial, anyT_of_any f _ a' w' h'⟩) (h.2 i hi)⟩
def takeB (md : Region.Mode) (ops : Array Oper) (ex is : List Nat) (m' : Nat) (listed : Array Bool) : Bool :=
  Region.noSelect ops && (decide (m' < ops.size) && (shutB md ops listed && (sinkX md ops ex m' && (tailW md ops m' && ((is.all fun i => !ex.contains i) && takesTo md ops m' is listed)))))
/-- Those of 'is' may be read next; nobody up to m' waits for those of ex. -/
theorem tree_take (ex is : List Nat) (m' : Nat) (T : World → Prop) (hB : takeB md ops ex is m' listed = true) (hT : T w) (h : wpHead P ops Q T (fun a' => anyTo P md ops Q T [] m' f (takenAll is listed) a' w) (is.filterMap fun i => ops[i]?) a) : anyTo P md ops Q (fun _ => True) [] m (is.length + f) listed a w := by
  simp only [takeB, Bool.and_eq_true, decide_eq_true_eq] at hB
  obtain ⟨hsel, hm, hsh, hs, hc, hex, ht⟩ := hB
  refine anyT_of_any _ _ _ _ (any_of_anyTo (S := T) (ex := []) (m := m') _ _ _ _ ?_)
  exact to_takesX hsel hs hc hm hT is _ a hex (shut_of hsh) ht (fun a' hK => hK) h
end
end Go.Proofs.Ytpgbfglfmmohdaa
