/- A drawn statement whose operations first only read, then call and make memory in whatever order, and at last write in one order: each of them is walked ONCE, in any world that what it waits for has left. No condition. -/
import Derived.Test.YtegegljpmelomaaOrders
set_option linter.unusedVariables false
namespace Go.Proofs.Ytegegljpmelomaa
open Go

section
variable {P : Program} {ops : Array Oper} {md : Region.Mode} {Q : Exit → Act → World → Prop} {S : World → Prop} {R : World → World → Prop} {T : Nat → (Nat → Value) → World → Prop} {C : Nat → Value → Nat → Prop}
/-- What an operation comes to. -/
def OpTo (P : Program) (o : Oper) (f : Operand → Value) (w : World) (K : Value → World → Prop) : Prop :=
  match (execOp f o).run P w with
  | .ok (.value v) w' => K v w'
  | .ok (.enter g args) w' => Calls P g args w' fun e w'' => ∃ v, e = .returned v ∧ K v w''
  | _ => False
theorem OpTo.wp {o : Oper} {a : Act} {w : World} {K : Value → World → Prop} {next : Act → World → Prop} (h : OpTo P o a.eval w K) (hk : ∀ v w', K v w' → next (a.put o.dst v) w') : o.wp P a w next Q := by
  unfold OpTo at h
  unfold Oper.wp
  generalize (execOp a.eval o).run P w = r at *
  cases r with
  | ok n w' =>
    cases n <;> simp only [Oper.upon] at h ⊢
    case value => exact hk _ _ h
    case enter =>
      refine Calls.mono h fun e w'' he => ?_
      obtain ⟨v, rfl, hv⟩ := he
      exact hk _ _ hv
  | halt x w' => exact h.elim
def dstOf (ops : Array Oper) (i : Nat) : Option Tmp := (ops[i]?).bind (·.dst)
def putSel (ops : Array Oper) (vs : Nat → Value) (listed : Array Bool) : List Nat → Act → Act
  | [], a => a
  | j :: js, a => putSel ops vs listed js (if listed.getD j false then a.put (dstOf ops j) (vs j) else a)
def updV (vs : Nat → Value) (i : Nat) (v : Value) : Nat → Value := fun j => if j = i then v else vs j
/-- What is asked of an operation: what it waits for is known. -/
def tyStep (P : Program) (md : Region.Mode) (ops : Array Oper) (S : World → Prop) (R : World → World → Prop) (T : Nat → (Nat → Value) → World → Prop) (C : Nat → Value → Nat → Prop) (i : Nat) (done : List Nat) (vs : Nat → Value) (o : Option Oper) (a : Act) : Prop :=
  match o with
  | none => False
  | some o => ∀ w, S w → (∀ j ∈ done, Region.waitsFor md ops i j = true → T j vs w) →
    (Region.wanted o (yielded ops a.tmps) = true ∧ OpTo P o a.eval w fun v w' => S w' ∧ R w w' ∧ T i (updV vs i v) w' ∧ ∀ b, C i v b → w.heap.size ≤ b ∧ b < w'.heap.size) ∨
    (Region.wanted o (yielded ops a.tmps) = false ∧ T i (updV vs i undef) w ∧ ∀ b, ¬ C i undef b)
/-- The operations in the text's order, each in any world in which it may come; then what has one order. -/
def tyAll (P : Program) (md : Region.Mode) (ops : Array Oper) (Q : Exit → Act → World → Prop) (S : World → Prop) (R : World → World → Prop) (T : Nat → (Nat → Value) → World → Prop) (C : Nat → Value → Nat → Prop) (rest : List Oper) : List Nat → List Nat → (Nat → Value) → Act → Prop
  | [], done, vs, a => ∀ w, S w → (∀ j ∈ done, T j vs w) → (∀ i ∈ done, ∀ j ∈ done, i ≠ j → ∀ b, C i (vs i) b → ¬ C j (vs j) b) → wpList P ops Q rest a w
  | i :: js, done, vs, a => tyStep P md ops S R T C i done vs ops[i]? a ∧ ∀ v, tyAll P md ops Q S R T C rest js (i :: done) (updV vs i v) (a.put (dstOf ops i) v)

/-! The check. -/
def apartB (md : Region.Mode) (ops : Array Oper) (j i : Nat) : Bool :=
  match ops[j]?, ops[i]? with
  | some oj, some oi => (match oi.dst with | some d => !(oj.looksAt ops).contains d && !(oj.dst == some d) | none => true) && (!Region.waitsFor md ops j i && (Region.waitsFor md ops i j || match oj.dst with | some d => !(oi.looksAt ops).contains d | none => true))
  | _, _ => false
theorem apartB_spec {j i : Nat} (h : apartB md ops j i = true) : ∃ oj oi, ops[j]? = some oj ∧ ops[i]? = some oi ∧ (∀ d, oi.dst = some d → d ∉ oj.looksAt ops ∧ oj.dst ≠ some d) ∧ (Region.waitsFor md ops i j = true ∨ ∀ d, oj.dst = some d → d ∉ oi.looksAt ops) ∧ Region.waitsFor md ops j i = false := by
  unfold apartB at h
  split at h
  · rename_i oj oi hj hi
    rw [Bool.and_eq_true, Bool.and_eq_true, Bool.or_eq_true, Bool.not_eq_true'] at h
    refine ⟨oj, oi, hj, hi, fun d hd => ?_, h.2.2.imp id fun h2 d hd => ?_, h.2.1⟩
    · have h1 := h.1
      rw [hd] at h1
      simp only [Bool.and_eq_true, Bool.not_eq_true', beq_eq_false_iff_ne] at h1
      exact ⟨fun hm => (by rw [List.contains_iff_mem.2 hm] at h1; cases h1.1), h1.2⟩
    · rw [hd] at h2
      simp only [Bool.not_eq_true'] at h2
      exact fun hm => (by rw [List.contains_iff_mem.2 hm] at h2; cases h2)
  · cases h
def lookB (md : Region.Mode) (ops : Array Oper) : List Nat → Bool
  | [] => true
  | j :: js => !js.contains j && (js.all (apartB md ops j) && lookB md ops js)
theorem lookB_cons {j : Nat} {js : List Nat} (h : lookB md ops (j :: js) = true) : j ∉ js ∧ (∀ i ∈ js, apartB md ops j i = true) ∧ lookB md ops js = true := by
  simp only [lookB, Bool.and_eq_true, Bool.not_eq_true', List.all_eq_true] at h
  exact ⟨fun hm => (by rw [List.contains_iff_mem.2 hm] at h; cases h.1), h.2.1, h.2.2⟩
theorem dst_ne {j i : Nat} (h : apartB md ops j i = true) : ∀ d, dstOf ops j = some d → dstOf ops i ≠ some d := by
  obtain ⟨oj, oi, hj, hi, h1, _⟩ := apartB_spec h
  intro d hd hd'
  unfold dstOf at hd hd'
  rw [hj] at hd
  rw [hi] at hd'
  exact (h1 d (by simpa using hd')).2 (by simpa using hd)
theorem putSel_put {vs : Nat → Value} {listed : Array Bool} {x : Option Tmp} {v : Value} : ∀ (js : List Nat) (a : Act), (∀ i ∈ js, ∀ d, x = some d → dstOf ops i ≠ some d) → putSel ops vs listed js (a.put x v) = (putSel ops vs listed js a).put x v
  | [], a, _ => rfl
  | j :: js, a, h => by
    unfold putSel
    split
    · rw [Act.put_comm a v (vs j) (h j (by simp))]
      exact putSel_put js _ fun i hi => h i (by simp [hi])
    · exact putSel_put js _ fun i hi => h i (by simp [hi])
theorem putSel_congr {vs vs' : Nat → Value} {listed listed' : Array Bool} : ∀ (js : List Nat) (a : Act), (∀ j ∈ js, listed.getD j false = listed'.getD j false ∧ vs j = vs' j) → putSel ops vs listed js a = putSel ops vs' listed' js a
  | [], a, _ => rfl
  | j :: js, a, h => by
    unfold putSel
    rw [(h j (by simp)).1, (h j (by simp)).2]
    exact putSel_congr js _ fun i hi => h i (by simp [hi])
theorem putSel_set {vs : Nat → Value} {listed : Array Bool} {i : Nat} {v : Value} (hsz : i < listed.size) (hl : listed.getD i false = false) : ∀ (js : List Nat) (a : Act), lookB md ops js = true → i ∈ js →
    putSel ops (updV vs i v) (listed.setIfInBounds i true) js a = (putSel ops vs listed js a).put (dstOf ops i) v
  | [], _, _, h => by cases h
  | j :: js, a, hB, hi => by
    obtain ⟨hn, hap, hB'⟩ := lookB_cons hB
    unfold putSel
    by_cases e : j = i
    · subst e
      have h1 : (listed.setIfInBounds j true).getD j false = true := by simp [hsz]
      rw [h1, if_pos rfl, hl, if_neg (by simp)]
      have h2 : updV vs j v j = v := by simp [updV]
      rw [h2, putSel_put js a fun k hk => dst_ne (hap k hk)]
      rw [putSel_congr (vs' := vs) (listed' := listed) js a fun k hk => (have hkj : k ≠ j := (fun e => hn (by rw [← e]; exact hk)); ⟨getD_set_ne false (Ne.symm hkj), by unfold updV; rw [if_neg hkj]⟩)]
    · have h1 : (listed.setIfInBounds i true).getD j false = listed.getD j false := getD_set_ne false (Ne.symm e)
      have h2 : updV vs i v j = vs j := by simp [updV, e]
      rw [h1, h2]
      exact putSel_set hsz hl js _ hB' (by simpa [Ne.symm e] using hi)
theorem exec_sel {vs : Nat → Value} {listed : Array Bool} {o : Oper} (hs : ∀ cs b, o.op ≠ .select cs b) : ∀ (js : List Nat) (a : Act), (∀ i ∈ js, ∀ d, dstOf ops i = some d → d ∉ o.looksAt ops) →
    execOp (putSel ops vs listed js a).eval o = execOp a.eval o ∧ Region.wanted o (yielded ops (putSel ops vs listed js a).tmps) = Region.wanted o (yielded ops a.tmps)
  | [], a, _ => ⟨rfl, rfl⟩
  | j :: js, a, h => by
    unfold putSel
    split
    · have h1 := exec_sel (vs := vs) (listed := listed) hs js (a.put (dstOf ops j) (vs j)) fun i hi => h i (by simp [hi])
      exact ⟨h1.1.trans (execOp_put o hs a _ _ (h j (by simp))), h1.2.trans (wanted_put o a _ _ (h j (by simp)))⟩
    · exact exec_sel hs js a fun i hi => h i (by simp [hi])
/-- What is known of an operation hangs on its own value and on those that it waits for. -/
def TDep (md : Region.Mode) (ops : Array Oper) (T : Nat → (Nat → Value) → World → Prop) : Prop := ∀ i vs vs' w, vs i = vs' i → (∀ j, Region.waitsFor md ops i j = true → vs j = vs' j) → T i vs w → T i vs' w
theorem ty_step {rest : List Oper} {vs : Nat → Value} {listed : Array Bool} {i : Nat} {o : Oper} (hs : ∀ cs b, o.op ≠ .select cs b) (ho : ops[i]? = some o) (hl : listed.getD i false = false) (hw : ∀ j, Region.waitsFor md ops i j = true → listed.getD j false = true) :
    ∀ (js done : List Nat) (vt : Nat → Value) (a : Act), lookB md ops js = true → i ∈ js → (∀ j, j ∉ js → vt j = vs j) → tyAll P md ops Q S R T C rest js done vt a →
    ∃ done' vt' a', tyStep P md ops S R T C i done' vt' (some o) a' ∧ (∀ j ∈ done', j ∈ done ∨ j ∈ js) ∧ (∀ j, j ∉ js → vt' j = vs j) ∧ (∀ j ∈ done', j ∉ done → vt' j = vs j) ∧ (∀ j, Region.waitsFor md ops i j = true → vt' j = vs j) ∧ (∀ j ∈ done', j ∉ done → ∀ k, Region.waitsFor md ops j k = true → vt' k = vs k) ∧
      execOp (putSel ops vs listed js a).eval o = execOp a'.eval o ∧ Region.wanted o (yielded ops (putSel ops vs listed js a).tmps) = Region.wanted o (yielded ops a'.tmps)
  | [], _, _, _, _, h, _, _ => by cases h
  | j :: js, done, vt, a, hB, hi, hvt, h => by
    obtain ⟨hn, hap, hB'⟩ := lookB_cons hB
    obtain ⟨h1, h2⟩ := h
    unfold putSel
    by_cases e : j = i
    · subst e
      rw [ho] at h1
      rw [hl, if_neg (by simp)]
      refine ⟨done, vt, a, h1, fun k hk => .inl hk, hvt, fun k hk hk' => absurd hk hk', fun k hk => hvt k fun hkm => ?_, fun k hk hk' => absurd hk hk', exec_sel hs js a fun k hk d hd => ?_⟩
      · rcases List.mem_cons.1 hkm with rfl | hkm
        · rw [hw _ hk] at hl; cases hl
        · obtain ⟨_, _, _, _, _, _, h5⟩ := apartB_spec (hap k hkm)
          rw [hk] at h5; cases h5
      · obtain ⟨oj, oi, hj, hi', h3, _⟩ := apartB_spec (hap k hk)
        obtain rfl : oj = o := Option.some.inj (hj.symm.trans ho)
        unfold dstOf at hd
        rw [hi'] at hd
        exact (h3 d (by simpa using hd)).1
    · have hi2 : i ∈ js := by simpa [Ne.symm e] using hi
      have hvt2 : ∀ k, k ∉ js → updV vt j (vs j) k = vs k := by
        intro k hk
        unfold updV
        by_cases ek : k = j
        · rw [if_pos ek, ek]
        · rw [if_neg ek]; exact hvt k fun hm => by
            rcases List.mem_cons.1 hm with h | h
            · exact ek h
            · exact hk h
      obtain ⟨done', vt', a', k1, k2, k5, k6, k7, k8, k3, k4⟩ := ty_step (vs := vs) (listed := listed) hs ho hl hw js _ _ _ hB' hi2 hvt2 (h2 (vs j))
      refine ⟨done', vt', a', k1, fun k hk => ?_, fun k hk => k5 k fun hm => hk (by simp [hm]), fun k hk hk' => ?_, k7, fun j0 hj0 hj0' k hk => ?_, ?_⟩
      · rcases k2 k hk with h | h
        · rcases List.mem_cons.1 h with rfl | h
          · exact .inr (by simp)
          · exact .inl h
        · exact .inr (by simp [h])
      · by_cases ek : k = j
        · subst ek; exact k5 k hn
        · exact k6 k hk fun hm => by
            rcases List.mem_cons.1 hm with h | h
            · exact ek h
            · exact hk' h
      · by_cases ej : j0 = j
        · subst ej
          exact k5 k fun hkm => by
            obtain ⟨_, _, _, _, _, _, h5⟩ := apartB_spec (hap k hkm)
            rw [hk] at h5; cases h5
        · exact k8 j0 hj0 (fun hm => by
            rcases List.mem_cons.1 hm with h | h
            · exact ej h
            · exact hj0' h) k hk
      · cases hlj : listed.getD j false with
        | true => rw [if_pos rfl]; exact ⟨k3, k4⟩
        | false =>
          rw [if_neg (by simp)]
          have hno : ∀ d, dstOf ops j = some d → d ∉ o.looksAt ops := by
            obtain ⟨oj, oi, hj, hi', _, h4, _⟩ := apartB_spec (hap i hi2)
            obtain rfl : oi = o := Option.some.inj (hi'.symm.trans ho)
            intro d hd
            unfold dstOf at hd
            rw [hj] at hd
            rcases h4 with h4 | h4
            · rw [hw j h4] at hlj; cases hlj
            · exact h4 d (by simpa using hd)
          rw [putSel_put js a fun k hk => dst_ne (hap k hk)] at k3 k4
          exact ⟨(execOp_put o hs _ _ _ hno).symm.trans k3, (wanted_put o _ _ _ hno).symm.trans k4⟩
theorem ty_end {rest : List Oper} {vs : Nat → Value} {listed : Array Bool} {w : World} (hS : S w) : ∀ (js done : List Nat) (vt : Nat → Value) (a : Act), lookB md ops js = true → (∀ j ∈ js, listed.getD j false = true) → (∀ j, j ∉ js → vt j = vs j) → tyAll P md ops Q S R T C rest js done vt a →
    (∀ j, j ∈ done ∨ j ∈ js → T j vs w) → (∀ i j, i ∈ done ∨ i ∈ js → j ∈ done ∨ j ∈ js → i ≠ j → ∀ b, C i (vs i) b → ¬ C j (vs j) b) → wpList P ops Q rest (putSel ops vs listed js a) w
  | [], done, vt, a, _, _, hvt, h, hT, hC => by
    have e : vt = vs := funext fun j => hvt j (by simp)
    subst e
    exact h w hS (fun p hp => hT p (.inl hp)) fun p hp q hq => hC p q (.inl hp) (.inl hq)
  | j :: js, done, vt, a, hB, hl, hvt, h, hT, hC => by
    obtain ⟨hn, hap, hB'⟩ := lookB_cons hB
    unfold putSel
    rw [hl j (by simp), if_pos rfl]
    have key : ∀ k, k ∈ j :: done ∨ k ∈ js → k ∈ done ∨ k ∈ j :: js := by
      intro k hk
      rcases hk with hk | hk
      · rcases List.mem_cons.1 hk with rfl | hk
        · exact .inr (by simp)
        · exact .inl hk
      · exact .inr (by simp [hk])
    exact ty_end hS js _ _ _ hB' (fun k hk => hl k (by simp [hk])) (fun k hk => by
      unfold updV
      by_cases ek : k = j
      · rw [if_pos ek, ek]
      · rw [if_neg ek]; exact hvt k fun hm => by
          rcases List.mem_cons.1 hm with h | h
          · exact ek h
          · exact hk h) (h.2 (vs j)) (fun k hk => hT k (key k hk)) fun p q hp hq => hC p q (key p hp) (key q hq)
theorem filter_off {p p' : Nat → Bool} {i : Nat} (hp : p i = true) (hp' : p' i = false) (h : ∀ j, j ≠ i → p' j = p j) : ∀ js : List Nat, i ∈ js → lookB md ops js = true → (js.filter p').length + 1 = (js.filter p).length
  | [], h, _ => by cases h
  | j :: js, hi, hB => by
    obtain ⟨hn, _, hB'⟩ := lookB_cons hB
    by_cases e : j = i
    · subst e
      rw [List.filter_cons_of_neg (by simp [hp']), List.filter_cons_of_pos hp, List.length_cons]
      have : js.filter p' = js.filter p := List.filter_congr fun k hk => h k fun e => hn (e ▸ hk)
      rw [this]
    · have := filter_off hp hp' h js (by simpa [Ne.symm e] using hi) hB'
      cases hpj : p j with
      | true =>
        rw [List.filter_cons_of_pos hpj, List.filter_cons_of_pos (by rw [h j e]; exact hpj), List.length_cons, List.length_cons]
        omega
      | false =>
        rw [List.filter_cons_of_neg (by rw [h j e, hpj]; simp), List.filter_cons_of_neg (by rw [hpj]; simp)]
        exact this
/-- All of the first m have come up. -/
def fullTo (m n : Nat) : Array Bool := (List.replicate m true ++ List.replicate n false).toArray
theorem full_eq {m n : Nat} {listed : Array Bool} (hs : listed.size = m + n) (h1 : ∀ j, j < m → listed.getD j false = true) (h2 : ∀ t, m ≤ t → listed.getD t false = false) : listed = fullTo m n := by
  have hz : (fullTo m n).size = m + n := by simp [fullTo]
  refine Array.ext (by rw [hs, hz]) fun t ht ht' => ?_
  have e : listed.getD t false = listed[t] := by simp [ht]
  rw [← e]
  by_cases hm : t < m
  · rw [h1 t hm]
    simp [fullTo, hm]
  · rw [h2 t (by omega)]
    simp [fullTo, List.getElem_append, hm]
/-- What may come up waits for lesser ones alone. -/
def lessB (md : Region.Mode) (ops : Array Oper) (js : List Nat) : Bool := js.all fun i => match ops[i]? with | some o => o.after.all (fun e => !Region.binds md e || decide (e.on < i)) | none => false
structure TyInv (S : World → Prop) (T : Nat → (Nat → Value) → World → Prop) (C : Nat → Value → Nat → Prop) (js : List Nat) (listed : Array Bool) (vs : Nat → Value) (w : World) : Prop where
  s : S w
  t : ∀ j ∈ js, listed.getD j false = true → T j vs w
  b : ∀ j ∈ js, listed.getD j false = true → ∀ b, C j (vs j) b → b < w.heap.size
  c : ∀ i ∈ js, ∀ j ∈ js, listed.getD i false = true → listed.getD j false = true → i ≠ j → ∀ b, C i (vs i) b → ¬ C j (vs j) b
theorem ty_any {rest : List Oper} {m : Nat} {js : List Nat} {a : Act} (hsel : Region.noSelect ops = true) (hs : sinkX md ops [] m = true) (hc : Region.chainB md ops m = true) (hm : m < ops.size) (hrest : ∀ j, rest[j]? = ops[m + j]?) (hlen : rest.length = ops.size - m)
    (hlook : lookB md ops js = true) (hless : lessB md ops js = true) (hjm : ∀ j ∈ js, j < m) (hseq : Region.seqB md ops rest.length m (fullTo m (ops.size - m)) = true)
    (hRz : ∀ w w', R w w' → w.heap.size ≤ w'.heap.size) (hRT : ∀ i vs w w', S w → S w' → R w w' → T i vs w → T i vs w') (hTD : TDep md ops T) (vs0 : Nat → Value) (h : tyAll P md ops Q S R T C rest js [] vs0 a) :
    ∀ (n : Nat) (listed : Array Bool) (vs : Nat → Value) (w : World), ShutUp md ops listed → (∀ j, j < m → j ∉ js → listed.getD j false = true) → (∀ t, m ≤ t → listed.getD t false = false) →
      (js.filter fun j => !listed.getD j false).length = n → (∀ j, j ∉ js → vs0 j = vs j) → TyInv S T C js listed vs w → anyTo P md ops Q S [] m (n + rest.length) listed (putSel ops vs listed js a) w := by
  intro n
  induction n with
  | zero =>
    intro listed vs w inv hpre htail hn hv0 I
    have hall : ∀ j ∈ js, listed.getD j false = true := by
      intro j hj
      have h0 := List.eq_nil_of_length_eq_zero hn
      cases hl : listed.getD j false with
      | true => rfl
      | false =>
        have : j ∈ js.filter fun j => !listed.getD j false := List.mem_filter.2 ⟨hj, by rw [hl]; rfl⟩
        rw [h0] at this
        cases this
    have hfull : listed = fullTo m (ops.size - m) := full_eq (by rw [inv.size]; omega) (fun j hj => by
      by_cases hjs : j ∈ js
      · exact hall j hjs
      · exact hpre j hj hjs) htail
    rw [Nat.zero_add]
    refine to_of_list rest m listed _ w (Nat.le_refl _) hrest (by rw [hfull]; exact hseq) ?_
    refine ty_end I.s js [] vs0 a hlook hall hv0 h (fun p hp => ?_) fun p q hp hq hne => ?_
    · rcases hp with hp | hp
      · cases hp
      · exact I.t _ hp (hall _ hp)
    · rcases hp with hp | hp
      · cases hp
      · rcases hq with hq | hq
        · cases hq
        · exact I.c _ hp _ hq (hall _ hp) (hall _ hq) hne
  | succ n ih =>
    intro listed vs w inv hpre htail hn hv0 I
    have hex : ∃ j, j ∈ js ∧ listed.getD j false = false := by
      cases hf : js.filter fun j => !listed.getD j false with
      | nil => rw [hf] at hn; cases hn
      | cons j _ =>
        have hj : j ∈ js.filter fun j => !listed.getD j false := by rw [hf]; simp
        obtain ⟨h1, h2⟩ := List.mem_filter.1 hj
        exact ⟨j, h1, by simpa using h2⟩
    have hready : ∀ d i, i = d → i ∈ js → listed.getD i false = false → ∃ k, k ∈ Region.ready md ops listed := by
      intro d
      induction d using Nat.strongRecOn with
      | _ d ihd =>
        intro i hid hi hli
        have h1 := List.all_eq_true.1 hless i hi
        have him := hjm i hi
        have ho : ops[i]? = some ops[i] := Array.getElem?_eq_getElem (by omega)
        rw [ho] at h1
        simp only [Array.all_eq_true_iff_forall_mem, Bool.or_eq_true, Bool.not_eq_true', decide_eq_true_eq] at h1
        by_cases hall : ∀ e ∈ (ops[i]).after, Region.binds md e = true → listed.getD e.on false = true
        · exact ⟨i, mem_ready.2 ⟨getD_in (by rw [inv.size]; omega) hli, _, ho, hall⟩⟩
        · simp only [Classical.not_forall] at hall
          obtain ⟨e, he, hb, hne⟩ := hall
          have hlt : e.on < i := (h1 e he).resolve_left (by rw [hb]; simp)
          have hne' : listed.getD e.on false = false := by simpa using hne
          have hejs : e.on ∈ js := by
            by_cases hjs : e.on ∈ js
            · exact hjs
            · rw [hpre e.on (by omega) hjs] at hne'; cases hne'
          exact ihd e.on (by omega) e.on rfl hejs hne'
    obtain ⟨j0, hj0, hlj0⟩ := hex
    obtain ⟨k0, hk0⟩ := hready j0 j0 rfl hj0 hlj0
    rw [show n + 1 + rest.length = (n + rest.length) + 1 from by omega]
    refine ⟨fun e => (by rw [e] at hk0; cases hk0), fun i hi => ?_⟩
    have him : i < m := Nat.lt_of_not_le fun hle => late hs hc hm inv (hjm j0 hj0) (by simp) (getD_in (by rw [inv.size]; have := hjm j0 hj0; omega) hlj0) i hle hi
    have hisz : i < listed.size := by rw [inv.size]; omega
    obtain ⟨hli, o, ho, hafter⟩ := mem_ready.1 hi
    have hlif : listed.getD i false = false := getD_both hli
    have hijs : i ∈ js := by
      by_cases hjs : i ∈ js
      · exact hjs
      · rw [hpre i him hjs] at hlif; cases hlif
    have hwait : ∀ j, Region.waitsFor md ops i j = true → listed.getD j false = true := by
      intro j hj
      obtain ⟨o', ho', e, he, hb, hon⟩ := Region.waitsFor_spec hj
      obtain rfl : o' = o := Option.some.inj (ho'.symm.trans ho)
      rw [← hon]
      exact hafter e he hb
    obtain ⟨done', vt', a', hst, hdone, hvo, hvd, hvw, hvk, hexec, hwant⟩ := ty_step (vs := vs) (listed := listed) (Region.noSelect_spec hsel i o · · ho) ho hlif hwait js [] vs0 a hlook hijs hv0 h
    have next : ∀ v w', S w' → T i (updV vs i v) w' → (w.heap.size ≤ w'.heap.size) → (∀ j ∈ js, listed.getD j false = true → T j vs w') → (∀ b, C i v b → w.heap.size ≤ b ∧ b < w'.heap.size) →
        (i < m → ([] : List Nat).contains i = false → S w') ∧ anyTo P md ops Q S [] m (n + rest.length) (listed.setIfInBounds i true) ((putSel ops vs listed js a).put o.dst v) w' := by
      intro v w' hSw hTv hz hTs hCv
      refine ⟨fun _ _ => hSw, ?_⟩
      have hd : o.dst = dstOf ops i := by unfold dstOf; rw [ho]; rfl
      rw [hd, ← putSel_set hisz hlif js a hlook hijs]
      have hold : ∀ j, j ≠ i → (listed.setIfInBounds i true).getD j false = listed.getD j false := fun j hj => getD_set_ne false (Ne.symm hj)
      have hnew : (listed.setIfInBounds i true).getD i false = true := by simp [hisz]
      have vi : updV vs i v i = v := by simp [updV]
      have vj : ∀ j, j ≠ i → updV vs i v j = vs j := fun j hj => by simp [updV, hj]
      refine ih _ _ _ (inv.set hi) (fun j hj hjs => getD_set_true (hpre j hj hjs)) (fun t ht => by rw [hold t (by omega)]; exact htail t ht) ?_ (fun j hj => by rw [vj j (fun e => hj (e ▸ hijs))]; exact hv0 j hj) ⟨hSw, fun j hj hl => ?_, fun j hj hl b hb => ?_, fun p hp q hq hlp hlq hne b hb => ?_⟩
      · have := filter_off (md := md) (ops := ops) (p := fun j => !listed.getD j false) (p' := fun j => !(listed.setIfInBounds i true).getD j false) (i := i) (by show (!listed.getD i false) = true; rw [hlif]; rfl) (by show (!(listed.setIfInBounds i true).getD i false) = false; rw [hnew]; rfl) (fun j hj => by show (!(listed.setIfInBounds i true).getD j false) = (!listed.getD j false); rw [hold j hj]) js hijs hlook
        omega
      · by_cases e : j = i
        · subst e; exact hTv
        · have hlj : listed.getD j false = true := by rw [← hold j e]; exact hl
          refine hTD j vs _ w' (vj j e).symm (fun k hk => (vj k fun ek => ?_).symm) (hTs j hj hlj)
          subst ek
          obtain ⟨oj, hoj, e', he', hb', hon'⟩ := Region.waitsFor_spec hk
          have := inv.closed j oj hoj hlj e' he' hb'
          rw [hon', hlif] at this
          cases this
      · by_cases e : j = i
        · subst e; rw [vi] at hb; exact (hCv b hb).2
        · rw [vj j e] at hb
          exact Nat.lt_of_lt_of_le (I.b j hj (by rw [← hold j e]; exact hl) b hb) hz
      · by_cases ep : p = i
        · subst ep
          rw [vi] at hb
          rw [vj q (Ne.symm hne)]
          intro hb'
          have := I.b q hq (by rw [← hold q (Ne.symm hne)]; exact hlq) b hb'
          have := (hCv b hb).1
          omega
        · rw [vj p ep] at hb
          by_cases eq : q = i
          · subst eq
            rw [vi]
            intro hb'
            have := I.b p hp (by rw [← hold p ep]; exact hlp) b hb
            have := (hCv b hb').1
            omega
          · rw [vj q eq]
            exact I.c p hp q hq (by rw [← hold p ep]; exact hlp) (by rw [← hold q eq]; exact hlq) hne b hb
    have hst := hst w I.s fun j hj hw => by
      have hjj : j ∈ js := (hdone j hj).resolve_left (by simp)
      have hlj := hwait j hw
      refine hTD j vs vt' w (hvd j hj (by simp)).symm (fun k hk => (hvk j hj (by simp) k hk).symm) (I.t j hjj hlj)
    have tdep : ∀ v w', T i (updV vt' i v) w' → T i (updV vs i v) w' := fun v w' ht => hTD i _ _ w' (by simp [updV]) (fun k hk => by
      have hki : k ≠ i := fun e => by rw [e] at hk; rw [hwait i hk] at hlif; cases hlif
      simp only [updV, if_neg hki]
      exact hvw k hk) ht
    unfold wpOp
    simp only [ho]
    rcases hst with ⟨h1, h2⟩ | ⟨h1, h2, h3⟩
    · rw [if_pos (hwant.trans h1)]
      refine .inl (OpTo.wp (K := fun v w' => S w' ∧ R w w' ∧ T i (updV vt' i v) w' ∧ ∀ b, C i v b → w.heap.size ≤ b ∧ b < w'.heap.size) (by unfold OpTo at h2 ⊢; rw [hexec]; exact h2) fun v w' hk => ?_)
      exact next v w' hk.1 (tdep _ _ hk.2.2.1) (hRz _ _ hk.2.1) (fun j hj hl => hRT _ _ _ _ I.s hk.1 hk.2.1 (I.t j hj hl)) hk.2.2.2
    · rw [if_neg (by rw [hwant, h1]; simp)]
      exact next undef w I.s (tdep _ _ h2) (Nat.le_refl _) I.t fun b hb => absurd hb (h3 b)
theorem taken_shut {m : Nat} : ∀ (is : List Nat) (listed : Array Bool), ShutUp md ops listed → takesTo md ops m is listed = true → ShutUp md ops (takenAll is listed)
  | [], _, h, _ => h
  | i :: is, listed, h, hB => by
    simp only [takesTo, Bool.and_eq_true, decide_eq_true_eq] at hB
    exact taken_shut is _ (h.set (by simpa using hB.2.2.2.1)) hB.2.2.2.2
theorem taken_in : ∀ (is : List Nat) (listed : Array Bool) (j : Nat), j < listed.size → j ∈ is ∨ listed.getD j false = true → (takenAll is listed).getD j false = true
  | [], _, _, _, h => h.resolve_left (by simp)
  | i :: is, listed, j, hj, h => by
    refine taken_in is _ j (by simpa using hj) ?_
    rcases h with h | h
    · rcases List.mem_cons.1 h with rfl | h
      · exact .inr (by simp [hj])
      · exact .inl h
    · exact .inr (getD_set_true h)
theorem taken_out : ∀ (is : List Nat) (listed : Array Bool) (j : Nat), j ∉ is → (takenAll is listed).getD j false = listed.getD j false
  | [], _, _, _ => rfl
  | i :: is, listed, j, h => by
    unfold takenAll
    rw [taken_out is _ j (fun hm => h (by simp [hm])), getD_set_ne false fun e => h (by simp [e])]
/-- The check, for the kernel. -/
def tyB (md : Region.Mode) (ops : Array Oper) (is : List Nat) (m : Nat) (js : List Nat) : Bool :=
  Region.noSelect ops && (decide (m < ops.size) && (decide (is.length + (js.length + (ops.size - m)) = ops.size) && (sinkX md ops [] m && (Region.chainB md ops m && (takesTo md ops m is (Array.replicate ops.size false) &&
    (lookB md ops js && (lessB md ops js && (js.all (fun j => decide (j < m) && !is.contains j) && ((List.range m).all (fun j => is.contains j || js.contains j) && (is.all (fun i => decide (i < m)) && Region.seqB md ops (ops.size - m) m (fullTo m (ops.size - m))))))))))))
/-- THE LAW: the operations 'is' only read; those of 'js' call or make memory; from m on there is one order. T: what is known of what an operation left; C: the memory that it has made its own. -/
theorem wp_region_typed {id : Nat} {a : Act} {w : World} {l : List Oper} (S : World → Prop) (R : World → World → Prop) (T : Nat → (Nat → Value) → World → Prop) (C : Nat → Value → Nat → Prop) (is : List Nat) (m : Nat) (js : List Nat) (hf : P.follows .mixedOrders = true) (hB : tyB .any l.toArray is m js = true) (hS : S w.drew)
    (hRz : ∀ w w', R w w' → w.heap.size ≤ w'.heap.size) (hRT : ∀ i vs w w', S w → S w' → R w w' → T i vs w → T i vs w') (hTD : TDep .any l.toArray T)
    (h : wpHead P l.toArray Q S (fun a' => tyAll P .any l.toArray Q S R T C (l.drop m) js [] (fun _ => undef) a') (is.filterMap fun i => l[i]?) a) : (Code.region id l.toArray true).wp P Q a w := by
  simp only [tyB, Bool.and_eq_true, decide_eq_true_eq, List.all_eq_true, Bool.not_eq_true', Bool.or_eq_true] at hB
  obtain ⟨hsel, hm, hsz, hs, hc, ht, hlook, hless, hjm, hcov, him, hseq⟩ := hB
  have inv0 : ShutUp .any l.toArray (Array.replicate l.toArray.size false) := ⟨by simp, fun j oj _ hl => (by rw [getD_replicate_false] at hl; cases hl)⟩
  have hlen : (l.drop m).length = l.toArray.size - m := by rw [List.length_drop]; simp
  suffices key : ∀ F, F = is.length + (js.length + (l.drop m).length) → anyTo P .any l.toArray Q S [] m F (Array.replicate l.toArray.size false) a w.drew from
    wp_region_any hf (any_of_anyTo (S := S) (ex := []) (m := m) _ _ _ _ (key _ (by rw [hlen]; exact hsz.symm)))
  rintro _ rfl
  have hnot : ∀ j, j ∉ is → (takenAll is (Array.replicate l.toArray.size false)).getD j false = false := fun j hj => by rw [taken_out _ _ _ hj, getD_replicate_false]
  have hjis : ∀ j ∈ js, j ∉ is := fun j hj hm => by
    have := (hjm j hj).2
    rw [List.contains_iff_mem.2 hm] at this
    cases this
  refine to_takes hsel hs hc hm hS is _ a inv0 ht (fun a' hK => ?_) (by simpa using h)
  have hf0 : ∀ j ∈ js, (takenAll is (Array.replicate l.toArray.size false)).getD j false = false := fun j hj => hnot j (hjis j hj)
  have hp0 : ∀ (js : List Nat) (a : Act), (∀ j ∈ js, (takenAll is (Array.replicate l.toArray.size false)).getD j false = false) → putSel l.toArray (fun _ => undef) (takenAll is (Array.replicate l.toArray.size false)) js a = a := by
    intro js
    induction js with
    | nil => intro a _; rfl
    | cons j js ih =>
      intro a h
      unfold putSel
      rw [h j (by simp), if_neg (by simp)]
      exact ih a fun k hk => h k (by simp [hk])
  have := ty_any (P := P) (md := .any) (ops := l.toArray) (Q := Q) (S := S) (R := R) (T := T) (C := C) (rest := l.drop m) (m := m) (js := js) (a := a') hsel hs hc hm (fun j => by rw [List.getElem?_drop, List.getElem?_toArray]) hlen hlook hless (fun j hj => (hjm j hj).1) (by rw [hlen]; exact hseq) hRz hRT hTD (fun _ => undef) hK js.length (takenAll is (Array.replicate l.toArray.size false)) (fun _ => undef) w.drew
    (taken_shut is _ inv0 ht) (fun j hj hjs => taken_in is _ j (by simpa using Nat.lt_trans hj (by simpa using hm)) (.inl (by
      rcases hcov j (List.mem_range.2 hj) with h | h
      · simpa using h
      · exact absurd (by simpa using h) hjs))) (fun t ht => hnot t fun hm => by have := him t hm; omega) (by
        rw [List.filter_eq_self.2]
        intro j hj
        rw [hf0 j hj]; rfl) (fun _ _ => rfl) ⟨hS, fun j hj hl => (by rw [hf0 j hj] at hl; cases hl), fun j hj hl => (by rw [hf0 j hj] at hl; cases hl), fun i hi j hj hl => (by rw [hf0 i hi] at hl; cases hl)⟩
  rw [hp0 js a' hf0] at this
  exact this
/-! Words for the walk. -/
theorem TDep.own (T : Nat → Value → World → Prop) : TDep md ops (fun i vs w => T i (vs i) w) := fun i vs vs' w h _ ht => by
  show T i (vs' i) w
  rw [← h]
  exact ht
theorem ty_nil {rest : List Oper} {done : List Nat} {vs : Nat → Value} {a : Act} (h : ∀ w, S w → (∀ j ∈ done, T j vs w) → (∀ i ∈ done, ∀ j ∈ done, i ≠ j → ∀ b, C i (vs i) b → ¬ C j (vs j) b) → wpList P ops Q rest a w) : tyAll P md ops Q S R T C rest [] done vs a := h
theorem ty_one {rest : List Oper} {i : Nat} {js done : List Nat} {vs : Nat → Value} {a : Act} {o : Oper} (ho : ops[i]? = some o) (hw : Region.wanted o (yielded ops a.tmps) = true)
    (h : ∀ w, S w → (∀ j ∈ done, Region.waitsFor md ops i j = true → T j vs w) → OpTo P o a.eval w fun v w' => S w' ∧ R w w' ∧ T i (updV vs i v) w' ∧ ∀ b, C i v b → w.heap.size ≤ b ∧ b < w'.heap.size)
    (hk : ∀ v, tyAll P md ops Q S R T C rest js (i :: done) (updV vs i v) (a.put o.dst v)) : tyAll P md ops Q S R T C rest (i :: js) done vs a := by
  refine ⟨?_, fun v => ?_⟩
  · rw [ho]
    exact fun w hS hT => .inl ⟨hw, h w hS hT⟩
  · have hd : dstOf ops i = o.dst := by unfold dstOf; rw [ho]; rfl
    rw [hd]
    exact hk v
theorem OpTo.enter {o : Oper} {f : Operand → Value} {w w' : World} {g : FuncId} {args : Array Value} {K : Value → World → Prop} (h : (execOp f o).run P w = .ok (.enter g args) w') (hc : Calls P g args w' fun e w'' => ∃ v, e = .returned v ∧ K v w'') : OpTo P o f w K := by
  unfold OpTo
  rw [h]
  exact hc
theorem OpTo.value {o : Oper} {f : Operand → Value} {w w' : World} {v : Value} {K : Value → World → Prop} (h : (execOp f o).run P w = .ok (.value v) w') (hK : K v w') : OpTo P o f w K := by
  unfold OpTo
  rw [h]
  exact hK
end
end Go.Proofs.Ytegegljpmelomaa
