/- A drawn statement whose operations only read, then call and make memory in one order, and at last write: its reads are walked first, in the text's order. No condition. -/
import Derived.Test.YtegegljpmelomaaTyped
set_option linter.unusedVariables false
namespace Go.Proofs.Ytegegljpmelomaa
open Go

section
variable {P : Program} {ops : Array Oper} {md : Region.Mode} {Q : Exit → Act → World → Prop} {S : World → Prop}
/-- What calls or makes memory, one behind the other, S shown anew behind each. -/
def wpMidC (P : Program) (ops : Array Oper) (S : World → Prop) (K : Act → World → Prop) : List Oper → Act → World → Prop
  | [], a, w => K a w
  | o :: l, a, w => Region.wanted o (yielded ops a.tmps) = true ∧ OpTo P o a.eval w fun v w1 => S w1 ∧ wpMidC P ops S K l (a.put o.dst v) w1
theorem midc_call {K : Act → World → Prop} {o : Oper} {l : List Oper} {a : Act} {w w' : World} {g : FuncId} {args : Array Value} (h0 : Region.wanted o (yielded ops a.tmps) = true) (h : (execOp a.eval o).run P w = .ok (.enter g args) w')
    (hk : Calls P g args w' fun e w1 => ∃ v, e = .returned v ∧ S w1 ∧ wpMidC P ops S K l (a.put o.dst v) w1) : wpMidC P ops S K (o :: l) a w := ⟨h0, OpTo.enter h hk⟩
theorem midc_step {K : Act → World → Prop} {o : Oper} {l : List Oper} {a : Act} {w : World} (v : Value) (w1 : World) (h0 : Region.wanted o (yielded ops a.tmps) = true) (h : (execOp a.eval o).run P w = .ok (.value v) w1) (hs : S w1) (hk : wpMidC P ops S K l (a.put o.dst v) w1) : wpMidC P ops S K (o :: l) a w :=
  ⟨h0, OpTo.value h ⟨hs, hk⟩⟩
theorem midc_append {K : Act → World → Prop} {l : List Oper} {o : Oper} {a : Act} (hgd : o.guard = none) (w w' : World) (s x : Operand) (T : TypeId) (v sv v' : Value)
    (ho : o.op = .call { callee := .builtin .append, args := #[s, x], argTypes := #[T, T] }) (hs : a.eval s = v) (hx : a.eval x = sv) (hrun : (Builtin.append_ #[T, T] o.type #[v, sv]).run P w = .ok v' w') (hS : S w') (h : wpMidC P ops S K l (a.put o.dst v') w') : wpMidC P ops S K (o :: l) a w := by
  refine midc_step v' w' (by simp [Region.wanted, hgd]) ?_ hS h
  unfold execOp
  simp only [ho, resolve, invoke, builtin, Sem.run_bind, Sem.run_pure, Result.andThen_ok, List.map_toArray, List.map_cons, List.map_nil, hs, hx, hrun]
theorem midc_nil {K : Act → World → Prop} {a : Act} {w : World} (h : K a w) : wpMidC P ops S K [] a w := h
theorem to_of_midC {ex : List Nat} {m g : Nat} (rest : List Oper) (hg : g = rest.length) (hrest : ∀ j, rest[j]? = ops[m + j]?) : ∀ (l : List Oper) (k : Nat) (listed : Array Bool) (a : Act) (w : World), k + l.length = m → (∀ j, j < l.length → l[j]? = ops[k + j]?) →
    Region.seqB md ops (l.length + g) k listed = true → wpMidC P ops S (wpList P ops Q rest) l a w → anyTo P md ops Q S ex m (l.length + g) listed a w
  | [], k, listed, a, w, hk, _, hB, h => by
    obtain rfl : k = m := by simpa using hk
    rw [List.length_nil, Nat.zero_add] at hB ⊢
    rw [hg] at hB ⊢
    exact to_of_list rest k listed a w (Nat.le_refl _) hrest hB h
  | o :: l, k, listed, a, w, hk, hl, hB, h => by
    have h0 : ops[k]? = some o := by simpa using (hl 0 (by simp)).symm
    rw [List.length_cons, show l.length + 1 + g = (l.length + g) + 1 from by omega] at hB ⊢
    rw [List.length_cons] at hk
    simp only [Region.seqB, Bool.and_eq_true, decide_eq_true_eq] at hB
    refine ⟨fun h1 => (by rw [hB.1] at h1; cases h1), fun i hi => ?_⟩
    rw [hB.1] at hi
    obtain rfl : i = k := by simpa using hi
    obtain ⟨hw, hm⟩ := h
    unfold wpOp
    simp only [h0, hw, if_true]
    refine .inl (OpTo.wp hm fun v w' hk' => ⟨fun _ _ => hk'.1, to_of_midC rest hg hrest l (i + 1) _ _ _ (by omega) (fun j hj => ?_) hB.2 hk'.2⟩)
    have := hl (j + 1) (by rw [List.length_cons]; omega)
    simpa [Nat.add_assoc, Nat.add_comm 1 j] using this
/-- THE LAW: operation 0 copies a letter; operations 1 to p only read; q operations call or make memory; then what has one order. -/
theorem wp_region_readsC {id : Nat} {a : Act} {w : World} {o : Oper} {l : List Oper} (S : World → Prop) (v : Value) (p q : Nat) (hf : P.follows .mixedOrders = true) (hB : tailB .any (o :: l).toArray (p + 1) (p + 1 + q) = true)
    (hy : Yields P (o :: l).toArray o v a) (hQ : ∀ c a w, Q (.panic c) (a.put o.dst v) w → Q (.panic c) a w) (hS : S w.drew)
    (h : wpHead P (o :: l).toArray Q S (fun a' => wpMidC P (o :: l).toArray S (wpList P (o :: l).toArray Q ((l.drop p).drop q)) ((l.drop p).take q) a' w.drew) (l.take p) (a.put o.dst v)) : (Code.region id (o :: l).toArray true).wp P Q a w := by
  simp only [tailB, Bool.and_eq_true, decide_eq_true_eq] at hB
  obtain ⟨hsel, hm, _, hnm, hs, hc, hfr, hr, hlex⟩ := hB
  have hsz : (o :: l).toArray.size = l.length + 1 := by simp
  rw [hsz] at hm
  have inv0 : ShutUp .any (o :: l).toArray (Array.replicate (o :: l).toArray.size false) := ⟨by simp, fun j oj _ hl => (by rw [getD_replicate_false] at hl; cases hl)⟩
  have hr0 : 0 ∈ Region.ready .any (o :: l).toArray (Array.replicate (o :: l).toArray.size false) := by simpa using hr
  have hpl : p ≤ l.length := by omega
  have htk : (l.take p).length = p := by rw [List.length_take]; omega
  have hmd : ((l.drop p).take q).length = q := by rw [List.length_take, List.length_drop]; omega
  have htl : ((l.drop p).drop q).length = l.length + 1 - (p + 1 + q) := by rw [List.length_drop, List.length_drop]; omega
  have hg : (o :: l).toArray.size - (p + 1) = q + ((l.drop p).drop q).length := by rw [hsz, htl]; omega
  suffices key : ∀ F, F = (p + ((o :: l).toArray.size - (p + 1))) + 1 → anyTo P .any (o :: l).toArray Q S [0] (p + 1 + q) F (Array.replicate (o :: l).toArray.size false) a w.drew from
    wp_region_any hf (any_of_anyTo (S := S) (ex := [0]) (m := p + 1 + q) _ _ _ _ (key _ (by rw [hsz]; omega)))
  rintro _ rfl
  refine anyTo_first (i := 0) (oi := o) (T := fun _ => True) (I := fun _ => True) (by simp) hsel hQ (fun _ _ _ => trivial) (fun _ _ _ h => by simp at h) (fun _ _ _ _ _ _ _ _ => trivial) _ _ _ _ inv0 trivial (Region.free_spec (by simp) hfr) hr0
    (hy.imp (fun ⟨h1, h2⟩ => ⟨h1, fun w _ => h2 w⟩) fun h => h) trivial ?_
  have H := to_of_head (md := .any) (P := P) (ops := (o :: l).toArray) (Q := Q) (S := S) (ex := [0]) (m := p + 1 + q) (n := p + 1) (g := (o :: l).toArray.size - (p + 1)) (w := w.drew) (K := fun a' => wpMidC P (o :: l).toArray S (wpList P (o :: l).toArray Q ((l.drop p).drop q)) ((l.drop p).take q) a' w.drew)
    hsel hs hc (by rw [hsz]; exact hm) hnm hS (fun listed a' hseq hK => by
      rw [hg] at hseq ⊢
      have := to_of_midC (md := .any) (P := P) (ops := (o :: l).toArray) (Q := Q) (S := S) (ex := [0]) (m := p + 1 + q) (g := ((l.drop p).drop q).length) ((l.drop p).drop q) rfl (fun j => by
        rw [List.getElem?_drop, List.getElem?_drop, List.getElem?_toArray, show p + 1 + q + j = (p + (q + j)) + 1 from by omega, List.getElem?_cons_succ]) ((l.drop p).take q) (p + 1) listed a' w.drew (by rw [hmd]) (fun j hj => by
          rw [hmd] at hj
          rw [List.getElem?_take, if_pos hj, List.getElem?_drop, List.getElem?_toArray, show p + 1 + j = (p + j) + 1 from by omega, List.getElem?_cons_succ]) (by rw [hmd]; exact hseq) hK
      rw [hmd] at this
      exact this)
    (l.take p) 1 _ (a.put o.dst v) (fun j hj => by
      rw [htk] at hj
      rw [List.getElem?_take, if_pos hj, List.getElem?_toArray, Nat.add_comm, List.getElem?_cons_succ]) (by rw [htk]; omega) (fun j h1 _ => by simp; omega) (inv0.set hr0) (fun x hx => by
      obtain rfl : x = 0 := by simpa using hx
      simp) (by rw [htk]; exact hlex) h
  rw [htk] at H
  exact H
end
end Go.Proofs.Ytegegljpmelomaa
