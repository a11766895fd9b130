/- Rows of the call's own, of whatever elements: appends onto them, and how they are read. No condition but sizes. -/
import Derived.Test.YtegegljpmelomaaModPl
import Derived.Test.YtegegljpmelomaaQuietC
set_option linter.unusedVariables false
set_option maxRecDepth 20000
namespace Go.Proofs.Ytegegljpmelomaa
open Go.RowKit Go.Deep

/-- A row of the call's own that holds L, each element laid out by enc. -/
def OwnR {α : Type} (e : TypeId) (size : Nat) (enc : α → List Value) (w : World) (B : Nat) (v : Value) (L : List α) : Prop := w.ownsRow B e size v L.length (L.flatMap enc)
/-- Behind appends onto v the world has new blocks, and v's own may have turned. -/
def GExt (w w' : World) (v v' : Value) : Prop := w.grownBy w' v.ownBlock ∧ (v'.ownBlock = v.ownBlock ∨ ∃ g, v'.ownBlock = some g ∧ w.heap.size ≤ g)
theorem GExt.refl (w : World) (v : Value) : GExt w w v v := ⟨World.grownBy.refl w _, .inl rfl⟩
theorem GExt.trans {a b c : World} {v v1 v2 : Value} (h : GExt a b v v1) (k : GExt b c v1 v2) : GExt a c v v2 := by
  obtain ⟨h1, h2⟩ := h
  obtain ⟨k1, k2⟩ := k
  refine ⟨⟨k1.os.trans h1.os, k1.tape.trans h1.tape, k1.output.trans h1.output, Nat.le_trans h1.size k1.size, fun i hi hne => ?_⟩, ?_⟩
  · refine (k1.block i (Nat.lt_of_lt_of_le hi h1.size) ?_).trans (h1.block i hi hne)
    rcases h2 with e | ⟨g, e, hg⟩ <;> rw [e]
    · exact hne
    · intro he
      injection he with he
      omega
  · rcases k2 with e | ⟨g, e, hg⟩
    · rw [e]
      exact h2
    · exact .inr ⟨g, e, Nat.le_trans h1.size hg⟩
theorem GExt.alloc {a b : World} {v v1 : Value} (h : GExt a b v v1) (o : Obj) : GExt a (b.alloc o) v v1 := ⟨only_alloc h.1 o, h.2⟩
theorem GExt.drew {a b : World} {v v1 : Value} (h : GExt a b v v1) : GExt a b.drew v v1 := ⟨only_drew h.1, h.2⟩
theorem GExt.of_append {a b c : World} {v v1 v2 : Value} (h : GExt a b v v1) (hg : b.grownBy c v1.ownBlock) (hv : v2.ownBlock = v1.ownBlock ∨ v2.ownBlock = some b.heap.size) : GExt a c v v2 :=
  h.trans ⟨hg, hv.imp id fun e => ⟨_, e, Nat.le_refl _⟩⟩
theorem GExt.below {a b : World} {v v1 : Value} (h : GExt a b v v1) {B : Nat} (hB : B ≤ a.heap.size) (hv : ∀ k, v.ownBlock = some k → B ≤ k) : Below B a b := (Below.refl B a).grown h.1 hB hv
section
variable {α β : Type} {e e2 : TypeId} {size size2 : Nat} {enc : α → List Value} {enc2 : β → List Value} {w w' : World} {B : Nat} {v v2 : Value} {L : List α} {M : List β}
theorem OwnR.nil : OwnR e size enc w B (.slice none 0 0) [] := World.ownsRow_nil w B e size
theorem OwnR.base (h : OwnR e size enc w B v L) : ∀ k, v.ownBlock = some k → B ≤ k := fun k hk => (World.ownsRow.lt h k hk).1
theorem OwnR.alloc (h : OwnR e size enc w B v L) (o : Obj) : OwnR e size enc (w.alloc o) B v L := World.ownsRow.alloc h o
theorem OwnR.drew (h : OwnR e size enc w B v L) : OwnR e size enc w.drew B v L := h
theorem OwnR.drewN (h : OwnR e size enc w B v L) (n : Nat) : OwnR e size enc (w.drewN n) B v L := h
theorem OwnR.below (h : OwnR e size enc w B v L) (hb : Below w.heap.size w w') : OwnR e size enc w' B v L := by
  refine World.ownsRow.kept h (only_of_below hb none) ?_
  cases hv : v.ownBlock
  · exact .inl rfl
  · exact .inr (by simp)
theorem OwnR.setCell (h : OwnR e size enc w B v L) {p : Addr} (hp : p.block < B) (u : Value) : OwnR e size enc (w.setCell p u) B v L := by
  refine World.ownsRow.kept h (only_setCell (World.grownBy.refl w (some p.block)) (.inl rfl) u) (.inr fun e => ?_)
  have := h.base _ e
  omega
theorem OwnR.typ (h : OwnR e size enc w B v L) {g : Nat} (hg : v.ownBlock = some g) : ∃ cur, w.heap[g]? = some (.cells cur e (0, 0)) := by
  rcases h.2 with ⟨rfl, _⟩ | ⟨g', cap, cur, rfl, _, hh, _⟩
  · simp [Value.ownBlock] at hg
  · simp only [Value.ownBlock, Option.some.injEq] at hg
    subst hg
    exact ⟨cur, hh⟩
/-- Rows of unlike elements lie in unlike blocks. -/
theorem OwnR.other (h : OwnR e size enc w B v L) (h2 : OwnR e2 size2 enc2 w B v2 M) (hne : e ≠ e2) (hg : w.grownBy w' v2.ownBlock) : OwnR e size enc w' B v L := by
  refine World.ownsRow.kept h hg ?_
  cases hv : v.ownBlock with
  | none => exact .inl rfl
  | some g =>
    refine .inr fun he => ?_
    obtain ⟨c1, k1⟩ := h.typ hv
    obtain ⟨c2, k2⟩ := h2.typ he.symm
    rw [k1] at k2
    injection k2 with k2
    injection k2 with _ k3
    exact hne k3
theorem OwnR.blk (h2 : OwnR e2 size2 enc2 w B v2 M) {g : Nat} {t : TypeId} {cs : Array Value} (h : Blk w g t cs) (hg : g < B) (hw : w.grownBy w' v2.ownBlock) : Blk w' g t cs :=
  h.grown hw fun he => by
    have := h2.base g he.symm
    omega
theorem OwnR.form (h : OwnR e size enc w B v L) : ∃ s : Sl α, v = s.val ∧ s.L = L ∧ (L.length ≤ s.c ∧ s.c ≤ 9223372036854775807) ∧ (0 < L.length → ∃ g, s.A = some ⟨g, 0, none⟩ ∧ B ≤ g ∧ g < w.heap.size ∧ ∀ j u, (L.flatMap enc)[j]? = some u → w.cell? ⟨g, j, none⟩ = some u) := by
  have h' := h
  rcases h.2 with ⟨rfl, h0⟩ | ⟨g, cap, cur, rfl, hb, hh, hn, hc, hs, ht⟩
  · have : L = [] := List.eq_nil_of_length_eq_zero h0
    subst this
    exact ⟨⟨none, 0, []⟩, rfl, rfl, ⟨Nat.le_refl _, Nat.zero_le _⟩, fun h => absurd h (Nat.lt_irrefl _)⟩
  · have hlt := (World.ownsRow.lt h' g rfl).2
    refine ⟨⟨some ⟨g, 0, none⟩, cap, L⟩, rfl, rfl, ⟨hn, hc⟩, fun _ => ⟨g, rfl, hb, hlt, fun j u hu => ?_⟩⟩
    have := World.ownsRow.cells h' (g := g) rfl j u hu
    have hadd : (⟨g, 0, none⟩ : Addr).add j = ⟨g, j, none⟩ := by unfold Addr.add; split <;> simp_all
    rwa [hadd] at this
end
theorem flatMap_at {α : Type} (enc : α → List Value) (size : Nat) (hsz : 0 < size) (hlen : ∀ x, (enc x).length = size) : ∀ (L : List α) (i r : Nat) (x : α), L[i]? = some x → r < size → (L.flatMap enc)[i * size + r]? = (enc x)[r]? := by
  intro L
  induction L with
  | nil => intro i r x h; simp at h
  | cons y L ih =>
    intro i r x h hr
    rw [List.flatMap_cons]
    rcases i with _ | i
    · have e : y = x := by simpa using h
      subst e
      rw [Nat.zero_mul, Nat.zero_add, List.getElem?_append_left (by rw [hlen]; exact hr)]
    · rw [List.getElem?_append_right (by rw [hlen, Nat.succ_mul]; omega), hlen]
      rw [show (i + 1) * size + r - size = i * size + r by rw [Nat.succ_mul]; omega]
      exact ih i r x (by simpa using h) hr
theorem flatMap_len {α : Type} (enc : α → List Value) (size : Nat) (hlen : ∀ x, (enc x).length = size) (L : List α) : (L.flatMap enc).length = L.length * size := by
  induction L with
  | nil => simp
  | cons y L ih => rw [List.flatMap_cons, List.length_append, hlen, ih, List.length_cons, Nat.succ_mul]; omega
/-- An element's cells are as enc lays them. -/
def Lays {α : Type} (d : Dec α) (enc : α → List Value) : Prop := ∀ (w : World) (a : Addr) (x : α), d w a x → ∀ r u, (enc x)[r]? = some u → w.cell? (a.add r) = some u
/-- Cells that are as enc lays them are the element, if it is well. -/
def Makes {α : Type} (d : Dec α) (enc : α → List Value) (ok : World → α → Prop) : Prop := ∀ (w : World) (g o : Nat) (x : α), ok w x → (∀ r u, (enc x)[r]? = some u → w.cell? ⟨g, o + r, none⟩ = some u) → d w ⟨g, o, none⟩ x
/-- A row that is read, as a source of cells. -/
theorem RowD.reads {α : Type} {d : Dec α} {enc : α → List Value} {size : Nat} (hsz : 0 < size) (hlen : ∀ x, (enc x).length = size) (hl : Lays d enc) {w : World} {A : Option Addr} {L : List α} (h : RowD d size w A L) : Reads w w.heap.size size A L.length (L.flatMap enc) := by
  refine ⟨flatMap_len enc size hlen L, fun hn => ?_⟩
  obtain ⟨a, rfl, h0⟩ := h 0 _ (List.getElem?_eq_getElem hn)
  have hcell : ∀ i x, L[i]? = some x → d w (a.add (i * size)) x := fun i x hx => by
    obtain ⟨a', e, h'⟩ := h i x hx
    injection e with e
    rw [e]
    exact h'
  refine ⟨a, rfl, ?_, ?_⟩
  · have hc := hl w _ _ h0 0 ((enc L[0])[0]'(by rw [hlen]; exact hsz)) (List.getElem?_eq_getElem _)
    have := cell_lt hc
    rwa [block_of_add, block_of_add] at this
  · intro j u hu
    have hj : j < (L.flatMap enc).length := (List.getElem?_eq_some_iff.1 hu).1
    rw [flatMap_len enc size hlen] at hj
    have hi : j / size < L.length := Nat.div_lt_of_lt_mul (by rw [Nat.mul_comm]; exact hj)
    have hr : j % size < size := Nat.mod_lt _ hsz
    have hdm : j / size * size + j % size = j := by rw [Nat.mul_comm]; exact Nat.div_add_mod j size
    have hx := List.getElem?_eq_getElem hi
    have e := flatMap_at enc size hsz hlen L (j / size) (j % size) _ hx hr
    rw [hdm, hu] at e
    have := hl w _ _ (hcell _ _ hx) (j % size) u e.symm
    rw [add_of_add, hdm] at this
    exact this
theorem OwnR.at_ {α : Type} {d : Dec α} {enc : α → List Value} {ok : World → α → Prop} {e : TypeId} {size : Nat} (hsz : 0 < size) (hlen : ∀ x, (enc x).length = size) (hm : Makes d enc ok) {w : World} {B : Nat} {v : Value} {L : List α}
    (h : OwnR e size enc w B v L) (hok : ∀ x ∈ L, ok w x) : ∃ s : Sl α, v = s.val ∧ s.L = L ∧ s.At d size w := by
  obtain ⟨s, hv, hL, hc, hf⟩ := h.form
  refine ⟨s, hv, hL, ?_, by rw [hL]; exact hc.1, hc.2⟩
  rw [hL]
  intro i x hx
  have hi : i < L.length := (List.getElem?_eq_some_iff.1 hx).1
  obtain ⟨g, hA, _, _, hcell⟩ := hf (by omega)
  refine ⟨_, hA, ?_⟩
  have hadd : (⟨g, 0, none⟩ : Addr).add (i * size) = ⟨g, i * size, none⟩ := by unfold Addr.add; split <;> simp_all
  rw [hadd]
  refine hm w g (i * size) x (hok x (List.mem_of_getElem? hx)) fun r u hu => hcell _ _ ?_
  have hr : r < size := by
    have := (List.getElem?_eq_some_iff.1 hu).1
    rwa [hlen] at this
  rw [flatMap_at enc size hsz hlen L i r x hx hr]
  exact hu

section
variable {P : Program} {α : Type}
theorem run_append_src (e T ty : TypeId) (size bytes : Nat) (z : Value) (enc : α → List Value) (hsz : 0 < size) (hlen : ∀ x, (enc x).length = size) (hone : ∀ x, ∀ u ∈ enc x, u.oneCell' = true)
    (hT : P.underlying T = some (.slice e)) (hinf : (P.info? e).map (fun i => (i.zero, i.size, i.bytes)) = some (some z, size, bytes)) (hz : z.cells.size = size)
    (w : World) (B B' : Nat) (v : Value) (L M : List α) (A : Option Addr) (m c : Nat) (hown : OwnR e size enc w B v L) (hr : Reads w B' size A m (M.flatMap enc)) (hm : M.length = m)
    (hb : (L.length + M.length) * bytes ≤ 140737488355328) (h6 : L.length + M.length ≤ 9223372036854775807) (hB : B ≤ w.heap.size) :
    ∃ v' w', (Builtin.append_ #[T, T] ty #[v, .slice A m c]).run P w = .ok v' w' ∧ OwnR e size enc w' B v' (L ++ M) ∧ GExt w w' v v' := by
  obtain ⟨i, hi, hz0, hz1, hz2⟩ := info_parts hinf
  subst hm
  obtain ⟨v', w', hrun, h2, h3, h4⟩ := run_append_any (P := P) w B T ty e i z size bytes hT hi hz0 hz1 hz2 hz hsz v L.length (L.flatMap enc) hown B' A M.length c (M.flatMap enc) hr (by
    intro u hu
    obtain ⟨x, _, hx⟩ := List.mem_flatMap.1 hu
    exact hone x u hx) h6 hb hB
  refine ⟨v', w', hrun, ?_, ⟨h3, h4.imp id fun e => ⟨_, e, Nat.le_refl _⟩⟩⟩
  unfold OwnR
  rw [List.length_append, List.flatMap_append]
  exact h2
/-- 'v = append(v, x)': x laid in a block of its own, the last. -/
theorem run_append_one (e T ty : TypeId) (size bytes : Nat) (z : Value) (enc : α → List Value) (hsz : 0 < size) (hlen : ∀ x, (enc x).length = size) (hone : ∀ x, ∀ u ∈ enc x, u.oneCell' = true)
    (hT : P.underlying T = some (.slice e)) (hinf : (P.info? e).map (fun i => (i.zero, i.size, i.bytes)) = some (some z, size, bytes)) (hz : z.cells.size = size)
    (w : World) (B : Nat) (v : Value) (L : List α) (x : α) (cs : Array Value) (hcs : cs = (enc x).toArray) (hown : OwnR e size enc w B v L)
    (hb : (L.length + 1) * bytes ≤ 140737488355328) (h6 : L.length + 1 ≤ 9223372036854775807) (hB : B ≤ w.heap.size) :
    ∃ v' w', (Builtin.append_ #[T, T] ty #[v, .slice (some ⟨w.heap.size, 0, none⟩) 1 1]).run P (w.alloc (.cells cs e)) = .ok v' w' ∧ OwnR e size enc w' B v' (L ++ [x]) ∧ GExt w w' v v' := by
  subst hcs
  have hr : Reads (w.alloc (.cells (enc x).toArray e)) (w.heap.size + 1) size (some ⟨w.heap.size, 0, none⟩) 1 ([x].flatMap enc) := by
    refine ⟨by simp [hlen], fun _ => ⟨_, rfl, by simp, fun j u hu => ?_⟩⟩
    have h := (Blk.new w e (enc x).toArray).cell j
    have hadd : (⟨w.heap.size, 0, none⟩ : Addr).add j = ⟨w.heap.size, j, none⟩ := by unfold Addr.add; split <;> simp_all
    rw [hadd, h, ← hu]
    simp
  obtain ⟨v', w', hrun, h2, h3⟩ := run_append_src e T ty size bytes z enc hsz hlen hone hT hinf hz (w.alloc (.cells (enc x).toArray e)) B _ v L [x] _ 1 1 (hown.alloc _) hr rfl (by simpa using hb) (by simpa using h6) (by simp; omega)
  exact ⟨v', w', hrun, h2, (GExt.alloc (GExt.refl w v) _).trans h3⟩
theorem wp_of_append {o : Oper} {a : Act} {K : Act → World → Prop} {Q : Exit → Act → World → Prop} (w w' : World) (s x : Operand) (T : TypeId) (v sv v' : Value)
    (ho : o.op = .call { callee := .builtin .append, args := #[s, x], argTypes := #[T, T] }) (hs : a.eval s = v) (hx : a.eval x = sv) (hrun : (Builtin.append_ #[T, T] o.type #[v, sv]).run P w = .ok v' w') (h : K (a.put o.dst v') w') : o.wp P a w K Q := by
  unfold Oper.wp execOp
  simp only [ho, resolve, invoke, builtin, Sem.run_bind, Sem.run_pure, Result.andThen_ok, List.map_toArray, List.map_cons, List.map_nil, hs, hx, hrun]
  exact h
theorem wpList_of_append {ops : Array Oper} {rest : List Oper} {o : Oper} {a : Act} {Q : Exit → Act → World → Prop} (hgd : o.guard = none) (w w' : World) (s x : Operand) (T : TypeId) (v sv v' : Value)
    (ho : o.op = .call { callee := .builtin .append, args := #[s, x], argTypes := #[T, T] }) (hs : a.eval s = v) (hx : a.eval x = sv) (hrun : (Builtin.append_ #[T, T] o.type #[v, sv]).run P w = .ok v' w') (h : wpList P ops Q rest (a.put o.dst v') w') : wpList P ops Q (o :: rest) a w :=
  wpList_plain hgd fun _ hK => wp_of_append w w' s x T v sv v' ho hs hx hrun (hK _ _ h)
theorem step_of_append {ops : Array Oper} {o : Oper} {a : Act} {K : Act → World → Prop} {Q : Exit → Act → World → Prop} {E : Prop} (hgd : o.guard = none) (w w' : World) (s x : Operand) (T : TypeId) (v sv v' : Value)
    (ho : o.op = .call { callee := .builtin .append, args := #[s, x], argTypes := #[T, T] }) (hs : a.eval s = v) (hx : a.eval x = sv) (hrun : (Builtin.append_ #[T, T] o.type #[v, sv]).run P w = .ok v' w') (h : K (a.put o.dst v') w') :
    if Region.wanted o (yielded ops a.tmps) = true then Oper.wp P o a w K Q else E := by
  have hw : Region.wanted o (yielded ops a.tmps) = true := by simp [Region.wanted, hgd]
  rw [if_pos hw]
  exact wp_of_append w w' s x T v sv v' ho hs hx hrun h
end

def encInt (x : Int) : List Value := [.int .i64 x]
def encFl (x : Nat) : List Value := [.float .f64 x]
def encIns (x : Ins4) : List Value := [.int .i64 x.1, .int .i64 x.2.1, .int .i64 x.2.2.1, .int .i64 x.2.2.2]
def encInit (x : Init3) : List Value := [.float .f64 x.1, .int .i64 x.2.1, .int .i64 x.2.2]
def encSl {α : Type} (x : Sl α) : List Value := [x.val]
def encLp (x : LP2) : List Value := [.int .i64 x.1, x.2.val]
theorem spot_of {w : World} {a : Addr} {v : Value} (h : w.cell? a = some v) : a = ⟨a.block, a.off, none⟩ := by
  have := World.cell?_spot h
  obtain ⟨b, o, s⟩ := a
  simp only at this
  rw [this]
theorem add_lit (b o r : Nat) : (⟨b, o, none⟩ : Addr).add r = ⟨b, o + r, none⟩ := by unfold Addr.add; split <;> simp_all
theorem lays_int : Lays IntAt encInt := by
  intro w a x h r u hu
  rcases r with _ | r
  · have : u = .int .i64 x := by simpa [encInt] using hu.symm
    rw [this, show a.add 0 = a by unfold Addr.add; simp]
    exact h.1
  · simp [encInt] at hu
theorem lays_fl : Lays FlAt encFl := by
  intro w a x h r u hu
  rcases r with _ | r
  · have : u = .float .f64 x := by simpa [encFl] using hu.symm
    rw [this, show a.add 0 = a by unfold Addr.add; simp]
    exact h.1
  · simp [encFl] at hu
theorem lays_ins : Lays InsAt encIns := by
  intro w a x h r u hu
  obtain ⟨h0, h1, h2, h3, _⟩ := h
  have ha := spot_of h0
  rw [ha, add_lit]
  rw [ha] at h0
  rcases r with _ | _ | _ | _ | r
  · rw [← hu]; exact h0
  · rw [← hu]; exact h1
  · rw [← hu]; exact h2
  · rw [← hu]; exact h3
  · simp [encIns] at hu
theorem lays_init : Lays InitAt encInit := by
  intro w a x h r u hu
  obtain ⟨h0, h1, h2, _⟩ := h
  have ha := spot_of h0
  rw [ha, add_lit]
  rw [ha] at h0
  rcases r with _ | _ | _ | r
  · rw [← hu]; exact h0
  · rw [← hu]; exact h1
  · rw [← hu]; exact h2
  · simp [encInit] at hu
theorem makes_int : Makes IntAt encInt (fun _ x => I64 x) := fun w g o x hok h => ⟨h 0 _ rfl, hok⟩
theorem makes_fl : Makes FlAt encFl (fun _ x => x < 18446744073709551616) := fun w g o x hok h => ⟨h 0 _ rfl, hok⟩
theorem makes_ins : Makes InsAt encIns (fun _ x => I64 x.1 ∧ I64 x.2.1 ∧ I64 x.2.2.1 ∧ I64 x.2.2.2) := fun w g o x hok h => ⟨h 0 _ rfl, h 1 _ rfl, h 2 _ rfl, h 3 _ rfl, hok⟩
theorem makes_init : Makes InitAt encInit (fun _ x => x.1 < 18446744073709551616 ∧ I64 x.2.1 ∧ I64 x.2.2) := fun w g o x hok h => ⟨h 0 _ rfl, h 1 _ rfl, h 2 _ rfl, hok⟩
theorem makes_sl {α : Type} (d : Dec α) (size : Nat) : Makes (SlAt d size) encSl (fun w x => x.At d size w) := fun w g o x hok h => ⟨h 0 _ rfl, hok⟩
theorem makes_lp : Makes LpAt encLp (fun w x => I64 x.1 ∧ x.2.At IntAt 1 w) := fun w g o x hok h => ⟨h 0 _ rfl, h 1 _ rfl, hok⟩
end Go.Proofs.Ytegegljpmelomaa
