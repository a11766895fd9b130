/- Texts of this claim in one. No condition. -/
import Derived.Test.YtpfcmfannkbipaaJ04
import Derived.Test.YtpfcmfannkbipaaJ05
import Derived.Deep.RegionLaw
import Derived.WalkSmall
import Derived.Deep.DeepCutAuto
section
set_option linter.unusedVariables false
set_option maxRecDepth 20000
namespace Go.Proofs.Ytpfcmfannkbipaa
open Go.RowKit Go.Deep

/-- A row of the call's own that holds L, each element laid out by enc. -/
def OwnR {α : Type} (e : TypeId) (size : Nat) (enc : α → List Value) (w : World) (B : Nat) (v : Value) (L : List α) : Prop := w.ownsRow B e size v L.length (L.flatMap enc)
/-- Behind appends onto v the world has new blocks, and v's own may have turned. -/
def GExt (w w' : World) (v v' : Value) : Prop := w.grownBy w' v.ownBlock ∧ (v'.ownBlock = v.ownBlock ∨ ∃ g, v'.ownBlock = some g ∧ w.heap.size ≤ g)
theorem GExt.refl (w : World) (v : Value) : GExt w w v v := ⟨World.grownBy.refl w _, .inl rfl⟩
theorem GExt.trans {a b c : World} {v v1 v2 : Value} (h : GExt a b v v1) (k : GExt b c v1 v2) : GExt a c v v2 := by
  obtain ⟨h1, h2⟩ := h
  obtain ⟨k1, k2⟩ := k
  refine ⟨⟨k1.os.trans h1.os, k1.tape.trans h1.tape, k1.output.trans h1.output, Nat.le_trans h1.size k1.size, fun i hi hne => ?_⟩, ?_⟩
  · refine (k1.block i (Nat.lt_of_lt_of_le hi h1.size) ?_).trans (h1.block i hi hne)
    rcases h2 with e | ⟨g, e, hg⟩ <;> rw [e]
    · exact hne
    · intro he
      injection he with he
      omega
  · rcases k2 with e | ⟨g, e, hg⟩
    · rw [e]
      exact h2
    · exact .inr ⟨g, e, Nat.le_trans h1.size hg⟩
theorem GExt.alloc {a b : World} {v v1 : Value} (h : GExt a b v v1) (o : Obj) : GExt a (b.alloc o) v v1 := ⟨only_alloc h.1 o, h.2⟩
theorem GExt.drew {a b : World} {v v1 : Value} (h : GExt a b v v1) : GExt a b.drew v v1 := ⟨only_drew h.1, h.2⟩
theorem GExt.of_append {a b c : World} {v v1 v2 : Value} (h : GExt a b v v1) (hg : b.grownBy c v1.ownBlock) (hv : v2.ownBlock = v1.ownBlock ∨ v2.ownBlock = some b.heap.size) : GExt a c v v2 :=
  h.trans ⟨hg, hv.imp id fun e => ⟨_, e, Nat.le_refl _⟩⟩
theorem GExt.below {a b : World} {v v1 : Value} (h : GExt a b v v1) {B : Nat} (hB : B ≤ a.heap.size) (hv : ∀ k, v.ownBlock = some k → B ≤ k) : Below B a b := (Below.refl B a).grown h.1 hB hv
section
variable {α β : Type} {e e2 : TypeId} {size size2 : Nat} {enc : α → List Value} {enc2 : β → List Value} {w w' : World} {B : Nat} {v v2 : Value} {L : List α} {M : List β}
theorem OwnR.nil : OwnR e size enc w B (.slice none 0 0) [] := World.ownsRow_nil w B e size
theorem OwnR.base (h : OwnR e size enc w B v L) : ∀ k, v.ownBlock = some k → B ≤ k := fun k hk => (World.ownsRow.lt h k hk).1
theorem OwnR.alloc (h : OwnR e size enc w B v L) (o : Obj) : OwnR e size enc (w.alloc o) B v L := World.ownsRow.alloc h o
theorem OwnR.drew (h : OwnR e size enc w B v L) : OwnR e size enc w.drew B v L := h
theorem OwnR.drewN (h : OwnR e size enc w B v L) (n : Nat) : OwnR e size enc (w.drewN n) B v L := h
theorem OwnR.below (h : OwnR e size enc w B v L) (hb : Below w.heap.size w w') : OwnR e size enc w' B v L := by
  refine World.ownsRow.kept h (only_of_below hb none) ?_
  cases hv : v.ownBlock
  · exact .inl rfl
  · exact .inr (by simp)
theorem OwnR.setCell (h : OwnR e size enc w B v L) {p : Addr} (hp : p.block < B) (u : Value) : OwnR e size enc (w.setCell p u) B v L := by
  refine World.ownsRow.kept h (only_setCell (World.grownBy.refl w (some p.block)) (.inl rfl) u) (.inr fun e => ?_)
  have := h.base _ e
  omega
theorem OwnR.typ (h : OwnR e size enc w B v L) {g : Nat} (hg : v.ownBlock = some g) : ∃ cur, w.heap[g]? = some (.cells cur e (0, 0)) := by
  rcases h.2 with ⟨rfl, _⟩ | ⟨g', cap, cur, rfl, _, hh, _⟩
  · simp [Value.ownBlock] at hg
  · simp only [Value.ownBlock, Option.some.injEq] at hg
    subst hg
    exact ⟨cur, hh⟩
/-- Rows of unlike elements lie in unlike blocks. -/
theorem OwnR.other (h : OwnR e size enc w B v L) (h2 : OwnR e2 size2 enc2 w B v2 M) (hne : e ≠ e2) (hg : w.grownBy w' v2.ownBlock) : OwnR e size enc w' B v L := by
  refine World.ownsRow.kept h hg ?_
  cases hv : v.ownBlock with
  | none => exact .inl rfl
  | some g =>
    refine .inr fun he => ?_
    obtain ⟨c1, k1⟩ := h.typ hv
    obtain ⟨c2, k2⟩ := h2.typ he.symm
    rw [k1] at k2
    injection k2 with k2
    injection k2 with _ k3
    exact hne k3
theorem OwnR.blk (h2 : OwnR e2 size2 enc2 w B v2 M) {g : Nat} {t : TypeId} {cs : Array Value} (h : Blk w g t cs) (hg : g < B) (hw : w.grownBy w' v2.ownBlock) : Blk w' g t cs :=
  h.grown hw fun he => by
    have := h2.base g he.symm
    omega
theorem OwnR.form (h : OwnR e size enc w B v L) : ∃ s : Sl α, v = s.val ∧ s.L = L ∧ (L.length ≤ s.c ∧ s.c ≤ 9223372036854775807) ∧ (0 < L.length → ∃ g, s.A = some ⟨g, 0, none⟩ ∧ B ≤ g ∧ g < w.heap.size ∧ ∀ j u, (L.flatMap enc)[j]? = some u → w.cell? ⟨g, j, none⟩ = some u) := by
  have h' := h
  rcases h.2 with ⟨rfl, h0⟩ | ⟨g, cap, cur, rfl, hb, hh, hn, hc, hs, ht⟩
  · have : L = [] := List.eq_nil_of_length_eq_zero h0
    subst this
    exact ⟨⟨none, 0, []⟩, rfl, rfl, ⟨Nat.le_refl _, Nat.zero_le _⟩, fun h => absurd h (Nat.lt_irrefl _)⟩
  · have hlt := (World.ownsRow.lt h' g rfl).2
    refine ⟨⟨some ⟨g, 0, none⟩, cap, L⟩, rfl, rfl, ⟨hn, hc⟩, fun _ => ⟨g, rfl, hb, hlt, fun j u hu => ?_⟩⟩
    have := World.ownsRow.cells h' (g := g) rfl j u hu
    have hadd : (⟨g, 0, none⟩ : Addr).add j = ⟨g, j, none⟩ := by unfold Addr.add; split <;> simp_all
    rwa [hadd] at this
end
theorem flatMap_at {α : Type} (enc : α → List Value) (size : Nat) (hsz : 0 < size) (hlen : ∀ x, (enc x).length = size) : ∀ (L : List α) (i r : Nat) (x : α), L[i]? = some x → r < size → (L.flatMap enc)[i * size + r]? = (enc x)[r]? := by
  intro L
  induction L with
  | nil => intro i r x h; simp at h
  | cons y L ih =>
    intro i r x h hr
    rw [List.flatMap_cons]
    rcases i with _ | i
    · have e : y = x := by simpa using h
      subst e
      rw [Nat.zero_mul, Nat.zero_add, List.getElem?_append_left (by rw [hlen]; exact hr)]
    · rw [List.getElem?_append_right (by rw [hlen, Nat.succ_mul]; omega), hlen]
      rw [show (i + 1) * size + r - size = i * size + r by rw [Nat.succ_mul]; omega]
      exact ih i r x (by simpa using h) hr
theorem flatMap_len {α : Type} (enc : α → List Value) (size : Nat) (hlen : ∀ x, (enc x).length = size) (L : List α) : (L.flatMap enc).length = L.length * size := by
  induction L with
  | nil => simp
  | cons y L ih => rw [List.flatMap_cons, List.length_append, hlen, ih, List.length_cons, Nat.succ_mul]; omega
/-- An element's cells are as enc lays them. -/
def Lays {α : Type} (d : Dec α) (enc : α → List Value) : Prop := ∀ (w : World) (a : Addr) (x : α), d w a x → ∀ r u, (enc x)[r]? = some u → w.cell? (a.add r) = some u
/-- Cells that are as enc lays them are the element, if it is well. -/
def Makes {α : Type} (d : Dec α) (enc : α → List Value) (ok : World → α → Prop) : Prop := ∀ (w : World) (g o : Nat) (x : α), ok w x → (∀ r u, (enc x)[r]? = some u → w.cell? ⟨g, o + r, none⟩ = some u) → d w ⟨g, o, none⟩ x
/-- A row that is read, as a source of cells. -/
theorem RowD.reads {α : Type} {d : Dec α} {enc : α → List Value} {size : Nat} (hsz : 0 < size) (hlen : ∀ x, (enc x).length = size) (hl : Lays d enc) {w : World} {A : Option Addr} {L : List α} (h : RowD d size w A L) : Reads w w.heap.size size A L.length (L.flatMap enc) := by
  refine ⟨flatMap_len enc size hlen L, fun hn => ?_⟩
  obtain ⟨a, rfl, h0⟩ := h 0 _ (List.getElem?_eq_getElem hn)
  have hcell : ∀ i x, L[i]? = some x → d w (a.add (i * size)) x := fun i x hx => by
    obtain ⟨a', e, h'⟩ := h i x hx
    injection e with e
    rw [e]
    exact h'
  refine ⟨a, rfl, ?_, ?_⟩
  · have hc := hl w _ _ h0 0 ((enc L[0])[0]'(by rw [hlen]; exact hsz)) (List.getElem?_eq_getElem _)
    have := cell_lt hc
    rwa [block_of_add, block_of_add] at this
  · intro j u hu
    have hj : j < (L.flatMap enc).length := (List.getElem?_eq_some_iff.1 hu).1
    rw [flatMap_len enc size hlen] at hj
    have hi : j / size < L.length := Nat.div_lt_of_lt_mul (by rw [Nat.mul_comm]; exact hj)
    have hr : j % size < size := Nat.mod_lt _ hsz
    have hdm : j / size * size + j % size = j := by rw [Nat.mul_comm]; exact Nat.div_add_mod j size
    have hx := List.getElem?_eq_getElem hi
    have e := flatMap_at enc size hsz hlen L (j / size) (j % size) _ hx hr
    rw [hdm, hu] at e
    have := hl w _ _ (hcell _ _ hx) (j % size) u e.symm
    rw [add_of_add, hdm] at this
    exact this
theorem OwnR.at_ {α : Type} {d : Dec α} {enc : α → List Value} {ok : World → α → Prop} {e : TypeId} {size : Nat} (hsz : 0 < size) (hlen : ∀ x, (enc x).length = size) (hm : Makes d enc ok) {w : World} {B : Nat} {v : Value} {L : List α}
    (h : OwnR e size enc w B v L) (hok : ∀ x ∈ L, ok w x) : ∃ s : Sl α, v = s.val ∧ s.L = L ∧ s.At d size w := by
  obtain ⟨s, hv, hL, hc, hf⟩ := h.form
  refine ⟨s, hv, hL, ?_, by rw [hL]; exact hc.1, hc.2⟩
  rw [hL]
  intro i x hx
  have hi : i < L.length := (List.getElem?_eq_some_iff.1 hx).1
  obtain ⟨g, hA, _, _, hcell⟩ := hf (by omega)
  refine ⟨_, hA, ?_⟩
  have hadd : (⟨g, 0, none⟩ : Addr).add (i * size) = ⟨g, i * size, none⟩ := by unfold Addr.add; split <;> simp_all
  rw [hadd]
  refine hm w g (i * size) x (hok x (List.mem_of_getElem? hx)) fun r u hu => hcell _ _ ?_
  have hr : r < size := by
    have := (List.getElem?_eq_some_iff.1 hu).1
    rwa [hlen] at this
  rw [flatMap_at enc size hsz hlen L i r x hx hr]
  exact hu

section
variable {P : Program} {α : Type}
theorem run_append_src (e T ty : TypeId) (size bytes : Nat) (z : Value) (enc : α → List Value) (hsz : 0 < size) (hlen : ∀ x, (enc x).length = size) (hone : ∀ x, ∀ u ∈ enc x, u.oneCell' = true)
    (hT : P.underlying T = some (.slice e)) (hinf : (P.info? e).map (fun i => (i.zero, i.size, i.bytes)) = some (some z, size, bytes)) (hz : z.cells.size = size)
    (w : World) (B B' : Nat) (v : Value) (L M : List α) (A : Option Addr) (m c : Nat) (hown : OwnR e size enc w B v L) (hr : Reads w B' size A m (M.flatMap enc)) (hm : M.length = m)
    (hb : (L.length + M.length) * bytes ≤ 140737488355328) (h6 : L.length + M.length ≤ 9223372036854775807) (hB : B ≤ w.heap.size) :
    ∃ v' w', (Builtin.append_ #[T, T] ty #[v, .slice A m c]).run P w = .ok v' w' ∧ OwnR e size enc w' B v' (L ++ M) ∧ GExt w w' v v' := by
  obtain ⟨i, hi, hz0, hz1, hz2⟩ := info_parts hinf
  subst hm
  obtain ⟨v', w', hrun, h2, h3, h4⟩ := run_append_any (P := P) w B T ty e i z size bytes hT hi hz0 hz1 hz2 hz hsz v L.length (L.flatMap enc) hown B' A M.length c (M.flatMap enc) hr (by
    intro u hu
    obtain ⟨x, _, hx⟩ := List.mem_flatMap.1 hu
    exact hone x u hx) h6 hb hB
  refine ⟨v', w', hrun, ?_, ⟨h3, h4.imp id fun e => ⟨_, e, Nat.le_refl _⟩⟩⟩
  unfold OwnR
  rw [List.length_append, List.flatMap_append]
  exact h2
/-- 'v = append(v, x)': x laid in a block of its own, the last. -/
theorem run_append_one (e T ty : TypeId) (size bytes : Nat) (z : Value) (enc : α → List Value) (hsz : 0 < size) (hlen : ∀ x, (enc x).length = size) (hone : ∀ x, ∀ u ∈ enc x, u.oneCell' = true)
    (hT : P.underlying T = some (.slice e)) (hinf : (P.info? e).map (fun i => (i.zero, i.size, i.bytes)) = some (some z, size, bytes)) (hz : z.cells.size = size)
    (w : World) (B : Nat) (v : Value) (L : List α) (x : α) (cs : Array Value) (hcs : cs = (enc x).toArray) (hown : OwnR e size enc w B v L)
    (hb : (L.length + 1) * bytes ≤ 140737488355328) (h6 : L.length + 1 ≤ 9223372036854775807) (hB : B ≤ w.heap.size) :
    ∃ v' w', (Builtin.append_ #[T, T] ty #[v, .slice (some ⟨w.heap.size, 0, none⟩) 1 1]).run P (w.alloc (.cells cs e)) = .ok v' w' ∧ OwnR e size enc w' B v' (L ++ [x]) ∧ GExt w w' v v' := by
  subst hcs
  have hr : Reads (w.alloc (.cells (enc x).toArray e)) (w.heap.size + 1) size (some ⟨w.heap.size, 0, none⟩) 1 ([x].flatMap enc) := by
    refine ⟨by simp [hlen], fun _ => ⟨_, rfl, by simp, fun j u hu => ?_⟩⟩
    have h := (Blk.new w e (enc x).toArray).cell j
    have hadd : (⟨w.heap.size, 0, none⟩ : Addr).add j = ⟨w.heap.size, j, none⟩ := by unfold Addr.add; split <;> simp_all
    rw [hadd, h, ← hu]
    simp
  obtain ⟨v', w', hrun, h2, h3⟩ := run_append_src e T ty size bytes z enc hsz hlen hone hT hinf hz (w.alloc (.cells (enc x).toArray e)) B _ v L [x] _ 1 1 (hown.alloc _) hr rfl (by simpa using hb) (by simpa using h6) (by simp; omega)
  exact ⟨v', w', hrun, h2, (GExt.alloc (GExt.refl w v) _).trans h3⟩
theorem wp_of_append {o : Oper} {a : Act} {K : Act → World → Prop} {Q : Exit → Act → World → Prop} (w w' : World) (s x : Operand) (T : TypeId) (v sv v' : Value)
    (ho : o.op = .call { callee := .builtin .append, args := #[s, x], argTypes := #[T, T] }) (hs : a.eval s = v) (hx : a.eval x = sv) (hrun : (Builtin.append_ #[T, T] o.type #[v, sv]).run P w = .ok v' w') (h : K (a.put o.dst v') w') : o.wp P a w K Q := by
  unfold Oper.wp execOp
  simp only [ho, resolve, invoke, builtin, Sem.run_bind, Sem.run_pure, Result.andThen_ok, List.map_toArray, List.map_cons, List.map_nil, hs, hx, hrun]
  exact h
theorem wpList_of_append {ops : Array Oper} {rest : List Oper} {o : Oper} {a : Act} {Q : Exit → Act → World → Prop} (hgd : o.guard = none) (w w' : World) (s x : Operand) (T : TypeId) (v sv v' : Value)
    (ho : o.op = .call { callee := .builtin .append, args := #[s, x], argTypes := #[T, T] }) (hs : a.eval s = v) (hx : a.eval x = sv) (hrun : (Builtin.append_ #[T, T] o.type #[v, sv]).run P w = .ok v' w') (h : wpList P ops Q rest (a.put o.dst v') w') : wpList P ops Q (o :: rest) a w :=
  wpList_plain hgd fun _ hK => wp_of_append w w' s x T v sv v' ho hs hx hrun (hK _ _ h)
theorem step_of_append {ops : Array Oper} {o : Oper} {a : Act} {K : Act → World → Prop} {Q : Exit → Act → World → Prop} {E : Prop} (hgd : o.guard = none) (w w' : World) (s x : Operand) (T : TypeId) (v sv v' : Value)
    (ho : o.op = .call { callee := .builtin .append, args := #[s, x], argTypes := #[T, T] }) (hs : a.eval s = v) (hx : a.eval x = sv) (hrun : (Builtin.append_ #[T, T] o.type #[v, sv]).run P w = .ok v' w') (h : K (a.put o.dst v') w') :
    if Region.wanted o (yielded ops a.tmps) = true then Oper.wp P o a w K Q else E := by
  have hw : Region.wanted o (yielded ops a.tmps) = true := by simp [Region.wanted, hgd]
  rw [if_pos hw]
  exact wp_of_append w w' s x T v sv v' ho hs hx hrun h
end

def encInt (x : Int) : List Value := [.int .i64 x]
def encFl (x : Nat) : List Value := [.float .f64 x]
def encIns (x : Ins4) : List Value := [.int .i64 x.1, .int .i64 x.2.1, .int .i64 x.2.2.1, .int .i64 x.2.2.2]
def encInit (x : Init3) : List Value := [.float .f64 x.1, .int .i64 x.2.1, .int .i64 x.2.2]
def encSl {α : Type} (x : Sl α) : List Value := [x.val]
def encLp (x : LP2) : List Value := [.int .i64 x.1, x.2.val]
theorem spot_of {w : World} {a : Addr} {v : Value} (h : w.cell? a = some v) : a = ⟨a.block, a.off, none⟩ := by
  have := World.cell?_spot h
  obtain ⟨b, o, s⟩ := a
  simp only at this
  rw [this]
theorem add_lit (b o r : Nat) : (⟨b, o, none⟩ : Addr).add r = ⟨b, o + r, none⟩ := by unfold Addr.add; split <;> simp_all
theorem lays_int : Lays IntAt encInt := by
  intro w a x h r u hu
  rcases r with _ | r
  · have : u = .int .i64 x := by simpa [encInt] using hu.symm
    rw [this, show a.add 0 = a by unfold Addr.add; simp]
    exact h.1
  · simp [encInt] at hu
theorem lays_fl : Lays FlAt encFl := by
  intro w a x h r u hu
  rcases r with _ | r
  · have : u = .float .f64 x := by simpa [encFl] using hu.symm
    rw [this, show a.add 0 = a by unfold Addr.add; simp]
    exact h.1
  · simp [encFl] at hu
theorem lays_ins : Lays InsAt encIns := by
  intro w a x h r u hu
  obtain ⟨h0, h1, h2, h3, _⟩ := h
  have ha := spot_of h0
  rw [ha, add_lit]
  rw [ha] at h0
  rcases r with _ | _ | _ | _ | r
  · rw [← hu]; exact h0
  · rw [← hu]; exact h1
  · rw [← hu]; exact h2
  · rw [← hu]; exact h3
  · simp [encIns] at hu
theorem lays_init : Lays InitAt encInit := by
  intro w a x h r u hu
  obtain ⟨h0, h1, h2, _⟩ := h
  have ha := spot_of h0
  rw [ha, add_lit]
  rw [ha] at h0
  rcases r with _ | _ | _ | r
  · rw [← hu]; exact h0
  · rw [← hu]; exact h1
  · rw [← hu]; exact h2
  · simp [encInit] at hu
theorem makes_int : Makes IntAt encInt (fun _ x => I64 x) := fun w g o x hok h => ⟨h 0 _ rfl, hok⟩
theorem makes_fl : Makes FlAt encFl (fun _ x => x < 18446744073709551616) := fun w g o x hok h => ⟨h 0 _ rfl, hok⟩
theorem makes_ins : Makes InsAt encIns (fun _ x => I64 x.1 ∧ I64 x.2.1 ∧ I64 x.2.2.1 ∧ I64 x.2.2.2) := fun w g o x hok h => ⟨h 0 _ rfl, h 1 _ rfl, h 2 _ rfl, h 3 _ rfl, hok⟩
theorem makes_init : Makes InitAt encInit (fun _ x => x.1 < 18446744073709551616 ∧ I64 x.2.1 ∧ I64 x.2.2) := fun w g o x hok h => ⟨h 0 _ rfl, h 1 _ rfl, h 2 _ rfl, hok⟩
theorem makes_sl {α : Type} (d : Dec α) (size : Nat) : Makes (SlAt d size) encSl (fun w x => x.At d size w) := fun w g o x hok h => ⟨h 0 _ rfl, hok⟩
theorem makes_lp : Makes LpAt encLp (fun w x => I64 x.1 ∧ x.2.At IntAt 1 w) := fun w g o x hok h => ⟨h 0 _ rfl, h 1 _ rfl, hok⟩
end Go.Proofs.Ytpfcmfannkbipaa
end

section
set_option linter.unusedVariables false
set_option linter.unusedSimpArgs false
set_option maxRecDepth 20000
namespace Go.Proofs.Ytpfcmfannkbipaa
open Go.RowKit Go.Deep

theorem need_ok (f : Int) (w : World) : Calls Try.prog 122 #[.bool true, .int .i64 f] w fun e w' => e = .returned (.tuple #[]) ∧ w = w' := by
  go_enter Try.func122, Try.ntmps122
  go_wp2
  go_end0
  exact ⟨rfl, rfl⟩
/-- A run that goes wrong. -/
def faultP (f : Int) : List PanicEntry := [{ v := .iface 164 (.int .i64 f), recovered := false }]
theorem need_no (f : Int) (w : World) : Calls Try.prog 122 #[.bool false, .int .i64 f] w fun e w' => e = .panicked (faultP f) ∧ w = w' := by
  go_enter Try.func122, Try.ntmps122
  go_wp2
  exact ⟨rfl, rfl, rfl⟩
theorem divide_no (b : Int) (w : World) : Calls Try.prog 134 #[.int .i64 b, .int .i64 0] w fun e w' => e = .panicked (faultP 2) ∧ w = w' := by
  go_enter Try.func134, Try.ntmps134
  go_wp2_with (go_at_call 122; refine (need_no _ _).mono ?_; rintro e w' ⟨rfl, rfl⟩)
  exact ⟨rfl, rfl, rfl⟩
theorem divide_any (b c : Int) (w : World) (h0 : c ≠ 0) : Calls Try.prog 134 #[.int .i64 b, .int .i64 c] w fun e w' => e = .returned (.tuple #[.int .i64 (quoI b c), .int .i64 (remI b c)]) ∧ ∃ k, w' = w.drewN k := by
  by_cases h1 : c = -1
  · subst h1
    have e1 : quoI b (-1) = wrap64 (-b) := by unfold quoI; rw [Int.tdiv_neg, Int.tdiv_one]
    have e2 : remI b (-1) = 0 := by unfold remI; rw [Int.tmod_neg, Int.tmod_one]
    rw [e1, e2]
    clear e1 e2
    go_enter Try.func134, Try.ntmps134
    go_wp2_with (go_at_call 122; refine (need_ok _ _).mono ?_; rintro e w' ⟨rfl, rfl⟩)
    go_ret2
    exact ⟨rfl, 0, rfl⟩
  · have e0 : (c != 0) = true := by rw [bne_iff_ne]; exact h0
    have e1 : (c == -1) = false := by rw [beq_eq_false_iff_ne]; exact h1
    go_enter Try.func134, Try.ntmps134
    go_wp2_with (go_at_call 122; refine (need_ok _ _).mono ?_; rintro e w' ⟨rfl, rfl⟩)
    go_quiet (fail)
    go_wp2
    go_ret2
    exact ⟨rfl, _, rfl⟩

/-! The run in memory. -/
theorem Blk.neT {w : World} {g g' : Nat} {t t' : TypeId} {cs cs' : Array Value} (h : Blk w g t cs) (h' : Blk w g' t' cs') (hne : t ≠ t') : g ≠ g' := by
  rintro rfl
  unfold Blk at h h'
  rw [h] at h'
  injection h' with h'
  injection h' with _ h'
  exact hne h'
def runCells (pv wv sv : Value) (lps : Int) (db : Nat) (s : VS) : Array Value :=
  (pv :: (s.g.map (Value.int .i64) ++ [wv, .int .i64 lps, .pointer (some ⟨db, 0, none⟩), sv, .int .i64 s.at_, .int .i64 s.n])).toArray
def encSnt (x : Snt) : List Value := [.int .i64 x.1, .int .i64 x.2.1, .int .i64 x.2.2]
theorem one_snt (x : Snt) : ∀ u ∈ encSnt x, u.oneCell' = true := by intro u hu; simp [encSnt] at hu; rcases hu with rfl | rfl | rfl <;> rfl
theorem one_int (x : Int) : ∀ u ∈ encInt x, u.oneCell' = true := by intro u hu; simp [encInt] at hu; subst hu; rfl
theorem inf_int : (Try.prog.info? 3).map (fun i => (i.zero, i.size, i.bytes)) = some (some (.int .i64 0), 1, 8) := by kernel_rfl
theorem inf_snt : (Try.prog.info? 130).map (fun i => (i.zero, i.size, i.bytes)) = some (some (.agg #[.int .i64 0, .int .i64 0, .int .i64 0]), 3, 24) := by kernel_rfl
/-- A run, as it lies in memory: w0 the world that it began in; below B its own block and its dice; rb: a result's block. -/
structure RunS (rb : Option Nat) (w0 w : World) (B b db : Nat) (pv wv sv : Value) (W lps : Int) (s : VS) : Prop where
  bel : Below w0.heap.size w0 w
  blk : Blk w b 154 (runCells pv wv sv lps db s)
  dic : DiceAt w db W s.d
  wrd : OwnR 3 1 encInt w B wv s.w
  snt : OwnR 130 3 encSnt w B sv s.s
  lb : b < B
  ld : db < B
  siz : B ≤ w.heap.size
  lo : w0.heap.size ≤ b
  lod : w0.heap.size ≤ db
  res : ∀ r, rb = some r → Blk w r 3 #[.int .i64 0] ∧ wv.ownBlock ≠ some r
section
variable {rb : Option Nat} {w0 w w' : World} {B b db : Nat} {pv wv sv : Value} {W lps : Int} {s : VS}
theorem RunS.ne (h : RunS rb w0 w B b db pv wv sv W lps s) : b ≠ db := by
  intro e
  have h1 := h.blk
  have h2 := h.dic
  subst e
  unfold DiceAt at h2
  unfold Blk at h1 h2
  rw [h1] at h2
  injection h2 with h2
  injection h2 with _ h2
  exact absurd h2 (by decide)
/-- Behind a call that only makes memory. -/
theorem RunS.below (h : RunS rb w0 w B b db pv wv sv W lps s) (hb : Below w.heap.size w w') : RunS rb w0 w' B b db pv wv sv W lps s :=
  ⟨below_after h.bel hb, h.blk.below hb h.blk.lt, h.dic.below hb h.dic.lt, h.wrd.below hb, h.snt.below hb, h.lb, h.ld, Nat.le_trans h.siz hb.size, h.lo, h.lod, fun r hr => ⟨(h.res r hr).1.below hb (h.res r hr).1.lt, (h.res r hr).2⟩⟩
theorem RunS.drew (h : RunS rb w0 w B b db pv wv sv W lps s) : RunS rb w0 w.drew B b db pv wv sv W lps s := h.below (Below.refl _ _).drew
theorem RunS.drewN (h : RunS rb w0 w B b db pv wv sv W lps s) (n : Nat) : RunS rb w0 (w.drewN n) B b db pv wv sv W lps s := h.below (below_drewN (Below.refl _ _) n)
theorem RunS.alloc (h : RunS rb w0 w B b db pv wv sv W lps s) (o : Obj) : RunS rb w0 (w.alloc o) B b db pv wv sv W lps s := h.below ((Below.refl _ _).alloc (Nat.le_refl _) o)
/-- A store into the run's own block. -/
theorem RunS.set_ (h : RunS rb w0 w B b db pv wv sv W lps s) (i : Nat) (u : Value) (s' : VS) (hw : s'.w = s.w) (hs : s'.s = s.s) (hd : s'.d = s.d)
    (hc : (runCells pv wv sv lps db s).setIfInBounds i u = runCells pv wv sv lps db s') : RunS rb w0 (w.setCell ⟨b, i, none⟩ u) B b db pv wv sv W lps s' := by
  refine ⟨h.bel.setCell (p := ⟨b, i, none⟩) h.lo _, ?_, ?_, ?_, ?_, h.lb, h.ld, by simpa [World.setCell] using h.siz, h.lo, h.lod, fun r hr => ⟨(h.res r hr).1.far (p := ⟨b, i, none⟩) ((h.res r hr).1.neT h.blk (by decide)) _, (h.res r hr).2⟩⟩
  · rw [← hc]; exact h.blk.set_ i u
  · rw [hd]; exact Blk.far h.dic (p := ⟨b, i, none⟩) (Ne.symm h.ne) u
  · rw [hw]; exact h.wrd.setCell (p := ⟨b, i, none⟩) h.lb u
  · rw [hs]; exact h.snt.setCell (p := ⟨b, i, none⟩) h.lb u
theorem rc_reg (h8 : s.g.length = 8) {i : Nat} (hi : i < 8) : (runCells pv wv sv lps db s)[1 + i]? = some (.int .i64 (s.reg i)) := by
  unfold runCells VS.reg
  rw [List.getElem?_toArray, Nat.add_comm, List.getElem?_cons_succ, List.getElem?_append_left (by rw [List.length_map]; omega), List.getElem?_map, List.getElem?_eq_getElem (by omega), Int.toNat_natCast, List.getD_eq_getElem?_getD, List.getElem?_eq_getElem (by omega)]
  rfl
theorem rc_tail (h8 : s.g.length = 8) (j : Nat) : (runCells pv wv sv lps db s)[9 + j]? = [wv, .int .i64 lps, .pointer (some ⟨db, 0, none⟩), sv, .int .i64 s.at_, .int .i64 s.n][j]? := by
  unfold runCells
  rw [List.getElem?_toArray, show 9 + j = (8 + j) + 1 from by omega, List.getElem?_cons_succ, List.getElem?_append_right (by rw [List.length_map]; omega), List.length_map, h8, Nat.add_sub_cancel_left]
theorem set_tail {α : Type} (x : α) (l m : List α) (j : Nat) (u : α) (hl : l.length = 8) : (x :: (l ++ m)).set (9 + j) u = x :: (l ++ m.set j u) := by
  rw [show 9 + j = (8 + j) + 1 from by omega, List.set_cons_succ, List.set_append_right _ _ (by omega), hl, Nat.add_sub_cancel_left]
theorem rc_put (h8 : s.g.length = 8) {i : Nat} (hi : i < 8) (v : Int) : (runCells pv wv sv lps db s).setIfInBounds (1 + i) (.int .i64 v) = runCells pv wv sv lps db (s.put i v) := by
  unfold runCells VS.put
  rw [List.setIfInBounds_toArray, Nat.add_comm, List.set_cons_succ, List.set_append_left _ _ (by rw [List.length_map]; omega), Int.toNat_natCast, List.map_set]
theorem rc_at (h8 : s.g.length = 8) (a : Nat) : (runCells pv wv sv lps db s).setIfInBounds 13 (.int .i64 a) = runCells pv wv sv lps db { s with at_ := a } := by
  unfold runCells
  rw [List.setIfInBounds_toArray, show 13 = 9 + 4 from rfl, set_tail _ _ _ _ _ (by rw [List.length_map]; exact h8)]
  rfl
theorem rc_n (h8 : s.g.length = 8) (a : Nat) : (runCells pv wv sv lps db s).setIfInBounds 14 (.int .i64 a) = runCells pv wv sv lps db { s with n := a } := by
  unfold runCells
  rw [List.setIfInBounds_toArray, show 14 = 9 + 5 from rfl, set_tail _ _ _ _ _ (by rw [List.length_map]; exact h8)]
  rfl
theorem rc_sent (h8 : s.g.length = 8) (v : Value) (l : List Snt) : (runCells pv wv sv lps db s).setIfInBounds 12 v = runCells pv wv v lps db { s with s := l } := by
  unfold runCells
  rw [List.setIfInBounds_toArray, show 12 = 9 + 3 from rfl, set_tail _ _ _ _ _ (by rw [List.length_map]; exact h8)]
  rfl
end
/-- The run's cells, as the walk asks for them. -/
theorem RunS.regC {rb : Option Nat} {w0 w : World} {B b db : Nat} {pv wv sv : Value} {W lps : Int} {s : VS} (h : RunS rb w0 w B b db pv wv sv W lps s) (h8 : s.g.length = 8) {i : Nat} (hi : i < 8) : w.cell? ⟨b, 1 + i, none⟩ = some (.int .i64 (s.reg i)) := (h.blk.cell _).trans (rc_reg h8 hi)
theorem RunS.tails {rb : Option Nat} {w0 w : World} {B b db : Nat} {pv wv sv : Value} {W lps : Int} {s : VS} (h : RunS rb w0 w B b db pv wv sv W lps s) (h8 : s.g.length = 8) :
    w.cell? ⟨b, 0, none⟩ = some pv ∧ w.cell? ⟨b, 9, none⟩ = some wv ∧ w.cell? ⟨b, 10, none⟩ = some (.int .i64 lps) ∧ w.cell? ⟨b, 11, none⟩ = some (.pointer (some ⟨db, 0, none⟩)) ∧ w.cell? ⟨b, 12, none⟩ = some sv ∧
      w.cell? ⟨b, 13, none⟩ = some (.int .i64 s.at_) ∧ w.cell? ⟨b, 14, none⟩ = some (.int .i64 s.n) :=
  ⟨(h.blk.cell 0).trans rfl, (h.blk.cell 9).trans (rc_tail h8 0), (h.blk.cell 10).trans (rc_tail h8 1), (h.blk.cell 11).trans (rc_tail h8 2), (h.blk.cell 12).trans (rc_tail h8 3), (h.blk.cell 13).trans (rc_tail h8 4), (h.blk.cell 14).trans (rc_tail h8 5)⟩

theorem word_ok (rb : Option Nat) (w0 w : World) (B b db : Nat) (pv sv : Value) (W lps : Int) (s : VS) (c n x k g : Nat) (h : RunS rb w0 w B b db pv (.slice (some ⟨g, 0, none⟩) n c) sv W lps s) (h8 : s.g.length = 8) (hx : x < 8) (hk : s.reg x = k) (hkn : k < n) :
    Calls Try.prog 125 #[.pointer (some ⟨b, 0, none⟩), .int .i64 x] w fun e w' => e = .returned (.pointer (some ⟨g, k, none⟩)) ∧ w = w' := by
  obtain ⟨_, c9, _⟩ := h.tails h8
  have cx := h.regC h8 hx
  rw [hk] at cx
  clear hk h
  go_enter Try.func125, Try.ntmps125
  go_wp2_with (go_at_call 122; refine (need_ok _ _).mono ?_; rintro e w' ⟨rfl, rfl⟩)
  go_ret
  exact ⟨rfl, rfl⟩
theorem word_no (rb : Option Nat) (w0 w : World) (B b db : Nat) (pv sv : Value) (W lps : Int) (s : VS) (A : Option Addr) (c n x : Nat) (h : RunS rb w0 w B b db pv (.slice A n c) sv W lps s) (h8 : s.g.length = 8) (hx : x < 8) (hk : s.reg x < 0 ∨ (n : Int) ≤ s.reg x) :
    Calls Try.prog 125 #[.pointer (some ⟨b, 0, none⟩), .int .i64 x] w fun e w' => e = .panicked (faultP 3) ∧ w = w' := by
  obtain ⟨_, c9, _⟩ := h.tails h8
  have cx := h.regC h8 hx
  generalize s.reg x = r at *
  clear h
  rcases hk with hk | hk
  · have d0 : decide (0 ≤ r) = false := decide_eq_false (by omega)
    go_enter Try.func125, Try.ntmps125
    go_wp2_with (go_at_call 122; refine (need_no _ _).mono ?_; rintro e w' ⟨rfl, rfl⟩)
    exact ⟨rfl, rfl, rfl⟩
  · have h0 : 0 ≤ r := by omega
    have d0 : decide (r < (n : Int)) = false := decide_eq_false (by omega)
    go_enter Try.func125, Try.ntmps125
    go_wp2_with (go_at_call 122; refine (need_no _ _).mono ?_; rintro e w' ⟨rfl, rfl⟩)
    exact ⟨rfl, rfl, rfl⟩
theorem RunS.put {rb : Option Nat} {w0 w : World} {B b db : Nat} {pv wv sv : Value} {W lps : Int} {s : VS} (h : RunS rb w0 w B b db pv wv sv W lps s) (h8 : s.g.length = 8) {i : Nat} (hi : i < 8) (v : Int) :
    RunS rb w0 (w.setCell ⟨b, 1 + i, none⟩ (.int .i64 v)) B b db pv wv sv W lps (s.put i v) := h.set_ (1 + i) _ _ rfl rfl rfl (rc_put h8 hi v)
theorem RunS.free {rb : Option Nat} {w0 w : World} {B b db : Nat} {pv wv sv : Value} {W lps : Int} {s : VS} (h : RunS rb w0 w B b db pv wv sv W lps s) (i : Nat) : w.frozen? ⟨b, i, none⟩ = false := h.blk.frozen i
theorem put_put (s : VS) (i u v : Int) : (s.put i u).put i v = s.put i v := by unfold VS.put; simp
theorem comp_ok (op : Int) (rb : Option Nat) (w0 w : World) (B b db : Nat) (pv wv sv : Value) (W lps : Int) (s : VS) (x y z : Nat) (p q : Int) (h : RunS rb w0 w B b db pv wv sv W lps s) (h8 : s.g.length = 8) (hx : x < 8) (hy : y < 8) (hz : z < 8)
    (hp : s.reg y = p) (hq : s.reg z = q) (hop : 3 ≤ op ∧ op ≤ 8) (hf : twoF op q = 0) :
    Calls Try.prog 126 #[.pointer (some ⟨b, 0, none⟩), .agg #[.int .i64 op, .int .i64 x, .int .i64 y, .int .i64 z]] w fun e w' =>
      e = .returned (.tuple #[]) ∧ RunS rb w0 w' B b db pv wv sv W lps (s.put x (twoI op p q)) := by
  have hbx := Blk.new w 142 #[.int .i64 op, .int .i64 x, .int .i64 y, .int .i64 z]
  replace h := h.alloc (.cells #[.int .i64 op, .int .i64 x, .int .i64 y, .int .i64 z] 142)
  have H := hide h
  have H8 := hide h8
  have HB := hide hbx
  have HF := hide hf
  clear h h8 hbx hf
  go_enter Try.func126, Try.ntmps126
  go_upto_region 1 with fail
  generalize w.alloc _ = w1 at *
  generalize w.heap.size = bx at *
  have q1 := HB.out.cell 1
  have q2 := HB.out.cell 2
  have q3 := HB.out.cell 3
  have cy := H.out.regC H8.out hy
  have cz := H.out.regC H8.out hz
  rw [hp] at cy
  rw [hq] at cz
  clear hp hq
  simp only [List.getElem?_toArray, List.getElem?_cons_zero, List.getElem?_cons_succ] at q1 q2 q3
  go_quiet (fail)
  replace H := hide (H.out.drewN nq)
  replace HB := hide (HB.out.drewN nq)
  clear q1 q2 q3 cy cz
  generalize w1.drewN nq = w2 at *
  clear nq
  have q1 := HB.out.cell 1
  simp only [List.getElem?_toArray, List.getElem?_cons_zero, List.getElem?_cons_succ] at q1
  go_wp2_with fail
  go_quiet (fail)
  replace H := hide (H.out.drewN nq)
  replace HB := hide (HB.out.drewN nq)
  clear q1
  generalize w2.drewN nq = w3 at *
  clear nq
  have q0 := HB.out.cell 0
  have fx := H.out.free (1 + x)
  have cx := H.out.regC H8.out hx
  simp only [List.getElem?_toArray, List.getElem?_cons_zero, List.getElem?_cons_succ] at q0
  have HP := hide (fun v => H.out.put H8.out hx v)
  have HQ := hide (fun k v => (H.out.drewN k).put H8.out hx v)
  have hcs : op = 3 ∨ op = 4 ∨ op = 5 ∨ op = 6 ∨ op = 7 ∨ op = 8 := by omega
  clear hop HB
  rcases hcs with rfl | rfl | rfl | rfl | rfl | rfl
  · clear HF HQ
    go_wp2_with fail
    go_end0
    exact ⟨rfl, by rw [show twoI 3 p q = wrap64 (p + q) from rfl]; exact HP.out _⟩
  · clear HF HQ
    go_wp2_with fail
    go_end0
    exact ⟨rfl, by rw [show twoI 4 p q = wrap64 (p - q) from rfl]; exact HP.out _⟩
  · clear HF HQ
    go_wp2_with fail
    go_end0
    exact ⟨rfl, by rw [show twoI 5 p q = wrap64 (p * q) from rfl]; exact HP.out _⟩
  · have hq : q ≠ 0 := by
      intro e
      have := HF.out
      subst e
      exact absurd this (by decide)
    clear HF HP
    go_wp2_with fail
    refine (divide_any p q _ hq).mono ?_
    rintro e w4 ⟨rfl, k, rfl⟩
    clear hq
    go_wp2_with fail
    go_end0
    exact ⟨rfl, by rw [show twoI 6 p q = quoI p q from rfl]; exact HQ.out _ _⟩
  · have hq : q ≠ 0 := by
      intro e
      have := HF.out
      subst e
      exact absurd this (by decide)
    clear HF HP
    go_wp2_with fail
    refine (divide_any p q _ hq).mono ?_
    rintro e w4 ⟨rfl, k, rfl⟩
    clear hq
    go_wp2_with fail
    go_end0
    exact ⟨rfl, by rw [show twoI 7 p q = remI p q from rfl]; exact HQ.out _ _⟩
  · clear HF HQ
    have H0 := hide (HP.out 0)
    clear HP
    have c1 := World.cell?_setCell_same w3 ⟨b, 1 + x, none⟩ (.int .i64 0) cx
    have f1 : (w3.setCell ⟨b, 1 + x, none⟩ (.int .i64 0)).frozen? ⟨b, 1 + x, none⟩ = false := by rw [World.frozen?_setCell]; exact fx
    by_cases hlt : p < q
    · have e8 := hide (show twoI 8 p q = 1 from if_pos hlt)
      go_wp2_with fail
      go_end0
      refine ⟨rfl, ?_⟩
      rw [e8.out, ← put_put s x 0 1]
      exact H0.out.put (by unfold VS.put; rw [List.length_set]; exact H8.out) hx 1
    · have e8 := hide (show twoI 8 p q = 0 from if_neg hlt)
      go_wp2_with fail
      go_end0
      exact ⟨rfl, by rw [e8.out]; exact H0.out⟩
theorem comp_no (op : Int) (rb : Option Nat) (w0 w : World) (B b db : Nat) (pv wv sv : Value) (W lps : Int) (s : VS) (x y z : Nat) (h : RunS rb w0 w B b db pv wv sv W lps s) (h8 : s.g.length = 8) (hx : x < 8) (hy : y < 8) (hz : z < 8)
    (hop : op = 6 ∨ op = 7) (hf : s.reg z = 0) :
    Calls Try.prog 126 #[.pointer (some ⟨b, 0, none⟩), .agg #[.int .i64 op, .int .i64 x, .int .i64 y, .int .i64 z]] w fun e w' =>
      e = .panicked (faultP 2) ∧ RunS rb w0 w' B b db pv wv sv W lps s := by
  have hbx := Blk.new w 142 #[.int .i64 op, .int .i64 x, .int .i64 y, .int .i64 z]
  replace h := h.alloc (.cells #[.int .i64 op, .int .i64 x, .int .i64 y, .int .i64 z] 142)
  have H := hide h
  have H8 := hide h8
  have HB := hide hbx
  have HF := hide hf
  clear h h8 hbx hf
  go_enter Try.func126, Try.ntmps126
  go_upto_region 1 with fail
  generalize w.alloc _ = w1 at *
  generalize w.heap.size = bx at *
  have q1 := HB.out.cell 1
  have q2 := HB.out.cell 2
  have q3 := HB.out.cell 3
  have cy := H.out.regC H8.out hy
  have cz := H.out.regC H8.out hz
  rw [HF.out] at cz
  simp only [List.getElem?_toArray, List.getElem?_cons_zero, List.getElem?_cons_succ] at q1 q2 q3
  go_quiet (fail)
  replace H := hide (H.out.drewN nq)
  replace HB := hide (HB.out.drewN nq)
  clear q1 q2 q3 cy cz
  generalize w1.drewN nq = w2 at *
  clear nq
  have q1 := HB.out.cell 1
  simp only [List.getElem?_toArray, List.getElem?_cons_zero, List.getElem?_cons_succ] at q1
  go_wp2_with fail
  go_quiet (fail)
  replace H := hide (H.out.drewN nq)
  replace HB := hide (HB.out.drewN nq)
  clear q1
  generalize w2.drewN nq = w3 at *
  clear nq
  have q0 := HB.out.cell 0
  simp only [List.getElem?_toArray, List.getElem?_cons_zero, List.getElem?_cons_succ] at q0
  generalize s.reg y = p at *
  clear HB HF
  rcases hop with rfl | rfl
  · go_wp2_with fail
    refine (divide_no p _).mono ?_
    rintro e w4 ⟨rfl, rfl⟩
    go_wp2_with fail
    exact ⟨rfl, rfl, H.out⟩
  · go_wp2_with fail
    refine (divide_no p _).mono ?_
    rintro e w4 ⟨rfl, rfl⟩
    go_wp2_with fail
    exact ⟨rfl, rfl, H.out⟩
/-- Other blocks stay, when a row is appended to. -/
theorem OwnR.blkT {α : Type} {e2 t : TypeId} {size2 B g : Nat} {enc2 : α → List Value} {w w' : World} {v2 : Value} {M : List α} {cs : Array Value} (h2 : OwnR e2 size2 enc2 w B v2 M) (h : Blk w g t cs) (hne : t ≠ e2) (hw : w.grownBy w' v2.ownBlock) : Blk w' g t cs := by
  refine (hw.block g h.lt ?_).trans h
  intro e
  obtain ⟨cur, hc⟩ := h2.typ e.symm
  unfold Blk at h
  rw [h] at hc
  injection hc with hc
  injection hc with _ hc
  exact hne hc
/-- An event is sent. -/
theorem RunS.send {rb : Option Nat} {w0 w : World} {B b db : Nat} {pv wv sv : Value} {W lps : Int} {s : VS} (h : RunS rb w0 w B b db pv wv sv W lps s) (h8 : s.g.length = 8) (hl : s.s.length ≤ 4) (x : Snt) (ty : TypeId) :
    ∃ A' c' w1, (Builtin.append_ #[113, 113] ty #[sv, .slice (some ⟨w.heap.size, 0, none⟩) 1 1]).run Try.prog (w.alloc (.cells #[.int .i64 x.1, .int .i64 x.2.1, .int .i64 x.2.2] 130)) = .ok (.slice A' (s.s.length + 1) c') w1 ∧
      w1.cell? ⟨b, 12, none⟩ = some sv ∧ w1.frozen? ⟨b, 12, none⟩ = false ∧ RunS rb w0 (w1.setCell ⟨b, 12, none⟩ (.slice A' (s.s.length + 1) c')) B b db pv wv (.slice A' (s.s.length + 1) c') W lps { s with s := s.s ++ [x] } ∧
      ∀ (g : Nat) (t : TypeId) (cs : Array Value), Blk w g t cs → t ≠ 130 → Blk w1 g t cs := by
  obtain ⟨v2, w2, hrun, hown, hext⟩ := run_append_one (P := Try.prog) 130 113 ty 3 24 (.agg #[.int .i64 0, .int .i64 0, .int .i64 0]) encSnt (by decide) (fun _ => rfl) one_snt Try.underlying113 inf_snt rfl w B sv s.s x _ rfl h.snt (by omega) (by omega) h.siz
  obtain ⟨⟨sA, sc, sL⟩, hv, hsL, _⟩ := hown.form
  simp only [Sl.val] at hv hsL
  subst hsL
  rw [List.length_append, List.length_singleton] at hv
  subst hv
  have hg := hext.1
  have ha := h.alloc (.cells #[.int .i64 x.1, .int .i64 x.2.1, .int .i64 x.2.2] 130)
  have hblk : Blk w2 b 154 (runCells pv wv sv lps db s) := OwnR.blk h.snt h.blk h.lb hg
  have hdic : DiceAt w2 db W s.d := OwnR.blk h.snt h.dic h.ld hg
  have hwrd : OwnR 3 1 encInt w2 B wv s.w := h.wrd.other h.snt (by decide) hg
  have hbel : Below w0.heap.size w0 w2 := h.bel.trans ((Below.refl w0.heap.size w).grown hg h.bel.size fun k hk => Nat.le_trans (Nat.le_trans h.lo (Nat.le_of_lt h.lb)) (h.snt.base k hk))
  refine ⟨sA, sc, w2, hrun, (hblk.cell 12).trans (rc_tail h8 3), hblk.frozen 12, ⟨hbel.setCell (p := ⟨b, 12, none⟩) h.lo _, ?_, Blk.far hdic (p := ⟨b, 12, none⟩) (Ne.symm h.ne) _, hwrd.setCell (p := ⟨b, 12, none⟩) h.lb _, hown.setCell (p := ⟨b, 12, none⟩) h.lb _, h.lb, h.ld, by have := h.siz; have := hg.size; simp [World.setCell]; omega, h.lo, h.lod, fun r hr => ⟨(h.snt.blkT (h.res r hr).1 (by decide) hg).far (p := ⟨b, 12, none⟩) ((h.res r hr).1.neT h.blk (by decide)) _, (h.res r hr).2⟩⟩, fun g t cs hk hne => h.snt.blkT hk hne hg⟩
  rw [← rc_sent (s := s) (sv := sv) h8 _ (s.s ++ [x])]
  exact hblk.set_ 12 _
end Go.Proofs.Ytpfcmfannkbipaa
end
