/- The walks of package modelio that lay: numbers, floats, lists. No condition but sizes that any memory has. -/
import Derived.Test.YtegegljpmelomaaMio2
import Derived.Test.YtegegljpmelomaaOwn
import Derived.Test.YtegegljpmelomaaOwnM
import Derived.Test.YtegegljpmelomaaFloat
set_option linter.unusedVariables false
set_option maxRecDepth 20000
namespace Go.Proofs.Ytegegljpmelomaa
open Go.RowKit Go.Deep

theorem OwnB.alloc {w : World} {B : Nat} {v : Value} {l : List UInt8} (h : OwnB w B v l) (o : Obj) : OwnB (w.alloc o) B v l := World.ownsRow.alloc h o
theorem OwnB.below {w w' : World} {B : Nat} {v : Value} {l : List UInt8} (h : OwnB w B v l) (hb : Below w.heap.size w w') : OwnB w' B v l := by
  refine World.ownsRow.kept h (only_of_below hb none) ?_
  cases hv : v.ownBlock
  · exact .inl rfl
  · exact .inr (by simp)
theorem run_append_strB (w : World) (ty : TypeId) (B : Nat) (v : Value) (l : List UInt8) (hown : OwnB w B v l) (s : ByteArray) (hbytes : l.length + s.size ≤ 140737488355328) (hbase : B ≤ w.heap.size) :
    ∃ v' w', (Builtin.append_ #[65, 9] ty #[v, .string s]).run Try.prog w = .ok v' w' ∧ OwnB w' B v' (l ++ s.data.toList) ∧ Ext w w' v v' := by
  obtain ⟨i, hi, hz, hsize, hby⟩ := info_parts u8_info
  have ht : Try.prog.underlying 65 = some (.slice 5) := Try.underlying65
  have hu : Try.prog.underlying 9 = some .string := Try.underlying9
  have hsl : s.data.toList.length = s.size := by simp
  have hcells : (l ++ s.data.toList).map byteV = l.map byteV ++ Lib.strCells s := by rw [List.map_append, strCells_eq]
  have hml : l.length + s.size ≤ maxLen := by unfold maxLen; omega
  rcases hown.2 with ⟨rfl, h0⟩ | ⟨g, cap, cur, rfl, hb, hh, hn, hc, hs, hta⟩
  · obtain rfl : l = [] := List.eq_nil_of_length_eq_zero h0
    obtain ⟨v', w', hr, h2, h3, _⟩ := Lib.run_append_own_string (P := Try.prog) (w := w) w.heap.size 65 9 ty 5 i ht hu hi hz hsize hby (.slice none 0 0) 0 [] (OwnB.nil w w.heap.size) s (by simpa using hml) (by simpa using hbytes) (Nat.le_refl _)
    obtain ⟨v2, w2, hr2, h22, _, _⟩ := Lib.run_append_own_string (P := Try.prog) (w := w) B 65 9 ty 5 i ht hu hi hz hsize hby (.slice none 0 0) 0 [] (OwnB.nil w B) s (by simpa using hml) (by simpa using hbytes) hbase
    rw [hr] at hr2
    injection hr2 with e1 e2
    subst e1 e2
    have hq : OwnB w' w.heap.size v' ([] ++ s.data.toList) := by
      unfold OwnB
      rw [hcells, List.length_append, hsl]
      exact h2
    refine ⟨v', w', hr, ?_, h3, ?_⟩
    · unfold OwnB
      rw [hcells, List.length_append, hsl]
      exact h22
    · cases hv : v'.ownBlock with
      | none => exact .inl rfl
      | some k => exact .inr ⟨k, rfl, hq.base k hv⟩
  · have hM : OwnM w B (.slice (some ⟨g, 0, none⟩) l.length cap) l := ⟨g, cap, cur, (0, 0), rfl, hb, hh, .inl rfl, hn, hc, by simpa using hs, by simpa using hta⟩
    obtain ⟨v', w', hr, _, h3⟩ := run_append_M w ty B _ l hM s hbytes hbase
    obtain ⟨v2, w2, hr2, h22, _, _⟩ := Lib.run_append_own_string (P := Try.prog) (w := w) B 65 9 ty 5 i ht hu hi hz hsize hby _ l.length (l.map byteV) hown s hml hbytes hbase
    rw [hr] at hr2
    injection hr2 with e1 e2
    subst e1 e2
    refine ⟨v', w', hr, ?_, h3⟩
    unfold OwnB
    rw [hcells, List.length_append, hsl]
    exact h22
/-- 'b = append(b, s...)', s a string. -/
theorem wpList_append_strB {ops : Array Oper} {rest : List Oper} {o : Oper} {a : Act} {Q : Exit → Act → World → Prop} (w : World) (hgd : o.guard = none) (sl x : Operand)
    (ho : o.op = .call { callee := .builtin .append, args := #[sl, x], argTypes := #[65, 9] })
    (B : Nat) (v : Value) (l : List UInt8) (hs : a.eval sl = v) (hown : OwnB w B v l) (s : ByteArray) (hx : a.eval x = .string s) (hbytes : l.length + s.size ≤ 140737488355328) (hbase : B ≤ w.heap.size)
    (h : ∀ v' w', OwnB w' B v' (l ++ s.data.toList) → Ext w w' v v' → wpList Try.prog ops Q rest (a.put o.dst v') w') : wpList Try.prog ops Q (o :: rest) a w := by
  refine wpList_plain hgd fun K hK => ?_
  obtain ⟨v', w', hr, h2, h3⟩ := run_append_strB w o.type B v l hown s hbytes hbase
  unfold Oper.wp execOp
  simp only [ho, resolve, invoke, builtin, Sem.run_bind, Sem.run_pure, Result.andThen_ok, List.map_toArray, List.map_cons, List.map_nil, hs, hx, hr]
  exact hK _ _ (h v' w' h2 h3)

/-- What lies in v, built on w0. -/
structure PutTo (w0 : World) (l : List UInt8) (v : Value) (w : World) : Prop where
  own : OwnB w w0.heap.size v l
  bel : Below w0.heap.size w0 w
def PutsTo (w0 w : World) (v : Value) (l : List UInt8) (e : Ending) (w' : World) : Prop := ∃ v', e = .returned v' ∧ PutTo w0 l v' w' ∧ Ext w w' v v'
theorem Ext.of_below {w w' : World} {v : Value} (hb : Below w.heap.size w w') : Ext w w' v v := ⟨only_of_below hb _, .inl rfl⟩
section
variable {w0 w w' : World} {l l' : List UInt8} {v v' : Value}
theorem PutTo.siz (h : PutTo w0 l v w) : w0.heap.size ≤ w.heap.size := h.bel.size
theorem PutTo.below (h : PutTo w0 l v w) (hb : Below w.heap.size w w') : PutTo w0 l v w' := ⟨h.own.below hb, h.bel.trans (hb.mono h.siz)⟩
theorem PutTo.ext (h : PutTo w0 l v w) (ho : OwnB w' w0.heap.size v' l') (he : Ext w w' v v') : PutTo w0 l' v' w' := ⟨ho, h.bel.trans (he.below h.siz h.own.base)⟩
theorem PutTo.start (w0 : World) (hb : Below w0.heap.size w0 w) : PutTo w0 [] (.slice none 0 0) w := ⟨OwnB.nil _ _, hb⟩
theorem PutTo.lt (h : PutTo w0 l v w) : ∀ k, v.ownBlock = some k → k < w.heap.size := fun k hk => (World.ownsRow.lt h.own k hk).2
end
theorem puts_ret {w0 W : World} {l l' : List UInt8} {V v : Value} {w : World} (h : PutTo w0 l v w) (hx : Ext W w V v) (e : l = l') : PutsTo w0 W V l' (.returned v) w := ⟨v, rfl, e ▸ h, hx⟩
/-- A row stays as it is, if the blocks that it lies in do. -/
theorem int_row_kept {A : Option Addr} {L : List Int} {w w' : World} {row : Option Nat} (h : RowD IntAt 1 w A L) (hg : w.grownBy w' row) (hne : ∀ a, A = some a → row ≠ some a.block) : RowD IntAt 1 w' A L := by
  intro i x hx
  obtain ⟨a, e, hc, hi⟩ := h i x hx
  refine ⟨a, e, ?_, hi⟩
  have hlt := cell_lt hc
  have hb : (a.add (i * 1)).block = a.block := block_of_add _ _
  refine Eq.trans ?_ hc
  have := hg.block a.block (by rw [← hb]; exact hlt) fun h => hne a e h.symm
  unfold World.cell?
  rw [hb, this]
theorem iS_bytes {n : Int} (h : I64 n) : (iS n).data.toList = wsB [Mio.ofI n] := by
  rw [iS_w h]
  rfl
theorem uS_bytes (n : Nat) : (uS n).data.toList = wsB [n] := by
  rw [uS_w]
  rfl
theorem wsB_take {s : List Int} {k : Nat} {x : Int} (hx : s[k]? = some x) : wsB ((s.take (k + 1)).map Mio.ofI) = wsB ((s.take k).map Mio.ofI) ++ wsB [Mio.ofI x] := by
  obtain ⟨hk, rfl⟩ := List.getElem?_eq_some_iff.1 hx
  rw [List.take_succ_eq_append_getElem hk, List.map_append, wsB_app]
  rfl
def IntsRel (w0 w : World) (v : Value) (l : List UInt8) (A : Option Addr) (L : List Int) (b i : Value) (wr : World) : Prop :=
  ∃ k : Nat, k ≤ L.length ∧ i = .int .i64 k ∧ PutTo w0 (l ++ wsB ((L.take k).map Mio.ofI)) b wr ∧ RowD IntAt 1 wr A L ∧ (∀ a, A = some a → b.ownBlock ≠ some a.block) ∧ Ext w wr v b
theorem ints_any (w0 : World) (v : Value) (l : List UInt8) (A : Option Addr) (n c : Nat) (L : List Int) (w : World) (hp : PutTo w0 l v w) (hs : RowD IntAt 1 w A L) (hn : L.length = n) (hne : ∀ a, A = some a → v.ownBlock ≠ some a.block) (hl : l.length + 8 * n ≤ 70368744177664) :
    Calls Try.prog 47 #[v, .slice A n c] w (PutsTo w0 w v (l ++ wsB (L.map Mio.ofI))) := by
  subst hn
  have HR := hide (show ∀ b wr, PutTo w0 (l ++ wsB ((L.take L.length).map Mio.ofI)) b wr → Ext w wr v b → PutsTo w0 w v (l ++ wsB (L.map Mio.ofI)) (.returned b) wr from fun b wr h hx => puts_ret h hx (by rw [List.take_length]))
  generalize PutsTo w0 w v (l ++ wsB (L.map Mio.ofI)) = Post at *
  have HP := hide hp
  have HN := hide hne
  clear hp hne
  have hl1 : L.length ≤ 9223372036854775807 := by omega
  go_enter Try.func47, Try.ntmps47
  go_wp2_with fail
  go_loopw [0, 9] (fun b i wr => IntsRel w0 w v l A L b i wr) (fun _ i _ => L.length - (intOf i).toNat)
  case atStart => exact ⟨0, Nat.zero_le _, rfl, by simpa [wsB] using HP.out, hs, HN.out, Ext.refl _ _⟩
  case round =>
    clear hs HP HN
    obtain ⟨k, hk, rfl, hp, hs, hne, hext⟩ := hrel
    have HE := hide hext
    clear hext
    by_cases hlt : k < L.length
    · have hx := List.getElem?_eq_getElem hlt
      obtain ⟨a, rfl, h0, hi⟩ := hs k _ hx
      rw [Nat.mul_one] at h0
      have hab : a.block < wr.heap.size := by have := cell_lt h0; rwa [block_of_add] at this
      generalize L[k] = x at *
      have HX := hide (wsB_take hx)
      have HB := hide (iS_bytes hi)
      have HZ := hide (iS_size x)
      have HP := hide hp
      have HN := hide (hne a rfl)
      have HS := hide hs
      have hcl : (l ++ wsB ((L.take k).map Mio.ofI)).length ≤ l.length + 8 * L.length := by
        rw [List.length_append, wsB_len, List.length_map, List.length_take]
        omega
      clear hx hi hp hne hs
      go_wp2_with fail
      refine (i_any x _).mono ?_
      rintro e w1 ⟨rfl, hb1⟩
      have hp1 := HP.out.below hb1
      have hs1 := HS.out.below IntAt.keeps hb1
      go_wp2_with (at_builtin; go_must (refine wpList_append_strB _ rfl (.tmp 13) (.tmp 15) rfl w0.heap.size _ _ rfl hp1.own (iS x) rfl (by have := HZ.out; omega) hp1.siz ?_); intro v2 w2 hown2 hext2)
      have hp2 : PutTo w0 (l ++ wsB ((L.take (k + 1)).map Mio.ofI)) v2 w2 := hp1.ext (by rw [HX.out, ← HB.out, ← List.append_assoc]; exact hown2) hext2
      have hs2 : RowD IntAt 1 w2 (some a) L := int_row_kept hs1 hext2.1 fun a' e => by injection e with e; rw [← e]; exact HN.out
      have hne2 : ∀ a', some a = some a' → v2.ownBlock ≠ some a'.block := fun a' e => by
        injection e with e
        subst e
        rcases hext2.2 with e | ⟨g, e, hg⟩
        · rw [e]
          exact HN.out
        · rw [e]
          intro he
          injection he with he
          have := hb1.size
          omega
      have HP2 := hide hp2
      have HS2 := hide hs2
      have HN2 := hide hne2
      have HE2 := hide ((HE.out.trans (Ext.of_below hb1)).trans hext2)
      clear hp2 hs2 hne2 hown2 hext2 hp1 hs1
      go_roundw
      case rel => exact ⟨k + 1, by omega, by go_num, HP2.out, HS2.out, HN2.out, HE2.out⟩
      case measure => simp [intOf]; omega
    · obtain rfl : k = L.length := by omega
      have HP := hide hp
      clear hp hne hs
      go_wp2_with fail
      exact HR.out _ _ HP.out HE.out
theorem float_put (w0 : World) (v : Value) (l : List UInt8) (t : Nat) (w : World) (hp : PutTo w0 l v w) (ht : t < 18446744073709551616) (hl : l.length + 8 ≤ 70368744177664) :
    Calls Try.prog 49 #[v, .float .f64 t] w (PutsTo w0 w v (l ++ wsB (Mio.layF t))) := by
  have HP := hide hp
  have HR := hide (show ∀ b wr, PutTo w0 (l ++ wsB (Mio.layF t)) b wr → Ext w wr v b → PutsTo w0 w v (l ++ wsB (Mio.layF t)) (.returned b) wr from fun b wr h hx => puts_ret h hx rfl)
  have HB := hide (uS_bytes t)
  have HZ := hide (us_size t)
  generalize PutsTo w0 w v (l ++ wsB (Mio.layF t)) = Post at *
  have hu := u_any t w (by omega) (by omega)
  clear hp
  have fb := f64bits_run
  go_enter Try.func49, Try.ntmps49
  go_wp2_with fail
  refine hu.mono ?_
  rintro e w1 ⟨rfl, hb1⟩
  have hp1 := HP.out.below hb1
  go_wp2_with (at_builtin; go_must (refine wpList_append_strB _ rfl (.tmp 5) (.tmp 8) rfl w0.heap.size _ _ rfl hp1.own (uS t) rfl (by have := HZ.out; omega) hp1.siz ?_); intro v2 w2 hown2 hext2)
  have hp2 : PutTo w0 (l ++ wsB (Mio.layF t)) v2 w2 := hp1.ext (by rw [show wsB (Mio.layF t) = wsB [t] from rfl, ← HB.out]; exact hown2) hext2
  exact HR.out _ _ hp2 ((Ext.of_below hb1).trans hext2)
/-- Numbers in a row that has just been made. -/
theorem row_new (w : World) (t : TypeId) (L : List Int) (h : ∀ x ∈ L, I64 x) (cs : Array Value) (hcs : cs = (L.map (Value.int .i64)).toArray) : RowD IntAt 1 (w.alloc (.cells cs t)) (some ⟨w.heap.size, 0, none⟩) L := by
  subst hcs
  intro i x hx
  refine ⟨_, rfl, ?_, h x (List.mem_of_getElem? hx)⟩
  have hadd : (⟨w.heap.size, 0, none⟩ : Addr).add (i * 1) = ⟨w.heap.size, i, none⟩ := by rw [Nat.mul_one]; unfold Addr.add; split <;> simp_all
  rw [hadd, (Blk.new w t _).cell i]
  simp [hx]
theorem ints_new (w0 : World) (v : Value) (l : List UInt8) (t : TypeId) (L : List Int) (w : World) (g : Nat) (hg : w.heap.size = g) (hp : PutTo w0 l v w) (hL : ∀ x ∈ L, I64 x) (n : Nat) (hn : L.length = n) (cs : Array Value) (hcs : cs = (L.map (Value.int .i64)).toArray) (hl : l.length + 8 * n ≤ 70368744177664) :
    Calls Try.prog 47 #[v, .slice (some ⟨g, 0, none⟩) n n] (w.alloc (.cells cs t)) (PutsTo w0 w v (l ++ wsB (L.map Mio.ofI))) := by
  subst hg
  refine (ints_any w0 v l _ n n L _ (hp.below ((Below.refl _ _).alloc (Nat.le_refl _) _)) (row_new w t L hL cs hcs) hn ?_ hl).mono fun e w1 ⟨v1, he, hp1, hx1⟩ => ⟨v1, he, hp1, (Ext.of_below ((Below.refl _ _).alloc (Nat.le_refl _) _)).trans hx1⟩
  intro a e h
  injection e with e
  subst e
  have := hp.lt _ h
  simp only at this
  omega
theorem Ext.ne {w w' : World} {v v' : Value} (h : Ext w w' v v') {g : Nat} (hv : v.ownBlock ≠ some g) (hg : g < w.heap.size) : v'.ownBlock ≠ some g := by
  intro e
  rcases h.2 with h2 | ⟨k, h2, hk⟩
  · exact hv (h2 ▸ e)
  · rw [h2] at e
    injection e with e
    omega
theorem PutTo.ne {w0 w : World} {l : List UInt8} {v : Value} (h : PutTo w0 l v w) : v.ownBlock ≠ some w.heap.size := fun e => absurd (h.lt _ e) (Nat.lt_irrefl _)
/-- Numbers in a row that lies somewhere else. -/
theorem row_at {w : World} {g : Nat} {t : TypeId} {cs : Array Value} (hb : Blk w g t cs) (L : List Int) (h : ∀ x ∈ L, I64 x) (hcs : cs = (L.map (Value.int .i64)).toArray) : RowD IntAt 1 w (some ⟨g, 0, none⟩) L := by
  subst hcs
  intro i x hx
  refine ⟨_, rfl, ?_, h x (List.mem_of_getElem? hx)⟩
  have hadd : (⟨g, 0, none⟩ : Addr).add (i * 1) = ⟨g, i, none⟩ := by rw [Nat.mul_one]; unfold Addr.add; split <;> simp_all
  rw [hadd, hb.cell i]
  simp [hx]
theorem ints_row (w0 : World) (v : Value) (l : List UInt8) (t : TypeId) (L : List Int) (w : World) (hp : PutTo w0 l v w) (hL : ∀ x ∈ L, I64 x) (n : Nat) (hn : L.length = n) {g : Nat} {cs : Array Value} (hb : Blk w g t cs) (hcs : cs = (L.map (Value.int .i64)).toArray) (hv : v.ownBlock ≠ some g) (hl : l.length + 8 * n ≤ 70368744177664) :
    Calls Try.prog 47 #[v, .slice (some ⟨g, 0, none⟩) n n] w (PutsTo w0 w v (l ++ wsB (L.map Mio.ofI))) :=
  ints_any w0 v l _ n n L _ hp (row_at hb L hL hcs) hn (fun a e => by injection e with e; subst e; exact hv) hl
end Go.Proofs.Ytegegljpmelomaa
