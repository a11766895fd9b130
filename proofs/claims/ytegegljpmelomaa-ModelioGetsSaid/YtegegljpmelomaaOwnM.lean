/- A row of bytes of the call's own that a conversion of a string has made (its run-time mark lies behind its last cell), and appends of strings and bytes onto it. No condition but sizes. After the kit's own laws on rows of the call's own, arm for arm. -/
import Derived.Test.YtegegljpmelomaaPack
import Derived.Lib.FrozenHead
import Derived.Laws.IdiomStrings
import Derived.Lib.ConvBytes
set_option linter.unusedVariables false
set_option maxRecDepth 20000
namespace Go.Proofs.Ytegegljpmelomaa
open Go.RowKit Go.Deep

theorem strCells_eq (s : ByteArray) : Lib.strCells s = s.data.toList.map byteV := rfl

/-- The call's own bytes; the row may bear a mark behind its cells. -/
def OwnM (w : World) (B : Nat) (v : Value) (l : List UInt8) : Prop :=
  ∃ g cap cur fz, v = .slice (some ⟨g, 0, none⟩) l.length cap ∧ B ≤ g ∧ w.heap[g]? = some (.cells cur 5 fz) ∧ (fz = (0, 0) ∨ cur.size ≤ fz.1) ∧ l.length ≤ cap ∧ cap ≤ maxLen ∧ cur.size = cap ∧ cur.toList.take l.length = l.map byteV

theorem run_storeCells_atM (P : Program) (g o : Nat) (t : TypeId) (fz : Nat × Nat) : ∀ (vs : List Value) (i : Nat) (cur : Array Value) (w : World), w.heap[g]? = some (.cells cur t fz) → (fz = (0, 0) ∨ cur.size ≤ fz.1) → o + i + vs.length ≤ cur.size → (∀ v ∈ vs, v.oneCell' = true) →
    (storeCells ⟨g, o, none⟩ vs i).run P w = .ok () (w.setRow g (cur.toList.take (o + i) ++ vs ++ cur.toList.drop (o + i + vs.length)).toArray)
  | [], i, cur, w, hg, _, _, _ => by
    simp only [storeCells, List.append_nil, List.length_nil, Nat.add_zero, List.take_append_drop, Array.toArray_toList]
    rw [setRow_self w g cur t fz hg]
    rfl
  | v :: rest, i, cur, w, hg, hfz, hl, h1 => by
    have hi : o + i < cur.size := by simp at hl; omega
    have hadd : (⟨g, o, none⟩ : Addr).add i = ⟨g, o + i, none⟩ := by unfold Addr.add; split <;> simp_all
    have hcell : w.cell? ⟨g, o + i, none⟩ = some cur[o + i] := by simp [World.cell?, hg, hi]
    have hfro : w.frozen? ⟨g, o + i, none⟩ = false := by
      obtain ⟨lo, hi'⟩ := fz
      simp only [World.frozen?, hg, Bool.and_eq_false_iff, decide_eq_false_iff_not]
      rcases hfz with h | h
      · injection h with h2 h3
        right
        omega
      · left
        simp only at h
        omega
    have hst : (store ((⟨g, o, none⟩ : Addr).add i) v).run P w = .ok () (w.setRow g (cur.setIfInBounds (o + i) v)) := by
      rw [hadd, run_store P w _ v _ (h1 v (by simp)), hcell]
      simp [hfro, setCell_eq_setRow w g (o + i) cur t fz v hg]
    have ih := run_storeCells_atM P g o t fz rest (i + 1) (cur.setIfInBounds (o + i) v) (w.setRow g (cur.setIfInBounds (o + i) v)) (setRow_heap w g cur _ t _ hg) (by simpa using hfz) (by simp at hl ⊢; omega) (fun x hx => h1 x (by simp [hx]))
    simp only [storeCells, Sem.run_bind, hst, Result.andThen_ok, ih, setRow_setRow]
    congr 3
    have e := list_seg_step cur.toList (o + i) v rest (by simp at hl ⊢; omega)
    simpa [Array.toList_setIfInBounds, Nat.add_assoc] using e

theorem run_append_M (w : World) (ty : TypeId) (B : Nat) (v : Value) (l : List UInt8) (hown : OwnM w B v l) (s : ByteArray) (hbytes : l.length + s.size ≤ 140737488355328) (hbase : B ≤ w.heap.size) :
    ∃ v' w', (Builtin.append_ #[65, 9] ty #[v, .string s]).run Try.prog w = .ok v' w' ∧ OwnM w' B v' (l ++ s.data.toList) ∧ Ext w w' v v' := by
  obtain ⟨i, hi, hz, hsize, hby⟩ := info_parts u8_info
  have ht : Try.prog.underlying 65 = some (.slice 5) := Try.underlying65
  have hu : Try.prog.underlying 9 = some .string := Try.underlying9
  obtain ⟨g, cap, cur, fz, rfl, hbg, hg, hfz, hnc, hcm, hcs, htake⟩ := hown
  have hsl : s.data.toList.length = s.size := by simp
  have hlen : (l ++ s.data.toList).length = l.length + s.size := by rw [List.length_append, hsl]
  have hmap : (l ++ s.data.toList).map byteV = l.map byteV ++ Lib.strCells s := by rw [List.map_append, strCells_eq]
  have hml : (l.map byteV).length = l.length := by simp
  by_cases hroom : l.length + s.size ≤ cap
  · have hf := Lib.run_firstCells_string (P := Try.prog) w 1 s
    have hst := run_storeCells_atM Try.prog g l.length 5 fz (Lib.strCells s) 0 cur w hg hfz (by rw [Lib.strCells_length]; omega) (Lib.strCells_oneCell s)
    simp only [Nat.add_zero, Lib.strCells_length] at hst
    have hr : (Builtin.append_ #[65, 9] ty #[.slice (some ⟨g, 0, none⟩) l.length cap, .string s]).run Try.prog w =
        .ok (.slice (some ⟨g, 0, none⟩) (l.length + s.size) cap) (w.setRow g (cur.toList.take l.length ++ Lib.strCells s ++ cur.toList.drop (l.length + s.size)).toArray) := by
      simp [Builtin.append_, run_underlying ht, run_underlying hu, sizeOf, typeInfo, hi, hsize, Builtin.lenOf, hroom, hf, Addr.add_lit, hst]
    refine ⟨_, _, hr, ⟨g, cap, _, fz, by rw [hlen], hbg, setRow_heap w g cur _ _ _ hg, ?_, by rw [hlen]; exact hroom, hcm, ?_, ?_⟩, ⟨⟨rfl, rfl, rfl, by simp, fun k _ hk => setRow_other w g k _ (fun e => hk (by simp [Value.ownBlock, e]))⟩, .inl rfl⟩⟩
    · rcases hfz with h | h
      · exact .inl h
      · refine .inr ?_
        simp only [List.size_toArray, List.length_append, List.length_take, List.length_drop, Array.length_toList, Lib.strCells_length]
        omega
    · simp only [List.size_toArray, List.length_append, List.length_take, List.length_drop, Array.length_toList, Lib.strCells_length]
      omega
    · rw [htake, hmap]
      have : (l ++ s.data.toList).length = (l.map byteV ++ Lib.strCells s).length := by rw [← hmap, List.length_map]
      rw [this]
      exact List.take_left
  · have holds : ∀ j u, (l.map byteV)[j]? = some u → w.cell? ((⟨g, 0, none⟩ : Addr).add j) = some u := by
      intro j u hu'
      have hadd : (⟨g, 0, none⟩ : Addr).add j = ⟨g, j, none⟩ := by unfold Addr.add; split <;> simp_all
      rw [hadd, cell_of_row w g j cur _ fz hg]
      rw [← htake, List.getElem?_take] at hu'
      split at hu'
      · simpa using hu'
      · cases hu'
    have hr := Lib.run_append_grow_string (P := Try.prog) w 65 9 ty 5 i (.int .u8 0) ht hu hi hz ⟨g, 0, none⟩ l.length cap (l.map byteV) (by rw [hsize]; simp) holds s (by omega) (by omega) (by rw [hby]; exact growslice_fits (by omega) (by omega))
    have hge := grownCap_ge w (l.length + s.size) cap 5
    have hcm2 : grownCap w (l.length + s.size) cap 5 ≤ maxLen := grownCap_le_maxLen w (l.length + s.size) cap 5 (by unfold maxLen; omega)
    refine ⟨_, _, hr, ⟨w.heap.size, _, _, (0, 0), by rw [hlen], hbase, heap_alloc_new w.drew _, .inl rfl, by rw [hlen]; exact hge, hcm2, ?_, ?_⟩, ⟨⟨rfl, rfl, rfl, by simp, fun k hk _ => Below.heap_alloc w.drew _ k hk⟩, .inr ⟨w.heap.size, rfl, Nat.le_refl _⟩⟩⟩
    · have hz1 : (Value.int IntKind.u8 0).cells.size = 1 := rfl
      simp only [Array.size_append, List.size_toArray, size_zeroCells, hz1, hml, Lib.strCells_length]
      omega
    · simp only [Array.toList_append, List.append_assoc]
      rw [← List.append_assoc, hmap]
      have : (l ++ s.data.toList).length = (l.map byteV ++ Lib.strCells s).length := by rw [← hmap, List.length_map]
      rw [this]
      exact List.take_left

/-- 'b = append(b, s...)', s a string, b marked or not. -/
theorem wpList_append_strM {ops : Array Oper} {rest : List Oper} {o : Oper} {a : Act} {Q : Exit → Act → World → Prop} (w : World) (hgd : o.guard = none) (sl x : Operand)
    (ho : o.op = .call { callee := .builtin .append, args := #[sl, x], argTypes := #[65, 9] })
    (B : Nat) (v : Value) (l : List UInt8) (hs : a.eval sl = v) (hown : OwnM w B v l) (s : ByteArray) (hx : a.eval x = .string s) (hbytes : l.length + s.size ≤ 140737488355328) (hbase : B ≤ w.heap.size)
    (h : ∀ v' w', OwnM w' B v' (l ++ s.data.toList) → Ext w w' v v' → wpList Try.prog ops Q rest (a.put o.dst v') w') : wpList Try.prog ops Q (o :: rest) a w := by
  refine wpList_plain hgd fun K hK => ?_
  obtain ⟨v', w', hr, h2, h3⟩ := run_append_M w o.type B v l hown s hbytes hbase
  unfold Oper.wp execOp
  simp only [ho, resolve, invoke, builtin, Sem.run_bind, Sem.run_pure, Result.andThen_ok, List.map_toArray, List.map_cons, List.map_nil, hs, hx, hr]
  exact hK _ _ (h v' w' h2 h3)

/-- 'string(b)'. -/
theorem ownM_string {w : World} {B : Nat} {v : Value} {l : List UInt8} (h : OwnM w B v l) : (convert 65 9 v).run Try.prog w = .ok (.string (bs l)) w := by
  obtain ⟨g, cap, cur, fz, rfl, hbg, hg, hfz, hnc, hcm, hcs, htake⟩ := h
  refine run_convert_bytes_back w _ _ _ _ _ l Try.underlying65 Try.underlying5 Try.underlying9 fun j hj => ?_
  have hadd : (⟨g, 0, none⟩ : Addr).add j = ⟨g, j, none⟩ := by unfold Addr.add; split <;> simp_all
  rw [hadd, cell_of_row w g j cur _ fz hg]
  have : (cur.toList.take l.length)[j]? = some (byteV l[j]) := by rw [htake, List.getElem?_map, List.getElem?_eq_getElem hj]; rfl
  rw [List.getElem?_take_of_lt hj] at this
  simpa [byteV] using this

/-- '[]byte(s)'. -/
theorem ownM_made (w : World) (s : ByteArray) (hs : s.size ≤ maxLen) (B : Nat) (hB : B ≤ w.heap.size) :
    ∃ v w', (convert 9 65 (.string s)).run Try.prog w = .ok v w' ∧ OwnM w' B v s.data.toList ∧ Below w.heap.size w w' ∧ B ≤ w'.heap.size := by
  have hr := run_bytes_of_string (P := Try.prog) w _ _ _ s Try.underlying9 Try.underlying65 Try.underlying5
  have hsl : s.data.toList.length = s.size := by simp
  have hge := grownCap_ge w s.size 0 5
  have hcm := grownCap_le_maxLen w s.size 0 5 hs
  refine ⟨_, _, hr, ⟨w.heap.size, _, _, _, by rw [hsl], hB, heap_alloc_new w.drew _, .inr (Nat.le_refl _), by rw [hsl]; exact hge, hcm, ?_, ?_⟩, ?_, ?_⟩
  · have : s.data.size = s.size := rfl
    simp [bytesRow]
    omega
  · rw [hsl]
    simp only [bytesRow, Array.toList_append, Array.toList_map]
    have e : s.size = (s.data.toList.map byteV).length := by simp
    rw [e]
    exact List.take_left
  · exact (Below.refl _ _).drew.alloc (Nat.le_refl _) _
  · simp
    omega
theorem OwnM.base {w : World} {B : Nat} {v : Value} {l : List UInt8} (h : OwnM w B v l) : ∀ k, v.ownBlock = some k → B ≤ k := by
  intro k hk
  obtain ⟨g, cap, cur, fz, rfl, hbg, _⟩ := h
  simp [Value.ownBlock] at hk
  omega
theorem OwnM.below {w w' : World} {B : Nat} {v : Value} {l : List UInt8} (h : OwnM w B v l) (hb : Below w.heap.size w w') : OwnM w' B v l := by
  obtain ⟨g, cap, cur, fz, rfl, hbg, hg, rest⟩ := h
  refine ⟨g, cap, cur, fz, rfl, hbg, ?_, rest⟩
  rw [hb.block g (Array.getElem?_eq_some_iff.1 hg).1]
  exact hg
end Go.Proofs.Ytegegljpmelomaa
