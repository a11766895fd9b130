/- More walks of package pack: lists read, by the package and by the reference; the same numbers? No condition but sizes that any memory has. -/
import Derived.Test.YtegegljpmelomaaPack6
set_option linter.unusedVariables false
set_option maxRecDepth 20000
namespace Go.Proofs.Ytegegljpmelomaa
open Go.RowKit Go.Deep

theorem int_info : (Try.prog.info? 3).map (fun i => (i.zero, i.size, i.bytes)) = some (some (.int .i64 0), 1, 8) := by kernel_rfl
/-- The call's own row of numbers. -/
def OwnI (w : World) (B : Nat) (v : Value) (l : List Int) : Prop := w.ownsRow B 3 1 v l.length (l.map (Value.int .i64))
theorem OwnI.nil (w : World) (B : Nat) : OwnI w B (.slice none 0 0) [] := ⟨by simp, .inl ⟨rfl, rfl⟩⟩
theorem OwnI.base {w : World} {B : Nat} {v : Value} {l : List Int} (h : OwnI w B v l) : ∀ k, v.ownBlock = some k → B ≤ k := by
  intro k hk
  rcases h.2 with ⟨rfl, _⟩ | ⟨g, cap, cur, rfl, hb, _⟩
  · simp [Value.ownBlock] at hk
  · simp [Value.ownBlock] at hk
    omega
theorem OwnI.below {w w' : World} {B : Nat} {v : Value} {l : List Int} (h : OwnI w B v l) (hb : Below w.heap.size w w') : OwnI w' B v l := by
  refine ⟨h.1, ?_⟩
  rcases h.2 with hn | ⟨g, cap, cur, rfl, hbg, hg, rest⟩
  · exact .inl hn
  · refine .inr ⟨g, cap, cur, rfl, hbg, ?_, rest⟩
    rw [hb.block g (Array.getElem?_eq_some_iff.1 hg).1]
    exact hg
theorem OwnI.reads {w : World} {B : Nat} {v : Value} {l : List Int} (h : OwnI w B v l) : ∃ A c, v = .slice A l.length c ∧ Reads w w.heap.size 1 A l.length (l.map (Value.int .i64)) ∧ l.length ≤ 9223372036854775807 := by
  have h' := h
  rcases h.2 with ⟨rfl, h0⟩ | ⟨g, cap, cur, rfl, hb, hg, hn, hc, _⟩
  · have : l = [] := List.eq_nil_of_length_eq_zero h0
    subst this
    exact ⟨none, 0, rfl, Reads.none_, by simp⟩
  · exact ⟨_, cap, rfl, Reads.of_own h', len_le hn hc⟩
/-- 'l = append(l, n)': one number. -/
theorem wpList_append_int {ops : Array Oper} {rest : List Oper} {o : Oper} {a : Act} {Q : Exit → Act → World → Prop} (wr : World) (hgd : o.guard = none) (s x : Operand)
    (ho : o.op = .call { callee := .builtin .append, args := #[s, x], argTypes := #[39, 39] })
    (B : Nat) (v : Value) (cur : List Int) (hs : a.eval s = v) (hown : OwnI wr B v cur) (n : Int) (hx : a.eval x = .slice (some ⟨wr.heap.size, 0, none⟩) 1 1)
    (hl : cur.length ≤ 17592186044415) (hB : B ≤ wr.heap.size)
    (h : ∀ v' w', OwnI w' B v' (cur ++ [n]) → Ext wr w' v v' → wpList Try.prog ops Q rest (a.put o.dst v') w') : wpList Try.prog ops Q (o :: rest) a (wr.alloc (.cells #[.int .i64 n] 3)) := by
  obtain ⟨i0, hi0, hz0, hz1, hz2⟩ := info_parts int_info
  refine wpList_append_any _ hgd s x _ ho B 3 i0 _ 1 8 Try.underlying39 hi0 hz0 hz1 hz2 rfl (by decide) v cur.length (cur.map (Value.int .i64)) hs (hown.alloc _) (wr.heap.size + 1) _ 1 1 [.int .i64 n] hx (reads_row wr [.int .i64 n] _ 1 rfl) (by intro u hu; simp at hu; subst hu; rfl) ?_ ?_ ?_ ?_
  · unfold maxLen; omega
  · omega
  · simp; omega
  · intro v' w' h1 h2 h3
    refine h v' w' ?_ ?_
    · unfold OwnI
      rw [List.length_append, List.map_append]
      exact h1
    · exact (Ext.alloc (Ext.refl wr v) _).of_append h2 h3

/-- What stands at any place, read as a list: the numbers. -/
def rlItems (s : ByteArray) (p n : Nat) : List Int := (List.range n).map fun i => unI (rdN s (p + 2 + 8 * i) 8 : Nat)
def rlL (s : ByteArray) (p : Int) : List Int := if rcE 512 8 s p = 0 then rlItems s p.toNat (rdN s p.toNat 2) else []
theorem rl_no {s : ByteArray} {p : Int} (h : rcE 512 8 s p ≠ 0) : rlL s p = [] := by unfold rlL; rw [if_neg h]
theorem rl_ok {s : ByteArray} {p : Nat} (h : rcE 512 8 s p = 0) : rlL s p = rlItems s p (rdN s p 2) := by unfold rlL; rw [if_pos h, Int.toNat_natCast]
theorem rlItems_succ (s : ByteArray) (p k : Nat) : rlItems s p (k + 1) = rlItems s p k ++ [unI (rdN s (p + 2 + 8 * k) 8 : Nat)] := by
  unfold rlItems
  rw [List.range_succ, List.map_append]
  rfl
theorem rlItems_length (s : ByteArray) (p k : Nat) : (rlItems s p k).length = k := by simp [rlItems]

/-- How a list that is read comes back. -/
def ListBack (s : ByteArray) (p : Int) (w : World) (e : Ending) (w' : World) : Prop :=
  ∃ v, e = .returned (.tuple #[v, .int .i64 (rcP 512 8 s p), .int .i64 (rcE 512 8 s p)]) ∧ OwnI w' w.heap.size v (rlL s p) ∧ Below w.heap.size w w'
def RdRel (s : ByteArray) (q n : Nat) (w : World) (v i : Value) (wr : World) : Prop :=
  ∃ k : Nat, k ≤ n ∧ i = .int .i64 k ∧ OwnI wr w.heap.size v (rlItems s q k) ∧ Below w.heap.size w wr

end Go.Proofs.Ytegegljpmelomaa
