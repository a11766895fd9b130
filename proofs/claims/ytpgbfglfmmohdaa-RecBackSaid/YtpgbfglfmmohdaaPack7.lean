/- More walks of package pack: lists read, by the package and by the reference; the same numbers? No condition but sizes that any memory has. -/
import Derived.Test.YtpgbfglfmmohdaaPack6
set_option linter.unusedVariables false
set_option maxRecDepth 20000
namespace Go.Proofs.Ytpgbfglfmmohdaa
open Go.RowKit Go.Deep

theorem int_info : (Try.prog.info? 3).map (fun i => (i.zero, i.size, i.bytes)) = some (some (.int .i64 0), 1, 8) := by kernel_rfl
/-- The call's own row of numbers. -/
def OwnI (w : World) (B : Nat) (v : Value) (l : List Int) : Prop := w.ownsRow B 3 1 v l.length (l.map (Value.int .i64))
theorem OwnI.nil (w : World) (B : Nat) : OwnI w B (.slice none 0 0) [] := ⟨by simp, .inl ⟨rfl, rfl⟩⟩
theorem OwnI.base {w : World} {B : Nat} {v : Value} {l : List Int} (h : OwnI w B v l) : ∀ k, v.ownBlock = some k → B ≤ k := by
  intro k hk
  rcases h.2 with ⟨rfl, _⟩ | ⟨g, cap, cur, rfl, hb, _⟩
  · simp [Value.ownBlock] at hk
  · simp [Value.ownBlock] at hk
    omega
theorem OwnI.below {w w' : World} {B : Nat} {v : Value} {l : List Int} (h : OwnI w B v l) (hb : Below w.heap.size w w') : OwnI w' B v l := by
  refine ⟨h.1, ?_⟩
  rcases h.2 with hn | ⟨g, cap, cur, rfl, hbg, hg, rest⟩
  · exact .inl hn
  · refine .inr ⟨g, cap, cur, rfl, hbg, ?_, rest⟩
    rw [hb.block g (Array.getElem?_eq_some_iff.1 hg).1]
    exact hg
theorem OwnI.reads {w : World} {B : Nat} {v : Value} {l : List Int} (h : OwnI w B v l) : ∃ A c, v = .slice A l.length c ∧ Reads w w.heap.size 1 A l.length (l.map (Value.int .i64)) ∧ l.length ≤ 9223372036854775807 := by
  have h' := h
  rcases h.2 with ⟨rfl, h0⟩ | ⟨g, cap, cur, rfl, hb, hg, hn, hc, _⟩
  · have : l = [] := List.eq_nil_of_length_eq_zero h0
    subst this
    exact ⟨none, 0, rfl, Reads.none_, by simp⟩
  · exact ⟨_, cap, rfl, Reads.of_own h', len_le hn hc⟩
/-- 'l = append(l, n)': one number. -/
theorem wpList_append_int {ops : Array Oper} {rest : List Oper} {o : Oper} {a : Act} {Q : Exit → Act → World → Prop} (wr : World) (hgd : o.guard = none) (s x : Operand)
    (ho : o.op = .call { callee := .builtin .append, args := #[s, x], argTypes := #[30, 30] })
    (B : Nat) (v : Value) (cur : List Int) (hs : a.eval s = v) (hown : OwnI wr B v cur) (n : Int) (hx : a.eval x = .slice (some ⟨wr.heap.size, 0, none⟩) 1 1)
    (hl : cur.length ≤ 17592186044415) (hB : B ≤ wr.heap.size)
    (h : ∀ v' w', OwnI w' B v' (cur ++ [n]) → Ext wr w' v v' → wpList Try.prog ops Q rest (a.put o.dst v') w') : wpList Try.prog ops Q (o :: rest) a (wr.alloc (.cells #[.int .i64 n] 3)) := by
  obtain ⟨i0, hi0, hz0, hz1, hz2⟩ := info_parts int_info
  refine wpList_append_any _ hgd s x _ ho B 3 i0 _ 1 8 Try.underlying30 hi0 hz0 hz1 hz2 rfl (by decide) v cur.length (cur.map (Value.int .i64)) hs (hown.alloc _) (wr.heap.size + 1) _ 1 1 [.int .i64 n] hx (reads_row wr [.int .i64 n] _ 1 rfl) (by intro u hu; simp at hu; subst hu; rfl) ?_ ?_ ?_ ?_
  · unfold maxLen; omega
  · omega
  · simp; omega
  · intro v' w' h1 h2 h3
    refine h v' w' ?_ ?_
    · unfold OwnI
      rw [List.length_append, List.map_append]
      exact h1
    · exact (Ext.alloc (Ext.refl wr v) _).of_append h2 h3

/-- What stands at any place, read as a list: the numbers. -/
def rlItems (s : ByteArray) (p n : Nat) : List Int := (List.range n).map fun i => unI (rdN s (p + 2 + 8 * i) 8 : Nat)
def rlL (s : ByteArray) (p : Int) : List Int := if rcE 512 8 s p = 0 then rlItems s p.toNat (rdN s p.toNat 2) else []
theorem rl_no {s : ByteArray} {p : Int} (h : rcE 512 8 s p ≠ 0) : rlL s p = [] := by unfold rlL; rw [if_neg h]
theorem rl_ok {s : ByteArray} {p : Nat} (h : rcE 512 8 s p = 0) : rlL s p = rlItems s p (rdN s p 2) := by unfold rlL; rw [if_pos h, Int.toNat_natCast]
theorem rlItems_succ (s : ByteArray) (p k : Nat) : rlItems s p (k + 1) = rlItems s p k ++ [unI (rdN s (p + 2 + 8 * k) 8 : Nat)] := by
  unfold rlItems
  rw [List.range_succ, List.map_append]
  rfl
theorem rlItems_length (s : ByteArray) (p k : Nat) : (rlItems s p k).length = k := by simp [rlItems]

/-- How a list that is read comes back. -/
def ListBack (s : ByteArray) (p : Int) (w : World) (e : Ending) (w' : World) : Prop :=
  ∃ v, e = .returned (.tuple #[v, .int .i64 (rcP 512 8 s p), .int .i64 (rcE 512 8 s p)]) ∧ OwnI w' w.heap.size v (rlL s p) ∧ Below w.heap.size w w'
def RdRel (s : ByteArray) (q n : Nat) (w : World) (v i : Value) (wr : World) : Prop :=
  ∃ k : Nat, k ≤ n ∧ i = .int .i64 k ∧ OwnI wr w.heap.size v (rlItems s q k) ∧ Below w.heap.size w wr

set_option maxHeartbeats 400000 in
theorem readlist_all (s : ByteArray) (p : Int) (w : World) (hm : s.size ≤ 9223372036854775807) :
    Calls Try.prog 47 #[.string s, .int .i64 p] w (ListBack s p w) := by
  rcases rc_ways 512 8 s p with h | ⟨h0, h1, h2⟩ | ⟨q, rfl, h0, h | ⟨h1, h2⟩ | ⟨h1, h2⟩⟩
  · have e := rc_range (most := 512) (size := 8) h
    have hfin : ∀ w', Below w.heap.size w w' → ListBack s p w (.returned (.tuple #[.slice none 0 0, .int .i64 0, .int .i64 3])) w' := fun w' hb => ⟨_, by rw [rc_no (by rw [e]; decide), e], by rw [rl_no (by rw [e]; decide)]; exact OwnI.nil _ _, hb⟩
    clear e
    go_enter Try.func47, Try.ntmps47
    go_wp2_with fail
    refine (count_range _ _ _ _ h hm).mono ?_
    rintro e w' ⟨rfl, rfl⟩
    go_wp2
    go_ret3
    exact hfin _ (Below.refl _ _)
  · have e := rc_short (most := 512) (size := 8) (s := s) (p := p) (by omega) h2
    have hfin : ∀ w', Below w.heap.size w w' → ListBack s p w (.returned (.tuple #[.slice none 0 0, .int .i64 0, .int .i64 5])) w' := fun w' hb => ⟨_, by rw [rc_no (by rw [e]; decide), e], by rw [rl_no (by rw [e]; decide)]; exact OwnI.nil _ _, hb⟩
    clear e
    go_enter Try.func47, Try.ntmps47
    go_wp2_with fail
    refine (count_short _ _ _ _ h0 h1 h2 hm).mono ?_
    rintro e w' ⟨rfl, rfl⟩
    go_wp2
    go_ret3
    exact hfin _ (Below.refl _ _)
  · have e := rc_big (most := 512) (size := 8) h0 h
    have hfin : ∀ w', Below w.heap.size w w' → ListBack s q w (.returned (.tuple #[.slice none 0 0, .int .i64 0, .int .i64 4])) w' := fun w' hb => ⟨_, by rw [rc_no (by rw [e]; decide), e], by rw [rl_no (by rw [e]; decide)]; exact OwnI.nil _ _, hb⟩
    clear e
    go_enter Try.func47, Try.ntmps47
    go_wp2_with fail
    refine (count_big _ _ _ _ h0 (by omega) hm).mono ?_
    rintro e w' ⟨rfl, rfl⟩
    go_wp2
    go_ret3
    exact hfin _ (Below.refl _ _)
  · have e := rc_left (most := 512) (size := 8) h0 h1 h2
    have hfin : ∀ w', Below w.heap.size w w' → ListBack s q w (.returned (.tuple #[.slice none 0 0, .int .i64 0, .int .i64 5])) w' := fun w' hb => ⟨_, by rw [rc_no (by rw [e]; decide), e], by rw [rl_no (by rw [e]; decide)]; exact OwnI.nil _ _, hb⟩
    clear e
    go_enter Try.func47, Try.ntmps47
    go_wp2_with fail
    refine (count_ok _ _ _ _ h0 (by omega) hm).mono ?_
    rintro e w' ⟨rfl, rfl⟩
    go_wp2_with fail
    refine (left_short _ _ _ _ (by omega) (by omega) (by omega) hm).mono ?_
    rintro e w' ⟨rfl, rfl⟩
    go_wp2
    go_ret3
    exact hfin _ (Below.refl _ _)
  · obtain ⟨e, e2⟩ := rc_ok (most := 512) (size := 8) h0 h1 h2
    have hfin : ∀ v w', OwnI w' w.heap.size v (rlItems s q (rdN s q 2)) → Below w.heap.size w w' → ListBack s q w (.returned (.tuple #[v, .int .i64 ((q + 2 + 8 * rdN s q 2 : Nat)), .int .i64 0])) w' := fun v w' ho hb => ⟨v, by rw [e2, e], by rw [rl_ok e]; exact ho, hb⟩
    clear e e2
    obtain ⟨n, hn⟩ : ∃ n, n = rdN s q 2 := ⟨_, rfl⟩
    rw [← hn] at h1 h2 hfin
    have Hfin := hide hfin
    clear hfin
    have Hn := hide hn
    clear hn
    go_enter Try.func47, Try.ntmps47
    go_wp2_with fail
    refine (count_ok _ _ _ _ h0 (by rw [← Hn.out]; omega) hm).mono ?_
    rw [← Hn.out]
    rintro e w' ⟨rfl, rfl⟩
    go_wp2_with fail
    refine (left_ok _ _ _ _ (by omega) (by omega) (by omega) hm).mono ?_
    rintro e w' ⟨rfl, rfl⟩
    go_wp2
    go_loopw [10, 31] (fun v i wr => RdRel s q n w v i wr) (fun _ i _ => n - (intOf i).toNat)
    case atStart => exact ⟨0, Nat.zero_le _, rfl, OwnI.nil _ _, Below.refl _ _⟩
    case round =>
      obtain ⟨k, hk, rfl, hown, hb⟩ := hrel
      by_cases hlt : k < n
      · have hbd : q + 2 + 8 * k + 8 ≤ s.size := by omega
        have Hr := hide (rdN_extract s (q + 2 + 8 * k) 8 hbd)
        have hz : (s.extract (q + 2 + 8 * k) (q + 2 + 8 * k + 8)).size ≤ 8 := by simp; omega
        have hsl := run_slice_str Try.underlying9 s .i64 .i64 ((q : Int) + 2 + 8 * k) ((q : Int) + 2 + 8 * k + 8) (q + 2 + 8 * k) (q + 2 + 8 * k + 8) (by omega) (by omega) (by omega) hbd
        have Hs := hide (rlItems_succ s q k)
        have hll := rlItems_length s q k
        generalize rlItems s q k = cur at *
        have hll2 : cur.length ≤ 512 := by omega
        clear hll
        go_wp2_with fail
        refine (get64_any _ _ hz).mono ?_
        rw [Hr.out]
        rintro e w' ⟨rfl, rfl⟩
        generalize rdN s (q + 2 + 8 * k) 8 = x at *
        go_wp2_with (at_builtin; go_must (refine wpList_append_int _ rfl (.tmp 46) (.tmp 50) rfl w.heap.size _ cur rfl hown (unI x) rfl (by omega) hb.size ?_); intro v1 w1 hown1 hext1)
        have hb1 := hb.trans (hext1.below hb.size hown.base)
        clear hown hb hext1
        go_roundw
        case rel => exact ⟨k + 1, by omega, by go_num, by rw [Hs.out]; exact hown1, hb1⟩
        case measure => simp [intOf]; omega
      · obtain rfl : k = n := by omega
        go_wp2
        go_ret3
        exact Hfin.out _ _ hown hb
end Go.Proofs.Ytpgbfglfmmohdaa
