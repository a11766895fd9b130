/- The walks of package pack: each function computes what XPackPl says. No condition but sizes that any memory has. -/
import Derived.Test.YtegegljpmelomaaPackPl
set_option linter.unusedVariables false
namespace Go.Proofs.Ytegegljpmelomaa
open Go.RowKit Go.Deep

theorem u8_info : (Try.prog.info? 5).map (fun i => (i.zero, i.size, i.bytes)) = some (some (.int .u8 0), 1, 1) := by kernel_rfl

/-- The call's own row of bytes. -/
def OwnB (w : World) (B : Nat) (v : Value) (l : List UInt8) : Prop := w.ownsRow B 5 1 v l.length (l.map byteV)
/-- Behind appends to v the world has new blocks, and v's own may have turned. -/
def Ext (w w' : World) (v v' : Value) : Prop := w.grownBy w' v.ownBlock ∧ (v'.ownBlock = v.ownBlock ∨ ∃ g, v'.ownBlock = some g ∧ w.heap.size ≤ g)
theorem Ext.refl (w : World) (v : Value) : Ext w w v v := ⟨World.grownBy.refl w _, .inl rfl⟩
theorem Ext.trans {a b c : World} {v v1 v2 : Value} (h : Ext a b v v1) (k : Ext b c v1 v2) : Ext a c v v2 := by
  obtain ⟨h1, h2⟩ := h
  obtain ⟨k1, k2⟩ := k
  refine ⟨⟨k1.os.trans h1.os, k1.tape.trans h1.tape, k1.output.trans h1.output, Nat.le_trans h1.size k1.size, fun i hi hne => ?_⟩, ?_⟩
  · refine (k1.block i (Nat.lt_of_lt_of_le hi h1.size) ?_).trans (h1.block i hi hne)
    rcases h2 with e | ⟨g, e, hg⟩ <;> rw [e]
    · exact hne
    · intro he
      injection he with he
      omega
  · rcases k2 with e | ⟨g, e, hg⟩
    · rw [e]
      exact h2
    · exact .inr ⟨g, e, Nat.le_trans h1.size hg⟩
theorem Ext.alloc {a b : World} {v v1 : Value} (h : Ext a b v v1) (o : Obj) : Ext a (b.alloc o) v v1 := ⟨only_alloc h.1 o, h.2⟩
theorem Ext.drew {a b : World} {v v1 : Value} (h : Ext a b v v1) : Ext a b.drew v v1 := ⟨only_drew h.1, h.2⟩
theorem Ext.of_append {a b c : World} {v v1 v2 : Value} (h : Ext a b v v1) (hg : b.grownBy c v1.ownBlock) (hv : v2.ownBlock = v1.ownBlock ∨ v2.ownBlock = some b.heap.size) : Ext a c v v2 :=
  h.trans ⟨hg, hv.imp id fun e => ⟨_, e, Nat.le_refl _⟩⟩
theorem Ext.below {a b : World} {v v1 : Value} (h : Ext a b v v1) {B : Nat} (hB : B ≤ a.heap.size) (hv : ∀ k, v.ownBlock = some k → B ≤ k) : Below B a b := (Below.refl B a).grown h.1 hB hv
theorem OwnB.base {w : World} {B : Nat} {v : Value} {l : List UInt8} (h : OwnB w B v l) : ∀ k, v.ownBlock = some k → B ≤ k := by
  intro k hk
  rcases h.2 with ⟨rfl, _⟩ | ⟨g, cap, cur, rfl, hb, _⟩
  · simp [Value.ownBlock] at hk
  · simp [Value.ownBlock] at hk
    omega
theorem OwnB.nil (w : World) (B : Nat) : OwnB w B (.slice none 0 0) [] := ⟨by simp, .inl ⟨rfl, rfl⟩⟩

theorem byteV_one (l : List UInt8) : ∀ u ∈ l.map byteV, u.oneCell' = true := by
  intro u hu
  obtain ⟨b, _, rfl⟩ := List.mem_map.1 hu
  rfl

/-- 'string(b)' of the call's own bytes. -/
theorem own_string {w : World} {B : Nat} {v : Value} {l : List UInt8} (h : OwnB w B v l) : (convert 65 9 v).run Try.prog w = .ok (.string (bs l)) w := by
  rcases h.2 with ⟨rfl, h0⟩ | ⟨g, cap, cur, rfl, hb, hh, hn, hc, hs, ht⟩
  · have : l = [] := List.eq_nil_of_length_eq_zero h0
    subst this
    exact run_convert_bytes_nil w _ _ Try.underlying65 Try.underlying5 _ _ _ Try.underlying9
  · refine run_convert_bytes_back w _ _ _ _ _ l Try.underlying65 Try.underlying5 Try.underlying9 fun j hj => ?_
    have hr := h
    have := World.ownsRow.cells hr (g := g) rfl j (byteV l[j]) (by rw [List.getElem?_map, List.getElem?_eq_getElem hj]; rfl)
    exact this

theorem reads_row (w : World) (xs : List Value) (t : TypeId) (n : Nat) (hn : xs.length = n) : Reads (w.alloc (.cells xs.toArray t)) (w.heap.size + 1) 1 (some ⟨w.heap.size, 0, none⟩) n xs := by
  refine ⟨by simpa using hn, fun _ => ⟨_, rfl, by simp, fun j u hu => ?_⟩⟩
  have h := (Blk.new w t xs.toArray).cell j
  have e : (⟨w.heap.size, 0, none⟩ : Addr).add j = ⟨w.heap.size, j, none⟩ := by unfold Addr.add; split <;> simp_all
  rw [e, h, ← hu]
  simp

/-- 'b = append(b, x)': one byte. -/
theorem wpList_append_byte {ops : Array Oper} {rest : List Oper} {o : Oper} {a : Act} {Q : Exit → Act → World → Prop} (wr : World) (hgd : o.guard = none) (s x : Operand)
    (ho : o.op = .call { callee := .builtin .append, args := #[s, x], argTypes := #[65, 65] })
    (B : Nat) (v : Value) (cur : List UInt8) (hs : a.eval s = v) (hown : OwnB wr B v cur) (u : Value) (b : UInt8) (hx : a.eval x = .slice (some ⟨wr.heap.size, 0, none⟩) 1 1) (hu : u = byteV b)
    (hl : cur.length ≤ 140737488355327) (hB : B ≤ wr.heap.size)
    (h : ∀ v' w', OwnB w' B v' (cur ++ [b]) → Ext wr w' v v' → wpList Try.prog ops Q rest (a.put o.dst v') w') : wpList Try.prog ops Q (o :: rest) a (wr.alloc (.cells #[u] 5)) := by
  subst hu
  obtain ⟨i0, hi0, hz0, hz1, hz2⟩ := info_parts u8_info
  refine wpList_append_any _ hgd s x _ ho B 5 i0 _ 1 1 Try.underlying65 hi0 hz0 hz1 hz2 rfl (by decide) v cur.length (cur.map byteV) hs (hown.alloc _) (wr.heap.size + 1) _ 1 1 [byteV b] hx (reads_row wr [byteV b] _ 1 rfl) (byteV_one [b]) ?_ ?_ ?_ ?_
  · unfold maxLen; omega
  · omega
  · simp; omega
  · intro v' w' h1 h2 h3
    refine h v' w' ?_ ?_
    · unfold OwnB
      rw [List.length_append, List.map_append]
      exact h1
    · refine (Ext.alloc (Ext.refl wr v) _).of_append h2 ?_
      exact h3

def PutRel (w : World) (B : Nat) (v : Value) (l : List UInt8) (k n : Nat) (b i : Value) (wr : World) : Prop :=
  ∃ (j : Int) (cur : List UInt8), -1 ≤ j ∧ j < k ∧ i = .int .i64 j ∧ OwnB wr B b cur ∧ cur ++ be (j + 1).toNat n = l ++ be k n ∧ Ext w wr v b ∧ B ≤ wr.heap.size

set_option maxHeartbeats 400000 in
set_option maxRecDepth 20000 in
theorem put64_any (v : Value) (l : List UInt8) (n : Int) (k : Nat) (w : World) (B : Nat) (hv : OwnB w B v l) (hB : B ≤ w.heap.size) (h0 : 0 ≤ n) (h1 : n ≤ 18446744073709551615) (hk : k ≤ 8) (hl : l.length ≤ 70368744177664) :
    Calls Try.prog 89 #[v, .int .u64 n, .int .i64 (k : Int)] w fun e w' => ∃ v', e = .returned v' ∧ OwnB w' B v' (l ++ be k n.toNat) ∧ Ext w w' v v' := by
  obtain ⟨i0, hi0, hz0, hz1, hz2⟩ := info_parts u8_info
  go_enter Try.func89, Try.ntmps89
  go_wp2
  go_loopw [0, 7] (fun b i wr => PutRel w B v l k n.toNat b i wr) (fun _ i _ => (intOf i + 1).toNat)
  case atStart => exact ⟨k - 1, l, by omega, by omega, rfl, hv, by rw [show ((k : Int) - 1 + 1).toNat = k from by omega], Ext.refl w v, hB⟩
  case round =>
    obtain ⟨j, cur, hj0, hj1, rfl, hown, hcur, hext, hBr⟩ := hrel
    by_cases hlt : 0 ≤ j
    · obtain ⟨i, rfl⟩ := Int.eq_ofNat_of_zero_le hlt
      have hcl : cur.length ≤ l.length + k := by
        have := congrArg List.length hcur
        simp only [List.length_append, be_length] at this
        omega
      have Hcur := hide hcur
      clear hcur
      go_wp2_with (at_builtin; go_must (refine wpList_append_byte _ rfl (.tmp 14) (.tmp 20) rfl B _ cur rfl hown _ _ rfl (put_byte n i h0) (by omega) hBr ?_); intro v1 w1 hown1 hext1)
      have hcur1 : (cur ++ [UInt8.ofNat (n.toNat / 256 ^ i % 256)]) ++ be i n.toNat = l ++ be k n.toNat := by
        rw [← Hcur.out, List.append_assoc]
        rfl
      have Hcur1 := hide hcur1
      clear hcur1
      go_roundw
      case rel => exact ⟨(i : Int) - 1, _, by omega, by omega, by go_num, hown1, by rw [show ((i : Int) - 1 + 1).toNat = i from by omega]; exact Hcur1.out, hext.trans hext1, Nat.le_trans hBr hext1.1.size⟩
      case measure => simp [intOf]
    · have hj : j = -1 := by omega
      subst hj
      have Hcur := hide hcur
      clear hcur
      go_wp2
      go_ret
      have e := Hcur.out
      simp only [show ((-1 : Int) + 1).toNat = 0 from rfl, be, List.append_nil] at e
      rw [← e]
      exact ⟨_, rfl, hown, hext⟩

def uS (n : Int) : ByteArray := bs (be 8 n.toNat)
def iS (n : Int) : ByteArray := uS (IntKind.u64.wrap (n + 9223372036854775808))

theorem u_any (n : Int) (w : World) (h0 : 0 ≤ n) (h1 : n ≤ 18446744073709551615) :
    Calls Try.prog 83 #[.int .u64 n] w fun e w' => e = .returned (.string (uS n)) ∧ Below w.heap.size w w' := by
  go_enter Try.func83, Try.ntmps83
  go_wp2_with fail
  refine (put64_any _ [] n 8 _ w.heap.size (OwnB.nil _ _) (Nat.le_refl _) h0 h1 (by decide) (by decide)).mono ?_
  rintro e w1 ⟨v, rfl, hown, hext⟩
  have hs := own_string hown
  go_wp2
  go_ret
  exact ⟨rfl, hext.below (Nat.le_refl _) (by simp [Value.ownBlock])⟩
theorem i_arg (n : Int) : IntKind.u64.wrap (IntKind.u64.wrap n + 9223372036854775808) = IntKind.u64.wrap (n + 9223372036854775808) := by
  simp only [IntKind.wrap_u64]
  omega
theorem wrap_u64_rng (n : Int) : 0 ≤ IntKind.u64.wrap n ∧ IntKind.u64.wrap n ≤ 18446744073709551615 := by
  rw [IntKind.wrap_u64]
  omega
theorem i_any (n : Int) (w : World) :
    Calls Try.prog 82 #[.int .i64 n] w fun e w' => e = .returned (.string (iS n)) ∧ Below w.heap.size w w' := by
  go_enter Try.func82, Try.ntmps82
  go_wp2_with fail
  rw [i_arg]
  refine (put64_any _ [] _ 8 _ w.heap.size (OwnB.nil _ _) (Nat.le_refl _) (wrap_u64_rng _).1 (wrap_u64_rng _).2 (by decide) (by decide)).mono ?_
  rintro e w1 ⟨v, rfl, hown, hext⟩
  have hs := own_string hown
  go_wp2
  go_ret
  exact ⟨rfl, hext.below (Nat.le_refl _) (by simp [Value.ownBlock])⟩

theorem OwnB.reads {w : World} {B : Nat} {v : Value} {l : List UInt8} (h : OwnB w B v l) : ∃ A c, v = .slice A l.length c ∧ Reads w w.heap.size 1 A l.length (l.map byteV) := by
  have h' := h
  rcases h.2 with ⟨rfl, h0⟩ | ⟨g, cap, cur, rfl, _⟩
  · have : l = [] := List.eq_nil_of_length_eq_zero h0
    subst this
    exact ⟨none, 0, rfl, Reads.none_⟩
  · exact ⟨_, cap, rfl, Reads.of_own h'⟩
theorem OwnB.fresh (w : World) (B : Nat) (hB : B ≤ w.heap.size) (l : List UInt8) (hl : 0 < l.length) (hm : l.length ≤ maxLen) : OwnB (w.alloc (.cells (l.map byteV).toArray 5)) B (.slice (some ⟨w.heap.size, 0, none⟩) l.length l.length) l :=
  ⟨by simp, .inr ⟨w.heap.size, l.length, (l.map byteV).toArray, rfl, hB, Blk.new w _ _, Nat.le_refl _, hm, by simp, by rw [Nat.mul_one]; exact List.take_of_length_le (by simp)⟩⟩
theorem mod_byte (m : Nat) : (Value.int .u8 ((m : Int) % 256)) = byteV (UInt8.ofNat (m % 256)) := by
  unfold byteV
  congr 1
  rw [UInt8.toNat_ofNat', Nat.mod_mod]
  rfl

/-- 'append([]byte{x}, b...)': bytes before. -/
theorem wpList_prepend_byte {ops : Array Oper} {rest : List Oper} {o : Oper} {a : Act} {Q : Exit → Act → World → Prop} (wr : World) (hgd : o.guard = none) (s x : Operand)
    (ho : o.op = .call { callee := .builtin .append, args := #[s, x], argTypes := #[65, 65] })
    (B : Nat) (v : Value) (cur : List UInt8) (hx : a.eval x = v) (hown : OwnB wr B v cur) (u : Value) (b : UInt8) (hs : a.eval s = .slice (some ⟨wr.heap.size, 0, none⟩) 1 1) (hu : u = byteV b)
    (hl : cur.length ≤ 140737488355327) (hB : B ≤ wr.heap.size)
    (h : ∀ v' w', OwnB w' B v' (b :: cur) → Below B wr w' → B ≤ w'.heap.size → wpList Try.prog ops Q rest (a.put o.dst v') w') : wpList Try.prog ops Q (o :: rest) a (wr.alloc (.cells #[u] 5)) := by
  subst hu
  obtain ⟨i0, hi0, hz0, hz1, hz2⟩ := info_parts u8_info
  obtain ⟨A, c, rfl, hr⟩ := hown.reads
  refine wpList_append_any _ hgd s x _ ho B 5 i0 _ 1 1 Try.underlying65 hi0 hz0 hz1 hz2 rfl (by decide) _ 1 [byteV b] hs (OwnB.fresh wr B hB [b] (by simp) (by simp [maxLen])) wr.heap.size A cur.length c (cur.map byteV) hx (hr.alloc (Nat.le_refl _) _) (byteV_one cur) ?_ ?_ ?_ ?_
  · unfold maxLen; omega
  · omega
  · simp; omega
  · intro v' w' h1 h2 h3
    refine h v' w' ?_ ?_ ?_
    · unfold OwnB
      rw [List.length_cons, Nat.add_comm]
      exact h1
    · exact ((Below.refl B wr).alloc hB _).grown h2 (by simp; omega) (by intro k hk; simp [Value.ownBlock] at hk; omega)
    · have := h2.size
      simp at this
      omega

def RURel (w : World) (B : Nat) (n : Nat) (m b i : Value) (wr : World) : Prop :=
  ∃ j : Nat, j ≤ 8 ∧ i = .int .i64 j ∧ m = .int .u64 ((n / 256 ^ j : Nat) : Int) ∧ OwnB wr B b (be j n) ∧ Below B w wr ∧ B ≤ wr.heap.size

set_option maxRecDepth 20000 in
theorem ru_any (n : Int) (w : World) (h0 : 0 ≤ n) (h1 : n ≤ 18446744073709551615) :
    Calls Try.prog 81 #[.int .u64 n] w fun e w' => e = .returned (.string (uS n)) ∧ Below w.heap.size w w' := by
  obtain ⟨n0, rfl⟩ := Int.eq_ofNat_of_zero_le h0
  have hn0 : n0 ≤ 18446744073709551615 := by omega
  clear h0 h1
  go_enter Try.func81, Try.ntmps81
  go_wp2
  go_loopw [0, 3, 4] (fun m b i wr => RURel w w.heap.size n0 m b i wr) (fun _ _ i _ => (8 - intOf i).toNat)
  case atStart => exact ⟨0, by decide, rfl, by simp, OwnB.nil _ _, Below.refl _ _, Nat.le_refl _⟩
  case round =>
    obtain ⟨j, hj, rfl, rfl, hown, hbel, hBr⟩ := hrel
    by_cases hlt : j < 8
    · have hq : n0 / 256 ^ j ≤ 18446744073709551615 := Nat.le_trans (Nat.div_le_self _ _) hn0
      have Hbe := hide (show be (j + 1) n0 = UInt8.ofNat (n0 / 256 ^ j % 256) :: be j n0 from rfl)
      have Hdv := hide (show (n0 / 256 ^ j) / 256 = n0 / 256 ^ (j + 1) by rw [Nat.div_div_eq_div_mul, Nat.pow_succ])
      have hbl := be_length j n0
      generalize n0 / 256 ^ j = q at *
      generalize be j n0 = cur at *
      have hcl : cur.length ≤ 8 := by omega
      clear hbl
      go_wp2_with (at_builtin; go_must (refine wpList_prepend_byte _ rfl (.tmp 12) (.tmp 13) rfl w.heap.size _ cur rfl hown _ _ rfl (mod_byte q) (by omega) hBr ?_); intro v1 w1 hown1 hbel1 hBr1)
      go_roundw
      case rel => exact ⟨j + 1, by omega, by go_num, by rw [← Hdv.out]; simp, by rw [Hbe.out]; exact hown1, hbel.trans hbel1, hBr1⟩
      case measure => simp [intOf]; omega
    · obtain rfl : j = 8 := by omega
      have hs := own_string hown
      go_wp2
      go_ret
      exact ⟨rfl, hbel⟩
end Go.Proofs.Ytegegljpmelomaa
