/- The walks of package modelio that read: numbers and floats. No condition but that the bytes are a string of the machine. -/
import Derived.Test.YtegegljpmelomaaMio2
import Derived.Test.YtegegljpmelomaaOwn
import Derived.Test.YtegegljpmelomaaFloat
import Derived.Test.YtegegljpmelomaaTree
import Derived.Test.YtegegljpmelomaaPack4
import Derived.Test.YtegegljpmelomaaPackPl3
set_option linter.unusedVariables false
set_option linter.unusedSimpArgs false
set_option maxRecDepth 20000
namespace Go.Proofs.Ytegegljpmelomaa
open Go.RowKit Go.Deep
attribute [local go_sem] run_store_float

/-! What is still to be read: words, or an error. -/
abbrev RSt := Except Int (List Nat)
def goR {α : Type} (st : RSt) (p : List Nat → Mio.Rd α) : Mio.Rd α := match st with
  | .error e => .error e
  | .ok ws => p ws
def aft {α : Type} (o : Mio.Rd α) : RSt := match o with
  | .error e => .error e
  | .ok (_, r) => .ok r
def RdAt (w : World) (g : Nat) (s : ByteArray) (st : RSt) : Prop := match st with
  | .ok ws => ∃ k : Nat, ws = (wordsOf s).drop k ∧ 8 * k ≤ s.size ∧ Blk w g 83 #[.string s, .int .i64 (8 * k : Nat), .int .i64 0]
  | .error e => e ≠ 0 ∧ ∃ p : Int, Blk w g 83 #[.string s, .int .i64 p, .int .i64 e]
theorem RdAt.kept {w w' : World} {g : Nat} {s : ByteArray} {st : RSt} (h : RdAt w g s st) (hk : w'.heap[g]? = w.heap[g]?) : RdAt w' g s st := by
  cases st with
  | ok ws =>
    obtain ⟨k, h1, h2, h3⟩ := h
    exact ⟨k, h1, h2, hk.trans h3⟩
  | error e =>
    obtain ⟨h1, p, h2⟩ := h
    exact ⟨h1, p, hk.trans h2⟩
theorem RdAt.lt {w : World} {g : Nat} {s : ByteArray} {st : RSt} (h : RdAt w g s st) : g < w.heap.size := by
  cases st with
  | ok ws =>
    obtain ⟨k, h1, h2, h3⟩ := h
    exact h3.lt
  | error e =>
    obtain ⟨h1, p, h2⟩ := h
    exact h2.lt
theorem RdAt.below {w w' : World} {g : Nat} {s : ByteArray} {st : RSt} (h : RdAt w g s st) (hb : Below w.heap.size w w') : RdAt w' g s st := h.kept (hb.block g h.lt)
theorem RdAt.grown {w w' : World} {g : Nat} {s : ByteArray} {st : RSt} (h : RdAt w g s st) {row : Option Nat} (hg : w.grownBy w' row) (hne : some g ≠ row) : RdAt w' g s st := h.kept (hg.block g h.lt hne)
/-- One error is at hand, or none. -/
def errOf (st : RSt) : Int := match st with
  | .ok _ => 0
  | .error e => e
theorem RdAt.cells {w : World} {g : Nat} {s : ByteArray} {st : RSt} (h : RdAt w g s st) : ∃ p : Int, Blk w g 83 #[.string s, .int .i64 p, .int .i64 (errOf st)] := by
  cases st with
  | ok ws =>
    obtain ⟨k, h1, h2, h3⟩ := h
    exact ⟨_, h3⟩
  | error e =>
    obtain ⟨h1, p, h2⟩ := h
    exact ⟨p, h2⟩
theorem grown_trans_g {a b c : World} {g : Nat} (h : a.grownBy b (some g)) (k : b.grownBy c (some g)) : a.grownBy c (some g) :=
  ⟨k.os.trans h.os, k.tape.trans h.tape, k.output.trans h.output, Nat.le_trans h.size k.size, fun i hi hne => (k.block i (Nat.lt_of_lt_of_le hi h.size) hne).trans (h.block i hi hne)⟩
theorem grown_row {a b c : World} {g : Nat} {row : Option Nat} (h : a.grownBy b (some g)) (k : b.grownBy c row) (hr : ∀ i, row = some i → a.heap.size ≤ i) : a.grownBy c (some g) :=
  ⟨k.os.trans h.os, k.tape.trans h.tape, k.output.trans h.output, Nat.le_trans h.size k.size, fun i hi hne => (k.block i (Nat.lt_of_lt_of_le hi h.size) (fun e => by
    have := hr i e.symm
    omega)).trans (h.block i hi hne)⟩
theorem grown_below {a b c : World} {g : Nat} (h : a.grownBy b (some g)) (k : Below b.heap.size b c) : a.grownBy c (some g) := grown_trans_g h (only_of_below k _)
theorem keepg {w w' : World} {g : Nat} {p : Addr} {v : Value} (hg : w.grownBy w' (some g)) (h : w.cell? p = some v) (hne : p.block ≠ g) : w'.cell? p = some v := by
  refine Eq.trans ?_ h
  have := hg.block p.block (cell_lt h) fun e => hne (Option.some.inj e)
  unfold World.cell?
  rw [this]
theorem OwnR.keepg {α : Type} {e : TypeId} {size B g : Nat} {enc : α → List Value} {w w' : World} {v : Value} {L : List α} (h : OwnR e size enc w B v L) (hg : w.grownBy w' (some g)) (hB : g < B) : OwnR e size enc w' B v L := by
  refine World.ownsRow.kept h hg ?_
  cases hv : v.ownBlock with
  | none => exact .inl rfl
  | some k =>
    have := h.base k hv
    exact .inr fun he => by
      injection he with he
      omega
theorem OwnR.low6 {α : Type} {e : TypeId} {size B N : Nat} {enc : α → List Value} {w : World} {v : Value} {L : List α} (h : OwnR e size enc w B v L) (hN : N ≤ B) : OwnR e size enc w N v L := by
  refine ⟨h.1, ?_⟩
  rcases h.2 with h2 | ⟨g, cap, cur, e1, hb, rest⟩
  · exact .inl h2
  · exact .inr ⟨g, cap, cur, e1, Nat.le_trans hN hb, rest⟩

/-! A number, and a float. -/
def IntRd (w : World) (g : Nat) (s : ByteArray) (st : RSt) (e : Ending) (w' : World) : Prop :=
  ∃ n : Int, e = .returned (.int .i64 n) ∧ I64 n ∧ w.grownBy w' (some g) ∧ RdAt w' g s (aft (goR st Mio.pI)) ∧ ∀ y r, goR st Mio.pI = .ok (y, r) → n = y
def FlRd (w : World) (g : Nat) (s : ByteArray) (st : RSt) (e : Ending) (w' : World) : Prop :=
  ∃ n : Nat, e = .returned (.float .f64 n) ∧ n < 18446744073709551616 ∧ w.grownBy w' (some g) ∧ RdAt w' g s (aft (goR st Mio.pF)) ∧ ∀ y r, goR st Mio.pF = .ok (y, r) → n = y
/-- What a number is, and what is left. -/
structure NextI (s : ByteArray) (ws : List Nat) (k : Nat) (n p e : Int) : Prop where
  i64 : I64 n
  con : ∀ y r, Mio.pI ws = .ok (y, r) → n = y
  at_ : ∀ w g, Blk w g 83 #[.string s, .int .i64 p, .int .i64 e] → RdAt w g s (aft (Mio.pI ws))
theorem nextI {s : ByteArray} {k : Nat} (hk : 8 * k ≤ s.size) : NextI s ((wordsOf s).drop k) k (riN s (8 * k : Nat)) (ruP s (8 * k : Nat)) (ruE s (8 * k : Nat)) := by
  by_cases h : 8 * k + 8 ≤ s.size
  · obtain ⟨h1, _, h3, h4⟩ := ru_ok h
    have hlt : Mio.okW (rdN s (8 * k) 8) := by
      have := rdN_lt s (8 * k) 8
      unfold Mio.okW
      omega
    rw [h1, h3, h4, words_more h, unI_w hlt]
    refine ⟨Mio.toI_ok hlt, fun y r e => ?_, fun w g hb => ⟨k + 1, rfl, by omega, ?_⟩⟩
    · have := Except.ok.inj e
      exact congrArg Prod.fst this
    · rw [show 8 * (k + 1) = 8 * k + 8 by omega]
      exact hb
  · obtain ⟨h1, _, h3, h4⟩ := ru_short (s := s) (p := (8 * k : Nat)) (by omega) (by omega)
    rw [h1, h3, h4, words_none (by omega)]
    refine ⟨by unfold I64; omega, fun y r e => (by cases e), fun w g hb => ⟨by decide, 0, hb⟩⟩
structure NextU (s : ByteArray) (ws : List Nat) (k : Nat) (n p e : Int) : Prop where
  lo : 0 ≤ n
  hi : n.toNat < 18446744073709551616
  con : ∀ y r, Mio.pF ws = .ok (y, r) → n.toNat = y
  at_ : ∀ w g, Blk w g 83 #[.string s, .int .i64 p, .int .i64 e] → RdAt w g s (aft (Mio.pF ws))
theorem nextU {s : ByteArray} {k : Nat} (hk : 8 * k ≤ s.size) : NextU s ((wordsOf s).drop k) k (ruN s (8 * k : Nat)) (ruP s (8 * k : Nat)) (ruE s (8 * k : Nat)) := by
  by_cases h : 8 * k + 8 ≤ s.size
  · obtain ⟨h1, h4, h3, _⟩ := ru_ok h
    have hlt := rdN_lt s (8 * k) 8
    rw [h1, h3, h4, words_more h]
    refine ⟨by omega, by rw [Int.toNat_natCast]; omega, fun y r e => ?_, fun w g hb => ⟨k + 1, rfl, by omega, ?_⟩⟩
    · have := Except.ok.inj e
      rw [Int.toNat_natCast]
      exact congrArg Prod.fst this
    · rw [show 8 * (k + 1) = 8 * k + 8 by omega]
      exact hb
  · obtain ⟨h1, h4, h3, _⟩ := ru_short (s := s) (p := (8 * k : Nat)) (by omega) (by omega)
    rw [h1, h3, h4, words_none (by omega)]
    refine ⟨by omega, by decide, fun y r e => (by cases e), fun w g hb => ⟨by decide, 0, hb⟩⟩
theorem int_bad (w : World) (g : Nat) (s : ByteArray) (p er : Int) (hb : Blk w g 83 #[.string s, .int .i64 p, .int .i64 er]) (he : er ≠ 0) : Calls Try.prog 62 #[.pointer (some ⟨g, 0, none⟩)] w fun e w' => e = .returned (.int .i64 0) ∧ w = w' := by
  have c2 := hb.cell 2
  simp only [List.getElem?_toArray, List.getElem?_cons_zero, List.getElem?_cons_succ] at c2
  clear hb
  go_enter Try.func62, Try.ntmps62
  go_wp2_with fail
  go_ret
  exact ⟨rfl, rfl⟩
def Reads3 (w : World) (g : Nat) (s : ByteArray) (v : Value) (p er : Int) (e : Ending) (w' : World) : Prop := e = .returned v ∧ w.grownBy w' (some g) ∧ Blk w' g 83 #[.string s, .int .i64 p, .int .i64 er]
theorem int_good (w : World) (g : Nat) (s : ByteArray) (hs : s.size ≤ 9223372036854775807) (q n p er : Int) (hb : Blk w g 83 #[.string s, .int .i64 q, .int .i64 0]) (h1 : riN s q = n) (h2 : ruP s q = p) (h3 : ruE s q = er) :
    Calls Try.prog 62 #[.pointer (some ⟨g, 0, none⟩)] w (Reads3 w g s (.int .i64 n) p er) := by
  have hk := fun W => readi_all s q W hs
  rw [h1, h2, h3] at hk
  clear h1 h2 h3 hs
  have HR := hide (show ∀ W, w.grownBy W (some g) → Blk W g 83 #[.string s, .int .i64 p, .int .i64 er] → Reads3 w g s (.int .i64 n) p er (.returned (.int .i64 n)) W from fun W h1 h2 => ⟨rfl, h1, h2⟩)
  generalize Reads3 w g s (.int .i64 n) p er = Post at *
  have HK := hide hk
  have HB := hide hb
  have c0 := hb.cell 0
  have c1 := hb.cell 1
  have c2 := hb.cell 2
  have f1 := hb.frozen 1
  have f2 := hb.frozen 2
  simp only [List.getElem?_toArray, List.getElem?_cons_zero, List.getElem?_cons_succ] at c0 c1 c2
  clear hk hb
  go_enter Try.func62, Try.ntmps62
  go_wp2_with fail
  refine wp_region_tree (fun _ => True) [0, 1] 21 20 (by kernel_rfl) (by kernel_rfl) trivial ?_
  simp only [List.filterMap_cons, List.filterMap_nil, List.getElem?_cons_succ, List.getElem?_cons_zero]
  repeat (refine head_step ?_ (by rfl) ?_ (fun _ _ _ h => h) ?_; rotate_left; (intro w' _; go_simp; (try with_reducible rfl)); (try simp only [Act.put, List.setIfInBounds_toArray, List.set_cons_zero, List.set_cons_succ]))
  refine head_nil ?_
  refine tree_take [0, 1] [2, 3, 4, 5, 6, 7, 8, 9] 10 (fun X => X.cell? ⟨g, 0, none⟩ = some (.string s) ∧ X.cell? ⟨g, 1, none⟩ = some (.int .i64 q)) (f := 12) (by kernel_rfl) ⟨c0, c1⟩ ?_
  simp only [List.filterMap_cons, List.filterMap_nil, List.getElem?_toArray, List.getElem?_cons_succ, List.getElem?_cons_zero]
  repeat (refine head_step ?_ (by rfl) ?_ (fun _ _ _ h => h) ?_; rotate_left; (intro w' hs; obtain ⟨z0, z1⟩ := hs; go_simp; (try with_reducible rfl)); (try simp only [Act.put, List.setIfInBounds_toArray, List.set_cons_zero, List.set_cons_succ]))
  refine head_nil ?_
  refine tree_one 10 (by kernel_rfl) rfl ?_
  refine midc_call (g := 84) (args := #[.string s, .int .i64 q]) (w' := w.drew) (by rfl) (by go_simp) ((HK.out w.drew).mono ?_)
  rintro e w1 ⟨rfl, rfl⟩
  refine ⟨_, rfl, ⟨c0, c1⟩, ?_⟩
  simp only [Act.put, List.setIfInBounds_toArray, List.set_cons_zero, List.set_cons_succ]
  refine midc_nil ?_
  refine tree_one 11 (by kernel_rfl) rfl ?_
  refine midc_step _ w.drew (by rfl) (by go_simp; try (first | rfl | exact ⟨rfl, rfl⟩)) ⟨c0, c1⟩ ?_
  simp only [Act.put, List.setIfInBounds_toArray, List.set_cons_zero, List.set_cons_succ]
  refine midc_nil ?_
  refine tree_again [12, 13, 14, 15, 16, 17] 21 (fun _ => True) (f := 4) (by kernel_rfl) trivial ?_
  simp only [List.filterMap_cons, List.filterMap_nil, List.getElem?_toArray, List.getElem?_cons_succ, List.getElem?_cons_zero]
  repeat (refine head_step ?_ (by rfl) ?_ (fun _ _ _ h => h) ?_; rotate_left; (intro w' _; go_simp; (try with_reducible rfl)); (try simp only [Act.put, List.setIfInBounds_toArray, List.set_cons_zero, List.set_cons_succ]))
  refine head_nil ?_
  refine tree_rest _ 18 rfl (by kernel_rfl) rfl ?_
  go_wp2_with fail
  refine HR.out _ (only_drew (only_setCell (only_setCell (World.grownBy.refl w (some g)) (.inl rfl) _) (.inl rfl) _)) ?_
  have := (HB.out.set_ 1 (.int .i64 p)).set_ 2 (.int .i64 er)
  simpa using this.drew
theorem float_bad (w : World) (g : Nat) (s : ByteArray) (p er : Int) (hb : Blk w g 83 #[.string s, .int .i64 p, .int .i64 er]) (he : er ≠ 0) : Calls Try.prog 63 #[.pointer (some ⟨g, 0, none⟩)] w fun e w' => e = .returned (.float .f64 0) ∧ w = w' := by
  have c2 := hb.cell 2
  simp only [List.getElem?_toArray, List.getElem?_cons_zero, List.getElem?_cons_succ] at c2
  clear hb
  go_enter Try.func63, Try.ntmps63
  go_wp2_with fail
  go_ret
  exact ⟨rfl, rfl⟩
theorem float_good (w : World) (g : Nat) (s : ByteArray) (hs : s.size ≤ 9223372036854775807) (q n p er : Int) (hb : Blk w g 83 #[.string s, .int .i64 q, .int .i64 0]) (h1 : ruN s q = n) (h2 : ruP s q = p) (h3 : ruE s q = er) :
    Calls Try.prog 63 #[.pointer (some ⟨g, 0, none⟩)] w (Reads3 w g s (.float .f64 n.toNat) p er) := by
  have hk := fun W => readu_all s q W hs
  rw [h1, h2, h3] at hk
  clear h1 h2 h3 hs
  have HR := hide (show ∀ W, w.grownBy W (some g) → Blk W g 83 #[.string s, .int .i64 p, .int .i64 er] → Reads3 w g s (.float .f64 n.toNat) p er (.returned (.float .f64 n.toNat)) W from fun W h1 h2 => ⟨rfl, h1, h2⟩)
  generalize Reads3 w g s (.float .f64 n.toNat) p er = Post at *
  have HK := hide hk
  have HB := hide hb
  have c0 := hb.cell 0
  have c1 := hb.cell 1
  have c2 := hb.cell 2
  have f1 := hb.frozen 1
  have f2 := hb.frozen 2
  simp only [List.getElem?_toArray, List.getElem?_cons_zero, List.getElem?_cons_succ] at c0 c1 c2
  clear hk hb
  have ff := f64from_run
  go_enter Try.func63, Try.ntmps63
  go_wp2_with fail
  refine wp_region_tree (fun _ => True) [0, 1] 21 20 (by kernel_rfl) (by kernel_rfl) trivial ?_
  simp only [List.filterMap_cons, List.filterMap_nil, List.getElem?_cons_succ, List.getElem?_cons_zero]
  repeat (refine head_step ?_ (by rfl) ?_ (fun _ _ _ h => h) ?_; rotate_left; (intro w' _; go_simp; (try with_reducible rfl)); (try simp only [Act.put, List.setIfInBounds_toArray, List.set_cons_zero, List.set_cons_succ]))
  refine head_nil ?_
  refine tree_take [0, 1] [2, 3, 4, 5, 6, 7, 8, 9] 10 (fun X => X.cell? ⟨g, 0, none⟩ = some (.string s) ∧ X.cell? ⟨g, 1, none⟩ = some (.int .i64 q)) (f := 12) (by kernel_rfl) ⟨c0, c1⟩ ?_
  simp only [List.filterMap_cons, List.filterMap_nil, List.getElem?_toArray, List.getElem?_cons_succ, List.getElem?_cons_zero]
  repeat (refine head_step ?_ (by rfl) ?_ (fun _ _ _ h => h) ?_; rotate_left; (intro w' hs; obtain ⟨z0, z1⟩ := hs; go_simp; (try with_reducible rfl)); (try simp only [Act.put, List.setIfInBounds_toArray, List.set_cons_zero, List.set_cons_succ]))
  refine head_nil ?_
  refine tree_one 10 (by kernel_rfl) rfl ?_
  refine midc_call (g := 85) (args := #[.string s, .int .i64 q]) (w' := w.drew) (by rfl) (by go_simp) ((HK.out w.drew).mono ?_)
  rintro e w1 ⟨rfl, rfl⟩
  refine ⟨_, rfl, ⟨c0, c1⟩, ?_⟩
  simp only [Act.put, List.setIfInBounds_toArray, List.set_cons_zero, List.set_cons_succ]
  refine midc_nil ?_
  refine tree_one 11 (by kernel_rfl) rfl ?_
  refine midc_step _ w.drew (by rfl) (by go_simp; try (first | rfl | exact ⟨rfl, rfl⟩)) ⟨c0, c1⟩ ?_
  simp only [Act.put, List.setIfInBounds_toArray, List.set_cons_zero, List.set_cons_succ]
  refine midc_nil ?_
  refine tree_again [12, 13, 14, 15, 16, 17] 21 (fun _ => True) (f := 4) (by kernel_rfl) trivial ?_
  simp only [List.filterMap_cons, List.filterMap_nil, List.getElem?_toArray, List.getElem?_cons_succ, List.getElem?_cons_zero]
  repeat (refine head_step ?_ (by rfl) ?_ (fun _ _ _ h => h) ?_; rotate_left; (intro w' _; go_simp; (try with_reducible rfl)); (try simp only [Act.put, List.setIfInBounds_toArray, List.set_cons_zero, List.set_cons_succ]))
  refine head_nil ?_
  refine tree_rest _ 18 rfl (by kernel_rfl) rfl ?_
  go_wp2_with fail
  refine HR.out _ (only_drew (only_setCell (only_setCell (World.grownBy.refl w (some g)) (.inl rfl) _) (.inl rfl) _)) ?_
  have := (HB.out.set_ 1 (.int .i64 p)).set_ 2 (.int .i64 er)
  simpa using this.drew
theorem int_rd {w : World} {g : Nat} {s : ByteArray} {st : RSt} (hs : s.size ≤ 9223372036854775807) (h : RdAt w g s st) : Calls Try.prog 62 #[.pointer (some ⟨g, 0, none⟩)] w (IntRd w g s st) := by
  cases st with
  | error e =>
    obtain ⟨he, p, hb⟩ := h
    refine (int_bad w g s p e hb he).mono ?_
    rintro e w' ⟨rfl, rfl⟩
    exact ⟨0, rfl, by unfold I64; omega, World.grownBy.refl _ _, ⟨he, p, hb⟩, fun y r h => by cases h⟩
  | ok ws =>
    obtain ⟨k, rfl, hk, hb⟩ := h
    have hn := nextI hk
    refine (int_good w g s hs _ _ _ _ hb rfl rfl rfl).mono ?_
    rintro e w' ⟨rfl, hg, hb'⟩
    exact ⟨_, rfl, hn.i64, hg, hn.at_ _ _ hb', hn.con⟩
theorem float_rd {w : World} {g : Nat} {s : ByteArray} {st : RSt} (hs : s.size ≤ 9223372036854775807) (h : RdAt w g s st) : Calls Try.prog 63 #[.pointer (some ⟨g, 0, none⟩)] w (FlRd w g s st) := by
  cases st with
  | error e =>
    obtain ⟨he, p, hb⟩ := h
    refine (float_bad w g s p e hb he).mono ?_
    rintro e w' ⟨rfl, rfl⟩
    exact ⟨0, rfl, by decide, World.grownBy.refl _ _, ⟨he, p, hb⟩, fun y r h => by cases h⟩
  | ok ws =>
    obtain ⟨k, rfl, hk, hb⟩ := h
    have hn := nextU hk
    refine (float_good w g s hs _ _ _ _ hb rfl rfl rfl).mono ?_
    rintro e w' ⟨rfl, hg, hb'⟩
    exact ⟨_, rfl, hn.hi, hg, hn.at_ _ _ hb', hn.con⟩
end Go.Proofs.Ytegegljpmelomaa
