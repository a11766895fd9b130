/- The walks of rec's reader: a byte, a number, a time. No condition but sizes that any memory has. -/
import Derived.Test.YtpgbfglfmmohdaaRec2
set_option linter.unusedVariables false
set_option maxRecDepth 20000
namespace Go.Proofs.Ytpgbfglfmmohdaa
open Go.RowKit Go.Deep

attribute [local go_sem] run_store_float
/-- The reader's block holds this. -/
def RdAt (w : World) (g : Nat) (s : ByteArray) (k : Int) (sh : Bool) : Prop :=
  (w.cell? ⟨g, 0, none⟩ = some (.string s) ∧ w.cell? ⟨g, 1, none⟩ = some (.int .i64 k) ∧ w.cell? ⟨g, 2, none⟩ = some (.bool sh)) ∧ w.frozen? ⟨g, 1, none⟩ = false ∧ w.frozen? ⟨g, 2, none⟩ = false
/-- Behind a reader's step: its block has turned, new blocks may be there. -/
def RdTo (w w' : World) (g : Nat) (s : ByteArray) (k : Int) (sh : Bool) : Prop := RdAt w' g s k sh ∧ w.grownBy w' (some g)
section
variable {w w' a : World} {g : Nat} {s : ByteArray} {k j : Int} {sh : Bool}
theorem RdAt.cells (h : RdAt w g s k sh) : (w.cell? ⟨g, 0, none⟩ = some (.string s) ∧ w.cell? ⟨g, 1, none⟩ = some (.int .i64 k) ∧ w.cell? ⟨g, 2, none⟩ = some (.bool sh)) ∧ w.frozen? ⟨g, 1, none⟩ = false ∧ w.frozen? ⟨g, 2, none⟩ = false := h
theorem RdAt.of_blk (h : Blk w g 119 #[.string s, .int .i64 k, .bool sh]) : RdAt w g s k sh := ⟨⟨h.cell 0, h.cell 1, h.cell 2⟩, h.frozen 1, h.frozen 2⟩
theorem RdAt.lt (h : RdAt w g s k sh) : g < w.heap.size := cell_lt h.1.1
theorem keep_c {w w' : World} {p : Addr} {v : Value} (hb : Below w.heap.size w w') (h : w.cell? p = some v) : w'.cell? p = some v := (hb.cell (cell_lt h)).trans h
theorem RdAt.below (h : RdAt w g s k sh) (hb : Below w.heap.size w w') : RdAt w' g s k sh :=
  ⟨⟨keep_c hb h.1.1, keep_c hb h.1.2.1, keep_c hb h.1.2.2⟩, (hb.frozen (p := ⟨g, 1, none⟩) h.lt).trans h.2.1, (hb.frozen (p := ⟨g, 2, none⟩) h.lt).trans h.2.2⟩
theorem RdAt.drewN (h : RdAt w g s k sh) (n : Nat) : RdAt (w.drewN n) g s k sh := h
theorem RdAt.drew (h : RdAt w g s k sh) : RdAt w.drew g s k sh := h
theorem RdAt.far (h : RdAt w g s k sh) {p : Addr} (hp : p.block ≠ g) (u : Value) : RdAt (w.setCell p u) g s k sh :=
  ⟨⟨(World.cell?_setCell_far w p _ u hp).trans h.1.1, (World.cell?_setCell_far w p _ u hp).trans h.1.2.1, (World.cell?_setCell_far w p _ u hp).trans h.1.2.2⟩, by rw [World.frozen?_setCell]; exact h.2.1, by rw [World.frozen?_setCell]; exact h.2.2⟩
theorem RdAt.set1 (h : RdAt w g s k sh) : RdAt (w.setCell ⟨g, 1, none⟩ (.int .i64 j)) g s j sh :=
  ⟨⟨(World.cell?_setCell_other w _ _ _ (by simp)).trans h.1.1, World.cell?_setCell_same w _ _ h.1.2.1, (World.cell?_setCell_other w _ _ _ (by simp)).trans h.1.2.2⟩, by rw [World.frozen?_setCell]; exact h.2.1, by rw [World.frozen?_setCell]; exact h.2.2⟩
theorem RdAt.set2 (h : RdAt w g s k sh) : RdAt (w.setCell ⟨g, 2, none⟩ (.bool true)) g s k true :=
  ⟨⟨(World.cell?_setCell_other w _ _ _ (by simp)).trans h.1.1, (World.cell?_setCell_other w _ _ _ (by simp)).trans h.1.2.1, World.cell?_setCell_same w _ _ h.1.2.2⟩, by rw [World.frozen?_setCell]; exact h.2.1, by rw [World.frozen?_setCell]; exact h.2.2⟩
theorem only_below {row : Option Nat} (h : a.grownBy w row) (hb : Below w.heap.size w w') : a.grownBy w' row :=
  ⟨hb.os.trans h.os, hb.tape.trans h.tape, hb.output.trans h.output, Nat.le_trans h.size hb.size, fun i hi hne => (hb.block i (Nat.lt_of_lt_of_le hi h.size)).trans (h.block i hi hne)⟩
theorem RdAt.swap {X : World} {o o' : Obj} (h : RdAt (X.alloc o) g s k sh) (hg : g < X.heap.size) : RdAt (X.alloc o') g s k sh :=
  ⟨⟨(World.cell?_alloc_lt X _ _ hg).trans ((World.cell?_alloc_lt X _ _ hg).symm.trans h.1.1), (World.cell?_alloc_lt X _ _ hg).trans ((World.cell?_alloc_lt X _ _ hg).symm.trans h.1.2.1), (World.cell?_alloc_lt X _ _ hg).trans ((World.cell?_alloc_lt X _ _ hg).symm.trans h.1.2.2)⟩,
    (((Below.refl X.heap.size X).alloc (Nat.le_refl _) o').frozen (p := ⟨g, 1, none⟩) hg).trans ((((Below.refl X.heap.size X).alloc (Nat.le_refl _) o).frozen (p := ⟨g, 1, none⟩) hg).symm.trans h.2.1),
    (((Below.refl X.heap.size X).alloc (Nat.le_refl _) o').frozen (p := ⟨g, 2, none⟩) hg).trans ((((Below.refl X.heap.size X).alloc (Nat.le_refl _) o).frozen (p := ⟨g, 2, none⟩) hg).symm.trans h.2.2)⟩
theorem only_swap {X : World} {o o' : Obj} {row : Option Nat} (h : a.grownBy (X.alloc o) row) (hs : a.heap.size ≤ X.heap.size) : a.grownBy (X.alloc o') row :=
  ⟨h.os, h.tape, h.output, Nat.le_trans hs (by simp), fun i hi hne => (Below.heap_alloc X o' i (Nat.lt_of_lt_of_le hi hs)).trans ((Below.heap_alloc X o i (Nat.lt_of_lt_of_le hi hs)).symm.trans (h.block i hi hne))⟩
theorem RdTo.self (h : RdAt w g s k sh) (n : Nat) : RdTo w (w.drewN n) g s k sh := ⟨h, only_drewN (World.grownBy.refl w _) n⟩
theorem RdTo.at_ (h : RdAt w g s k sh) (n : Nat) : RdTo w ((w.drewN n).setCell ⟨g, 1, none⟩ (.int .i64 j)) g s j sh :=
  ⟨RdAt.set1 (h.drewN n), only_setCell (only_drewN (World.grownBy.refl w _) n) (.inl rfl) _⟩
theorem RdTo.short (h : RdAt w g s k sh) (n : Nat) : RdTo w ((w.drewN n).setCell ⟨g, 2, none⟩ (.bool true)) g s k true :=
  ⟨RdAt.set2 (h.drewN n), only_setCell (only_drewN (World.grownBy.refl w _) n) (.inl rfl) _⟩
theorem RdTo.draws (h : RdTo w w' g s k sh) (n : Nat) : RdTo w (w'.drewN n) g s k sh := ⟨h.1.drewN n, only_drewN h.2 n⟩
theorem RdTo.trans {w2 : World} {s' : ByteArray} {k' : Int} {sh' : Bool} (h : RdTo w w' g s k sh) (h2 : RdTo w' w2 g s' k' sh') : RdTo w w2 g s' k' sh' :=
  ⟨h2.1, ⟨h2.2.os.trans h.2.os, h2.2.tape.trans h.2.tape, h2.2.output.trans h.2.output, Nat.le_trans h.2.size h2.2.size, fun i hi hne => (h2.2.block i (Nat.lt_of_lt_of_le hi h.2.size) hne).trans (h.2.block i hi hne)⟩⟩
end
theorem byte_in (s : ByteArray) (k : Nat) (sh : Bool) (g : Nat) (w : World) (h : RdAt w g s k sh) (hk : k < s.size) (hm : s.size ≤ 9223372036854775807) :
    Calls Try.prog 101 #[.pointer (some ⟨g, 0, none⟩)] w fun e w' => e = .returned (.int .i64 (s[k].toNat : Int)) ∧ RdTo w w' g s ((k : Int) + 1) sh := by
  obtain ⟨⟨c0, c1, c2⟩, f1, f2⟩ := h.cells
  have hi := run_index_str Try.underlying9 s .i64 (k : Int) k rfl hk
  have kI : (k : Int) < (s.size : Int) := by omega
  have hd : decide ((s.size : Int) ≤ (k : Int)) = false := by rw [decide_eq_false_iff_not]; omega
  have hw0 : IntKind.i64.wrap ((k : Int) + 1) = (k : Int) + 1 := IntWalk.i64_in _ (by omega)
  have hw1 : IntKind.i64.wrap ((k : Int) + 1 - 1) = (k : Int) := by rw [Int.add_sub_cancel]; exact IntWalk.i64_in _ (by omega)
  have hb := s[k].toNat_lt
  have hw2 : IntKind.i64.wrap (s[k].toNat : Int) = (s[k].toNat : Int) := IntWalk.i64_in _ (by omega)
  have HR := hide (fun n m => (RdTo.at_ (j := (k : Int) + 1) h n).draws m)
  go_enter Try.func101, Try.ntmps101
  go_wp2_with fail
  go_quiet (fail)
  go_wp2_with fail
  go_quiet (fail)
  go_wp2_with fail
  go_ret
  exact ⟨rfl, HR.out _ _⟩
theorem byte_end (s : ByteArray) (k : Nat) (sh : Bool) (g : Nat) (w : World) (h : RdAt w g s k sh) (hk : s.size ≤ k) (hm : s.size ≤ 9223372036854775807) :
    Calls Try.prog 101 #[.pointer (some ⟨g, 0, none⟩)] w fun e w' => e = .returned (.int .i64 0) ∧ RdTo w w' g s k true := by
  obtain ⟨⟨c0, c1, c2⟩, f1, f2⟩ := h.cells
  have hd : decide ((s.size : Int) ≤ (k : Int)) = true := by rw [decide_eq_true_eq]; omega
  have HR := hide (fun n => RdTo.short h n)
  go_enter Try.func101, Try.ntmps101
  go_wp2_with fail
  go_quiet (fail)
  go_wp2_with fail
  go_ret
  exact ⟨rfl, HR.out _⟩
theorem int_in (s : ByteArray) (k : Nat) (sh : Bool) (g : Nat) (w : World) (h : RdAt w g s k sh) (hk : k + 8 ≤ s.size) (hm : s.size ≤ 9223372036854775807) :
    Calls Try.prog 106 #[.pointer (some ⟨g, 0, none⟩)] w fun e w' => e = .returned (.int .i64 (unI (rdN s k 8 : Nat))) ∧ RdTo w w' g s ((k : Int) + 8) sh := by
  obtain ⟨⟨c0, c1, c2⟩, f1, f2⟩ := h.cells
  have HR := hide (fun n => (RdTo.at_ (j := (k : Int) + 8) h n))
  have hcl := fun w => readi_at s (k : Int) k w rfl hk hm
  go_enter Try.func106, Try.ntmps106
  go_wp2_with fail
  go_quiet ((go_at_call 43; exact quiet_left (hcl _)))
  go_wp2_with fail
  go_ret
  exact ⟨rfl, HR.out _⟩
theorem int_end (s : ByteArray) (k : Nat) (sh : Bool) (g : Nat) (w : World) (h : RdAt w g s k sh) (h1 : k ≤ s.size) (hk : s.size < k + 8) (hm : s.size ≤ 9223372036854775807) :
    Calls Try.prog 106 #[.pointer (some ⟨g, 0, none⟩)] w fun e w' => e = .returned (.int .i64 0) ∧ RdTo w w' g s k true := by
  obtain ⟨⟨c0, c1, c2⟩, f1, f2⟩ := h.cells
  have HR := hide (fun n => RdTo.short h n)
  have hcl := fun w => readi_short s (k : Int) w (by omega) (by omega) (by omega) hm
  go_enter Try.func106, Try.ntmps106
  go_wp2_with fail
  go_quiet ((go_at_call 43; exact quiet_left (hcl _)))
  go_wp2_with fail
  go_ret
  exact ⟨rfl, HR.out _⟩

/-! A time. -/
def timeX (s : ByteArray) (k : Nat) : ByteArray := (s.extract k (k + 8) ++ iS 0) ++ iS 0
theorem timeX_size (s : ByteArray) (k : Nat) (hk : k + 8 ≤ s.size) : (timeX s k).size = 24 := by
  unfold timeX
  rw [ByteArray.size_append, ByteArray.size_append, is_size, ByteArray.size_extract]
  omega
theorem timeX_rd (s : ByteArray) (k : Nat) (hk : k + 8 ≤ s.size) : rdN (timeX s k) 0 8 = rdN s k 8 := by
  have h := rdN_extract s k 8 hk
  have hz : (s.extract k (k + 8)).size = 8 := by rw [ByteArray.size_extract]; omega
  rw [hz] at h
  rw [← h]
  unfold rdN
  congr 1
  unfold timeX
  rw [ByteArray.data_append, ByteArray.data_append, Array.toList_append, Array.toList_append, List.drop_zero, List.drop_zero, List.append_assoc]
  have hl : (s.extract k (k + 8)).data.toList.length = 8 := by rw [Array.length_toList]; exact hz
  rw [List.take_append_of_le_length (by omega)]
def nanB : Nat := 9221120237041090561
theorem mnan_any (w : World) : Calls Try.prog 86 #[] w fun e w' => e = .returned (.float .f64 nanB) ∧ w = w' := by
  have fb := f64from_run
  go_enter Try.func86, Try.ntmps86
  go_wp2
  go_ret
  exact ⟨rfl, rfl⟩
theorem time_end (s : ByteArray) (k : Nat) (sh : Bool) (g : Nat) (w : World) (h : RdAt w g s k sh) (h1 : k ≤ s.size) (hk : s.size < k + 8) (hm : s.size ≤ 9223372036854775807) :
    Calls Try.prog 109 #[.pointer (some ⟨g, 0, none⟩)] w fun e w' => e = .returned (.float .f64 0) ∧ RdTo w w' g s k true := by
  obtain ⟨⟨c0, c1, c2⟩, f1, f2⟩ := h.cells
  have hd : decide ((s.size : Int) - (k : Int) < 8) = true := by rw [decide_eq_true_eq]; omega
  have hw0 : IntKind.i64.wrap ((s.size : Int) - (k : Int)) = (s.size : Int) - (k : Int) := IntWalk.i64_in _ (by omega)
  have HR := hide (fun n => RdTo.short h n)
  go_enter Try.func109, Try.ntmps109
  go_wp2_with fail
  go_quiet (fail)
  go_wp2_with fail
  go_ret
  exact ⟨rfl, HR.out _⟩
end Go.Proofs.Ytpgbfglfmmohdaa
