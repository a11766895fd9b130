/- The walks of package dice (and of its reference): each function computes what XDicePl says. No condition but that integers are what their kinds hold. -/
import Derived.Test.YtpfcmfannkbipaaDicePl
set_option linter.unusedVariables false
namespace Go.Proofs.Ytpfcmfannkbipaa
open Go.RowKit Go.Deep

theorem wrap64_eq (n : Int) : IntKind.i64.wrap n = wrap64 n := by
  simp [IntKind.wrap, IntKind.bits, IntKind.signed, wrap64]
  omega
theorem stir_any (z : Int) (w : World) (h0 : 0 ≤ z) (h1 : z ≤ 18446744073709551615) :
    Calls Try.prog 131 #[.int .u64 z] w fun e w' => e = .returned (.int .u64 (stirI z)) ∧ w = w' := by
  have H := hide (stir_walk z h0 h1)
  clear h0 h1
  go_enter Try.func131, Try.ntmps131
  go_wp2
  go_ret
  exact ⟨ret_int H.out, rfl⟩
theorem rstir_any (z : Int) (w : World) (h0 : 0 ≤ z) (h1 : z ≤ 18446744073709551615) :
    Calls Try.prog 135 #[.int .u64 z] w fun e w' => e = .returned (.int .u64 (stirI z)) ∧ w = w' := by
  have H := hide (rstir_walk z h0 h1)
  go_enter Try.func135, Try.ntmps135
  go_wp2
  go_ret
  exact ⟨ret_int H.out, rfl⟩
theorem step_any (z n : Int) (w : World) :
    Calls Try.prog 121 #[.int .u64 z, .int .i64 n] w fun e w' => e = .returned (.int .u64 (stepI z n)) ∧ w = w' := by
  go_enter Try.func121, Try.ntmps121
  go_wp2_with (go_at_call 131; rw [step_arg]; refine (stir_any _ _ (by omega) (by omega)).mono ?_; rintro e w' ⟨rfl, rfl⟩)
  go_ret
  exact ⟨rfl, rfl⟩

theorem wordI_eq (s p : Int) : stepI (IntKind.u64.wrap s) p = wordI s p := by rw [IntKind.wrap_u64]; rfl
theorem below_any (r n : Int) (w : World) (h0 : 0 ≤ r) (h1 : r ≤ 18446744073709551615) (hn : n ≤ 9223372036854775807) :
    Calls Try.prog 133 #[.int .u64 r, .int .i64 n] w fun e w' => e = .returned (.int .i64 (belowI r n)) ∧ w = w' := by
  by_cases h : n < 1
  · go_enter Try.func133, Try.ntmps133
    go_wp2
    go_ret
    exact ⟨ret_int (by unfold belowI; rw [if_pos h]), rfl⟩
  · have e1 : IntKind.u64.wrap n = n := by rw [IntKind.wrap_u64]; omega
    have e2 : belowI r n = r % n := by unfold belowI; rw [if_neg h]
    have h2 : 0 ≤ r % n ∧ r % n < n := ⟨Int.emod_nonneg _ (by omega), Int.emod_lt_of_pos _ (by omega)⟩
    go_enter Try.func133, Try.ntmps133
    go_wp2
    go_ret
    exact ⟨rfl, rfl⟩

/-- Dice at a block: the word, the next count. -/
def DiceAt (w : World) (b : Nat) (word count : Int) : Prop := Blk w b 166 #[.int .u64 word, .int .i64 count]

theorem new_any (s p c : Int) (w : World) :
    Calls Try.prog 114 #[.int .i64 s, .int .i64 p, .int .i64 c] w fun e w' => e = .returned (.pointer (some ⟨w.heap.size, 0, none⟩)) ∧ DiceAt w' w.heap.size (wordI s p) c ∧ Below w.heap.size w w' := by
  have H := hide (wordI_eq s p)
  go_enter Try.func114, Try.ntmps114
  go_wp2_with (go_at_call 121; refine (step_any _ _ _).mono ?_; rintro e w' ⟨rfl, rfl⟩)
  go_ret
  exact ⟨rfl, by rw [H.out]; exact Blk.new _ _ _, (Below.refl _ _).alloc (Nat.le_refl _) _⟩

theorem roll_at (b : Nat) (word c : Int) (w : World) (h : DiceAt w b word c) :
    Calls Try.prog 132 #[.pointer (some ⟨b, 0, none⟩)] w fun e w' => e = .returned (.int .u64 (stepI word c)) ∧ ∃ k, w' = (w.drewN k).setCell ⟨b, 1, none⟩ (.int .i64 (wrap64 (c + 1))) := by
  have c0 : w.cell? ⟨b, 0, none⟩ = some (.int .u64 word) := by simpa using h.cell 0
  have c1 : w.cell? ⟨b, 1, none⟩ = some (.int .i64 c) := by simpa using h.cell 1
  have hf := h.frozen 1
  go_enter Try.func132, Try.ntmps132
  go_wp2
  go_quiet ((go_at_call 121; exact quiet_left (step_any _ _ _)))
  go_wp2
  go_ret
  exact ⟨rfl, _, rfl⟩
theorem next_none (n : Int) (w : World) :
    Calls Try.prog 123 #[.pointer none, .int .i64 n] w fun e w' => e = .returned (.tuple #[.int .i64 0, .bool false]) ∧ w = w' := by
  go_enter Try.func123, Try.ntmps123
  go_wp2
  go_ret2
  exact ⟨rfl, rfl⟩
theorem count_none (w : World) :
    Calls Try.prog 102 #[.pointer none] w fun e w' => e = .returned (.int .i64 0) ∧ w = w' := by
  go_enter Try.func102, Try.ntmps102
  go_wp2
  go_ret
  exact ⟨rfl, rfl⟩
theorem count_at (b : Nat) (word c : Int) (w : World) (h : DiceAt w b word c) :
    Calls Try.prog 102 #[.pointer (some ⟨b, 0, none⟩)] w fun e w' => e = .returned (.int .i64 c) ∧ w = w' := by
  have c1 : w.cell? ⟨b, 1, none⟩ = some (.int .i64 c) := by simpa using h.cell 1
  go_enter Try.func102, Try.ntmps102
  go_wp2
  go_ret
  exact ⟨rfl, rfl⟩
theorem next_low (b : Nat) (n : Int) (w : World) (hn : n < 1) :
    Calls Try.prog 123 #[.pointer (some ⟨b, 0, none⟩), .int .i64 n] w fun e w' => e = .returned (.tuple #[.int .i64 0, .bool false]) ∧ w = w' := by
  go_enter Try.func123, Try.ntmps123
  go_wp2
  go_ret2
  exact ⟨rfl, rfl⟩
theorem DiceAt.rolled {w : World} {b : Nat} {word c d : Int} (h : DiceAt w b word c) (k : Nat) : DiceAt ((w.drewN k).setCell ⟨b, 1, none⟩ (.int .i64 d)) b word d := by
  have := (Blk.drewN h k).set_ 1 (.int .i64 d)
  simpa [DiceAt] using this
theorem next_at (b : Nat) (word c n c' : Int) (w : World) (h : DiceAt w b word c) (hn : 1 ≤ n) (hm : n ≤ 9223372036854775807) (hc : wrap64 (c + 1) = c') :
    Calls Try.prog 123 #[.pointer (some ⟨b, 0, none⟩), .int .i64 n] w fun e w' => e = .returned (.tuple #[.int .i64 (belowI (stepI word c) n), .bool true]) ∧ DiceAt w' b word c' ∧ w.grownBy w' (some b) := by
  have Hc := hide hc
  clear hc
  go_enter Try.func123, Try.ntmps123
  go_wp2_with fail
  refine (roll_at b word c _ h).mono ?_
  rintro e w' ⟨rfl, hw⟩
  go_wp2_with fail
  refine (below_any _ _ _ (stepI_nn _ _) (stepI_lt _ _) hm).mono ?_
  rintro e w' ⟨rfl, rfl⟩
  go_wp2
  go_ret2
  obtain ⟨k, rfl⟩ := hw
  exact ⟨rfl, by rw [← Hc.out]; exact h.rolled k, only_setCell (only_drewN (World.grownBy.refl w _) k) (.inl rfl) _⟩
theorem DiceAt.below {w w' : World} {b : Nat} {word c : Int} {B : Nat} (h : DiceAt w b word c) (hb : Below B w w') (hB : b < B) : DiceAt w' b word c := Blk.below h hb hB
theorem DiceAt.lt {w : World} {b : Nat} {word c : Int} (h : DiceAt w b word c) : b < w.heap.size := Blk.lt h
theorem stir_zero (w : World) : Calls Try.prog 131 #[.int .u64 0] w fun e w' => e = .returned (.int .u64 0) ∧ w = w' :=
  (stir_any 0 w (by decide) (by decide)).mono fun e w' ⟨h1, h2⟩ => ⟨by rw [h1]; rfl, h2⟩
theorem rword_any (s p : Int) (w : World) :
    Calls Try.prog 136 #[.int .i64 s, .int .i64 p] w fun e w' => e = .returned (.int .u64 (wordI s p)) ∧ w = w' := by
  have H := hide (wordI_eq s p)
  go_enter Try.func136, Try.ntmps136
  go_wp2_with (go_at_call 135; rw [step_arg]; refine (rstir_any _ _ (by omega) (by omega)).mono ?_; rintro e w' ⟨rfl, rfl⟩)
  go_ret
  exact ⟨by rw [← H.out]; rfl, rfl⟩
theorem rroll_any (s p c : Int) (w : World) :
    Calls Try.prog 128 #[.int .i64 s, .int .i64 p, .int .i64 c] w fun e w' => e = .returned (.int .u64 (stepI (wordI s p) c)) ∧ w = w' := by
  go_enter Try.func128, Try.ntmps128
  go_wp2_with fail
  refine (rword_any _ _ _).mono ?_
  rintro e w' ⟨rfl, rfl⟩
  go_wp2_with fail
  rw [step_arg]
  refine (rstir_any _ _ (by omega) (by omega)).mono ?_
  rintro e w' ⟨rfl, rfl⟩
  go_wp2
  go_ret
  exact ⟨rfl, rfl⟩
theorem rbelow_any (r n : Int) (w : World) (h0 : 0 ≤ r) (h1 : r ≤ 18446744073709551615) (hn : n ≤ 9223372036854775807) :
    Calls Try.prog 127 #[.int .u64 r, .int .i64 n] w fun e w' => e = .returned (.int .i64 (belowI r n)) ∧ w = w' := by
  by_cases h : n < 1
  · go_enter Try.func127, Try.ntmps127
    go_wp2
    go_ret
    exact ⟨ret_int (by unfold belowI; rw [if_pos h]), rfl⟩
  · have e1 : IntKind.u64.wrap n = n := by rw [IntKind.wrap_u64]; omega
    have e2 : belowI r n = r % n := by unfold belowI; rw [if_neg h]
    have h2 : 0 ≤ r % n ∧ r % n < n := ⟨Int.emod_nonneg _ (by omega), Int.emod_lt_of_pos _ (by omega)⟩
    have e3 := below_ref r n h0 (by omega)
    go_enter Try.func127, Try.ntmps127
    go_wp2
    go_ret
    refine ⟨ret_int ?_, rfl⟩
    have h3 : r % n ≤ r := emod_le_self_aux r n h0 (by omega)
    generalize r / n * n = q at *
    rw [IntKind.wrap_u64, IntKind.wrap_u64]
    unfold wrap64
    omega
end Go.Proofs.Ytpfcmfannkbipaa
