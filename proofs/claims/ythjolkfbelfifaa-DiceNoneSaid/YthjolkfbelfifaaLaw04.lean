/- The laws of dice: each of the given statements DiceRolls, DiceNext, DiceAgain, DiceWithin, DiceApart, DiceNone is walked. No condition. -/
import Derived.Test.YthjolkfbelfifaaDice
set_option linter.unusedVariables false
namespace Go.Proofs.Ythjolkfbelfifaa
open Go.RowKit Go.Deep

theorem awake04 (w : World) : Calls Try.prog 9 #[] w fun e w' => e = .returned (.bool true) ∧ Below w.heap.size w w' := by
  go_enter Try.func9, Try.ntmps9
  go_wp2_with fail
  refine (new_any _ _ _ _).mono ?_
  rintro e w1 ⟨rfl, hd1, hb1⟩
  go_wp2_with fail
  refine (next_at _ _ _ _ 6 _ hd1 (by decide) (by decide) (by unfold wrap64; rfl)).mono ?_
  rintro e w2 ⟨rfl, hd2, hg2⟩
  have hb2 := hb1.grown hg2 hb1.size (by intro k hk; injection hk with hk; omega)
  clear hb1 hg2
  go_wp2_with fail
  refine (stir_zero _).mono ?_
  rintro e w' ⟨rfl, rfl⟩
  go_wp2_with fail
  refine (rroll_any _ _ _ _).mono ?_
  rintro e w' ⟨rfl, rfl⟩
  go_wp2_with fail
  refine (rbelow_any _ _ _ (stepI_nn _ _) (stepI_lt _ _) (by decide)).mono ?_
  rintro e w' ⟨rfl, rfl⟩
  go_wp2_with fail
  refine (count_at _ _ _ _ hd2).mono ?_
  rintro e w' ⟨rfl, rfl⟩
  go_wp2_with fail
  refine (roll_any _ _ _ _).mono ?_
  rintro e w' ⟨rfl, rfl⟩
  go_wp2_with fail
  refine (rroll_any _ _ _ _).mono ?_
  rintro e w' ⟨rfl, rfl⟩
  go_wp2
  go_ret
  exact ⟨rfl, hb2⟩

theorem none_walk (n : Int) (w : World) : Calls Try.prog 8 #[.int .i64 n] w fun e w' => e = .returned (.bool true) ∧ Below w.heap.size w w' := by
  go_enter Try.func8, Try.ntmps8
  go_wp2_with fail
  refine (next_none _ _).mono ?_
  rintro e w' ⟨rfl, rfl⟩
  go_wp2_with fail
  refine (awake04 _).mono ?_
  rintro e w1 ⟨rfl, hb⟩
  go_wp2_with fail
  refine (count_none _).mono ?_
  rintro e w' ⟨rfl, rfl⟩
  go_wp2
  go_ret
  exact ⟨rfl, hb⟩

theorem within_walk (r n : Int) (w : World) (h0 : 0 ≤ r) (h1 : r ≤ 18446744073709551615) (hn : n ≤ 9223372036854775807) :
    Calls Try.prog 6 #[.int .u64 r, .int .i64 n] w fun e w' => e = .returned (.bool true) ∧ Below w.heap.size w w' := by
  have hlo := belowI_lo r n
  have hhi := belowI_hi r n
  have hz : n < 1 → belowI r n = 0 := fun h => by unfold belowI; rw [if_pos h]
  by_cases h : n < 1
  · obtain hk := hz h
    clear hz hhi hlo
    have Hk := hide hk
    clear hk
    go_enter Try.func6, Try.ntmps6
    go_wp2_with fail
    refine (below_any _ _ _ h0 h1 hn).mono ?_
    rw [Hk.out]
    rintro e w' ⟨rfl, rfl⟩
    go_wp2_with fail
    refine (awake04 _).mono ?_
    rintro e w1 ⟨rfl, hb⟩
    go_wp2
    go_ret
    exact ⟨rfl, hb⟩
  · have hh := hhi (by omega)
    clear hhi hz
    go_enter Try.func6, Try.ntmps6
    go_wp2_with fail
    refine (below_any _ _ _ h0 h1 hn).mono ?_
    rintro e w' ⟨rfl, rfl⟩
    go_wp2_with fail
    refine (awake04 _).mono ?_
    rintro e w1 ⟨rfl, hb⟩
    go_wp2
    go_ret
    exact ⟨rfl, hb⟩
end Go.Proofs.Ythjolkfbelfifaa
