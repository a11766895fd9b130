/- The laws of dice: each of the given statements DiceRolls, DiceNext, DiceAgain, DiceWithin, DiceApart, DiceNone is walked. No condition. -/
import Derived.Test.YthjolkfbelfifaaDice
set_option linter.unusedVariables false
namespace Go.Proofs.Ythjolkfbelfifaa
open Go.RowKit Go.Deep

theorem awake04 (w : World) : Calls Try.prog 9 #[] w fun e w' => e = .returned (.bool true) ∧ Below w.heap.size w w' := by
  go_enter Try.func9, Try.ntmps9
  go_wp2_with fail
  refine (new_any _ _ _ _).mono ?_
  rintro e w1 ⟨rfl, hd1, hb1⟩
  go_wp2_with fail
  refine (next_at _ _ _ _ 6 _ hd1 (by decide) (by decide) (by unfold wrap64; rfl)).mono ?_
  rintro e w2 ⟨rfl, hd2, hg2⟩
  have hb2 := hb1.grown hg2 hb1.size (by intro k hk; injection hk with hk; omega)
  clear hb1 hg2
  go_wp2_with fail
  refine (stir_zero _).mono ?_
  rintro e w' ⟨rfl, rfl⟩
  go_wp2_with fail
  refine (rroll_any _ _ _ _).mono ?_
  rintro e w' ⟨rfl, rfl⟩
  go_wp2_with fail
  refine (rbelow_any _ _ _ (stepI_nn _ _) (stepI_lt _ _) (by decide)).mono ?_
  rintro e w' ⟨rfl, rfl⟩
  go_wp2_with fail
  refine (count_at _ _ _ _ hd2).mono ?_
  rintro e w' ⟨rfl, rfl⟩
  go_wp2_with fail
  refine (roll_any _ _ _ _).mono ?_
  rintro e w' ⟨rfl, rfl⟩
  go_wp2_with fail
  refine (rroll_any _ _ _ _).mono ?_
  rintro e w' ⟨rfl, rfl⟩
  go_wp2
  go_ret
  exact ⟨rfl, hb2⟩

theorem none_walk (n : Int) (w : World) : Calls Try.prog 8 #[.int .i64 n] w fun e w' => e = .returned (.bool true) ∧ Below w.heap.size w w' := by
  go_enter Try.func8, Try.ntmps8
  go_wp2_with fail
  refine (next_none _ _).mono ?_
  rintro e w' ⟨rfl, rfl⟩
  go_wp2_with fail
  refine (awake04 _).mono ?_
  rintro e w1 ⟨rfl, hb⟩
  go_wp2_with fail
  refine (count_none _).mono ?_
  rintro e w' ⟨rfl, rfl⟩
  go_wp2
  go_ret
  exact ⟨rfl, hb⟩

theorem within_walk (r n : Int) (w : World) (h0 : 0 ≤ r) (h1 : r ≤ 18446744073709551615) (hn : n ≤ 9223372036854775807) :
    Calls Try.prog 6 #[.int .u64 r, .int .i64 n] w fun e w' => e = .returned (.bool true) ∧ Below w.heap.size w w' := by
  have hlo := belowI_lo r n
  have hhi := belowI_hi r n
  have hz : n < 1 → belowI r n = 0 := fun h => by unfold belowI; rw [if_pos h]
  by_cases h : n < 1
  · obtain hk := hz h
    clear hz hhi hlo
    have Hk := hide hk
    clear hk
    go_enter Try.func6, Try.ntmps6
    go_wp2_with fail
    refine (below_any _ _ _ h0 h1 hn).mono ?_
    rw [Hk.out]
    rintro e w' ⟨rfl, rfl⟩
    go_wp2_with fail
    refine (awake04 _).mono ?_
    rintro e w1 ⟨rfl, hb⟩
    go_wp2
    go_ret
    exact ⟨rfl, hb⟩
  · have hh := hhi (by omega)
    clear hhi hz
    go_enter Try.func6, Try.ntmps6
    go_wp2_with fail
    refine (below_any _ _ _ h0 h1 hn).mono ?_
    rintro e w' ⟨rfl, rfl⟩
    go_wp2_with fail
    refine (awake04 _).mono ?_
    rintro e w1 ⟨rfl, hb⟩
    go_wp2
    go_ret
    exact ⟨rfl, hb⟩

theorem cells_five : Try.prog.cellsOf 25 = 6 := by kernel_rfl
theorem cells_six : Try.prog.cellsOf 38 = 6 := by kernel_rfl
theorem cells_int : Try.prog.cellsOf 3 = 1 := by kernel_rfl
section
variable {H : Type} {enc : TypeId × Value → H} {w : World} {base : Nat} {spare : Nat → Bool} {held : Bool}
theorem open_five {r : Reach} {b0 : Nat} {v : Value} {d : DataW H} {p : List MemPlace} (hv : Value.okWide Try.prog w r b0 25 v) (h : DataW.Trod enc Try.prog w base spare held 25 v d p) :
    ∃ (a b c n z : Int) (A : Option Addr) (m k : Nat) (zs : List Int), v = .agg #[.int .i64 a, .int .i64 b, .int .i64 c, .int .i64 n, .int .u64 z, .slice A m k] ∧
      (Lit.int .i64 a).wf = true ∧ (Lit.int .i64 b).wf = true ∧ (Lit.int .i64 c).wf = true ∧ (Lit.int .i64 n).wf = true ∧ (Lit.int .u64 z).wf = true ∧
      m ≤ k ∧ k ≤ maxLen ∧ zs.length = m ∧ Reads w w.heap.size 1 A m (zs.map (Value.int .i64)) ∧ (∀ z ∈ zs, (Lit.int .i64 z).wf = true) := by
  obtain ⟨v0, v1, v2, v3, v4, v5, y0, y1, y2, y3, y4, y5, f, rfl, _, _, e0, e1, e2, e3, e4, e5⟩ := open_agg6 Try.underlying25 (by kernel_rfl) cells_five hv h
  obtain ⟨a, h0, _, wa⟩ := DataW.trod_int Try.underlying3 e0
  obtain ⟨b, h1, _, wb⟩ := DataW.trod_int Try.underlying3 e1
  obtain ⟨c, h2, _, wc⟩ := DataW.trod_int Try.underlying3 e2
  obtain ⟨n, h3, _, wn⟩ := DataW.trod_int Try.underlying3 e3
  obtain ⟨z, h4, _, wz⟩ := DataW.trod_int Try.underlying22 e4
  obtain ⟨A, m, k, zs, rfl, g1, g2, g3, g4, g5⟩ := open_reads_ints Try.underlying23 Try.underlying3 cells_int e5
  injection h0 with h0
  injection h1 with h1
  injection h2 with h2
  injection h3 with h3
  injection h4 with h4
  subst h0 h1 h2 h3 h4
  exact ⟨a, b, c, n, z, A, m, k, zs, rfl, wa, wb, wc, wn, wz, g1, g2, g3, g4, g5⟩
theorem open_six {r : Reach} {b0 : Nat} {v : Value} {d : DataW H} {p : List MemPlace} (hv : Value.okWide Try.prog w r b0 38 v) (h : DataW.Trod enc Try.prog w base spare held 38 v d p) :
    ∃ (a b s q n m : Int), v = .agg #[.int .u64 a, .int .u64 b, .int .i64 s, .int .i64 q, .int .i64 n, .int .i64 m] ∧
      (Lit.int .u64 a).wf = true ∧ (Lit.int .u64 b).wf = true ∧ (Lit.int .i64 s).wf = true ∧ (Lit.int .i64 q).wf = true ∧ (Lit.int .i64 n).wf = true ∧ (Lit.int .i64 m).wf = true := by
  obtain ⟨v0, v1, v2, v3, v4, v5, y0, y1, y2, y3, y4, y5, f, rfl, _, _, e0, e1, e2, e3, e4, e5⟩ := open_agg6 Try.underlying38 (by kernel_rfl) cells_six hv h
  obtain ⟨a, h0, _, wa⟩ := DataW.trod_int Try.underlying22 e0
  obtain ⟨b, h1, _, wb⟩ := DataW.trod_int Try.underlying22 e1
  obtain ⟨c, h2, _, wc⟩ := DataW.trod_int Try.underlying3 e2
  obtain ⟨n, h3, _, wn⟩ := DataW.trod_int Try.underlying3 e3
  obtain ⟨x, h4, _, wx⟩ := DataW.trod_int Try.underlying3 e4
  obtain ⟨y, h5, _, wy⟩ := DataW.trod_int Try.underlying3 e5
  injection h0 with h0
  injection h1 with h1
  injection h2 with h2
  injection h3 with h3
  injection h4 with h4
  injection h5 with h5
  subst h0 h1 h2 h3 h4 h5
  exact ⟨a, b, c, n, x, y, rfl, wa, wb, wc, wn, wx, wy⟩
end

theorem rolls_walk (a b c n z : Int) (A : Option Addr) (m k : Nat) (w : World) (hz0 : 0 ≤ z) (hz1 : z ≤ 18446744073709551615) (hn : n ≤ 9223372036854775807) :
    Calls Try.prog 3 #[.agg #[.int .i64 a, .int .i64 b, .int .i64 c, .int .i64 n, .int .u64 z, .slice A m k]] w fun e w' => e = .returned (.bool true) ∧ Below w.heap.size w w' := by
  go_enter Try.func3, Try.ntmps3
  go_wp2
  go_quiet (fail)
  go_wp2_with fail
  refine (awake04 _).mono ?_
  rintro e w1 ⟨rfl, hb⟩
  go_wp2_with fail
  refine (stir_any _ _ hz0 hz1).mono ?_
  rintro e w' ⟨rfl, rfl⟩
  go_wp2_with fail
  refine (rstir_any _ _ hz0 hz1).mono ?_
  rintro e w' ⟨rfl, rfl⟩
  go_wp2_with fail
  refine (roll_any _ _ _ _).mono ?_
  rintro e w' ⟨rfl, rfl⟩
  go_wp2_with fail
  refine (rroll_any _ _ _ _).mono ?_
  rintro e w' ⟨rfl, rfl⟩
  go_wp2_with fail
  refine (below_any _ _ _ hz0 hz1 hn).mono ?_
  rintro e w' ⟨rfl, rfl⟩
  go_wp2_with fail
  refine (rbelow_any _ _ _ hz0 hz1 hn).mono ?_
  rintro e w' ⟨rfl, rfl⟩
  go_wp2
  go_ret
  exact ⟨rfl, below_after (below_drewN ((Below.refl _ _).alloc (Nat.le_refl _) _) _) hb⟩

theorem apart_walk (a b s q n m : Int) (w : World) (ha : 0 ≤ a) (ha' : a ≤ 18446744073709551615) (hb0 : 0 ≤ b) (hb' : b ≤ 18446744073709551615)
    (hn : -9223372036854775808 ≤ n) (hn' : n ≤ 9223372036854775807) (hm : -9223372036854775808 ≤ m) (hm' : m ≤ 9223372036854775807) :
    Calls Try.prog 7 #[.agg #[.int .u64 a, .int .u64 b, .int .i64 s, .int .i64 q, .int .i64 n, .int .i64 m]] w fun e w' => e = .returned (.bool true) ∧ Below w.heap.size w w' := by
  have e1 : (stirI a == stirI b) = (a == b) := by
    rw [Bool.eq_iff_iff, beq_iff_eq, beq_iff_eq]
    exact stirI_inj a b ha ha' hb0 hb'
  have e2 : (stepI (wordI s q) n == stepI (wordI s q) m) = (n == m) := by
    rw [Bool.eq_iff_iff, beq_iff_eq, beq_iff_eq]
    exact stepI_inj _ n m hn hn' hm hm'
  go_enter Try.func7, Try.ntmps7
  go_wp2
  go_quiet (fail)
  go_wp2_with fail
  refine (awake04 _).mono ?_
  rintro e w1 ⟨rfl, hb⟩
  go_wp2_with fail
  refine (stir_any _ _ ha ha').mono ?_
  rintro e w' ⟨rfl, rfl⟩
  go_wp2_with fail
  refine (stir_any _ _ hb0 hb').mono ?_
  rintro e w' ⟨rfl, rfl⟩
  go_wp2_with fail
  refine (roll_any _ _ _ _).mono ?_
  rintro e w' ⟨rfl, rfl⟩
  go_wp2_with fail
  refine (roll_any _ _ _ _).mono ?_
  rintro e w' ⟨rfl, rfl⟩
  go_wp2
  go_ret
  exact ⟨rfl, below_after (below_drewN ((Below.refl _ _).alloc (Nat.le_refl _) _) _) hb⟩

def NextRel (w : World) (m : Nat) (word : Int) (k i : Value) (wr : World) : Prop :=
  ∃ (j : Nat) (c : Int), j ≤ m ∧ j ≤ 60 ∧ i = .int .i64 j ∧ k = .int .i64 c ∧ DiceAt wr (w.heap.size + 1) word c ∧ Below w.heap.size w wr

theorem next_walk (a b c n z : Int) (A : Option Addr) (m k : Nat) (zs : List Int) (w : World) (hm : m ≤ 9223372036854775807) (hl : zs.length = m)
    (hr : Reads w w.heap.size 1 A m (zs.map (Value.int .i64))) (hz : ∀ z ∈ zs, (Lit.int .i64 z).wf = true) :
    Calls Try.prog 4 #[.agg #[.int .i64 a, .int .i64 b, .int .i64 c, .int .i64 n, .int .u64 z, .slice A m k]] w fun e w' => e = .returned (.bool true) ∧ Below w.heap.size w w' := by
  have Hl := hide hl
  clear hl
  go_enter Try.func4, Try.ntmps4
  go_wp2
  go_quiet (fail)
  go_wp2_with fail
  refine (new_any _ _ _ _).mono ?_
  rintro e w1 ⟨rfl, hd1, hb1⟩
  go_wp2_with fail
  refine (awake04 _).mono ?_
  rintro e w2 ⟨rfl, hb2⟩
  have hD : DiceAt w2 (w.heap.size + 1) (wordI a b) c := by
    have := hd1.below hb2 hd1.lt
    simpa using this
  have hB : Below w.heap.size w w2 := below_after (below_after (below_drewN ((Below.refl _ _).alloc (Nat.le_refl _) _) _) hb1) hb2
  clear hd1 hb1 hb2
  go_wp2
  go_loopw [8, 9] (fun k i wr => NextRel w m (wordI a b) k i wr) (fun _ i _ => m - (intOf i).toNat)
  case atStart => exact ⟨0, c, by omega, by omega, rfl, rfl, hD, hB⟩
  case round =>
    clear hD hB
    obtain ⟨j, c1, hj, hj60, rfl, rfl, hD, hB⟩ := hrel
    by_cases hlt : j < m
    · by_cases h60 : j < 60
      · have hr' := hr.below hB
        obtain ⟨ad, u, rfl, _, hu, hc⟩ := hr'.at_ hlt
        rw [List.getElem?_map] at hu
        have hjl : j < zs.length := by rw [Hl.out]; exact hlt
        rw [List.getElem?_eq_getElem hjl] at hu
        have hzb := bounds_i64 (hz zs[j] (List.getElem_mem hjl))
        generalize zs[j] = zj at hu hzb
        simp only [Option.map_some, Option.some.injEq] at hu
        subst hu
        clear hjl
        by_cases hz1 : zj < 1
        · go_wp2_with fail
          refine (next_low _ _ _ hz1).mono ?_
          rintro e w' ⟨rfl, rfl⟩
          go_wp2
          go_roundw
          case rel => exact ⟨j + 1, c1, by omega, by omega, by go_num, rfl, hD, hB⟩
          case measure => simp [intOf]; omega
        · go_wp2_with fail
          refine (next_at _ _ _ _ _ _ hD (by omega) (by omega) rfl).mono ?_
          rintro e w' ⟨rfl, hD', hg⟩
          have hB' := hB.grown hg hB.size (by intro k hk; injection hk with hk; omega)
          have hc' : w'.cell? (ad.add j) = some (.int .i64 zj) := (World.cell?_of_block (hg.block _ (by rw [block_of_add]; have := hB.size; omega) (by rw [block_of_add]; simp; omega))).trans hc
          have hn1 : ((belowI (stepI (wordI a b) c1) zj) == (belowI (stepI (wordI a b) c1) zj)) = true := by simp
          clear hc hD hB hr' hr hg
          go_wp2
          go_quiet ((first | (go_at_call 13; exact quiet_left (rroll_any _ _ _ _)) | (go_at_call 15; exact quiet_left (rbelow_any _ _ _ (stepI_nn _ _) (stepI_lt _ _) (by omega)))))
          go_wp2
          go_roundw
          case rel => exact ⟨j + 1, _, by omega, by omega, by go_num, rfl, hD', below_drewN hB' _⟩
          case measure => simp [intOf]; omega
      · go_wp2_with fail
        refine (count_at _ _ _ _ hD).mono ?_
        rintro e w' ⟨rfl, rfl⟩
        go_wp2
        go_ret
        exact ⟨rfl, hB⟩
    · go_wp2_with fail
      refine (count_at _ _ _ _ hD).mono ?_
      rintro e w' ⟨rfl, rfl⟩
      go_wp2
      go_ret
      exact ⟨rfl, hB⟩

def AgainRel (w : World) (b1 b2 : Nat) (word c y : Int) (i : Value) (wr : World) : Prop :=
  ∃ j : Nat, (j : Int) ≤ y ∧ i = .int .i64 j ∧ DiceAt wr b1 word (wrap64 (c + j)) ∧ DiceAt wr b2 word (wrap64 (c + y)) ∧ Below w.heap.size w wr
theorem wrap_wrap (a b : Int) : wrap64 (wrap64 a + b) = wrap64 (a + b) := by unfold wrap64; omega
theorem DiceAt.apart {w w' : World} {b b' : Nat} {word c : Int} (h : DiceAt w b word c) (hg : w.grownBy w' (some b')) (hne : b ≠ b') : DiceAt w' b word c :=
  Blk.grown h hg (by simpa using hne)

theorem again_walk (a b c n z : Int) (A : Option Addr) (m k : Nat) (w : World) (hc0 : -9223372036854775808 ≤ c) (hc1 : c ≤ 9223372036854775807) (hn : n ≤ 9223372036854775807) :
    Calls Try.prog 5 #[.agg #[.int .i64 a, .int .i64 b, .int .i64 c, .int .i64 n, .int .u64 z, .slice A m k]] w fun e w' => e = .returned (.bool true) ∧ Below w.heap.size w w' := by
  go_enter Try.func5, Try.ntmps5
  go_wp2
  go_quiet (fail)
  go_wp2_with fail
  refine (new_any _ _ _ _).mono ?_
  rintro e w1 ⟨rfl, hd1, hb1⟩
  go_wp2_with fail
  refine (new_any _ _ _ _).mono ?_
  rintro e w2 ⟨rfl, hd2, hb2⟩
  have hd1' := hd1.below hb2 hd1.lt
  go_wp2_with fail
  refine (awake04 _).mono ?_
  rintro e w3 ⟨rfl, hb3⟩
  have hlt1 : w.heap.size + 1 < w1.heap.size := by have := hd1.lt; simpa using this
  have hD1 : DiceAt w3 (w.heap.size + 1) (wordI a b) (wrap64 (c + (0 : Nat))) := by
    have h := hd1'.below hb3 hd1'.lt
    have e : wrap64 (c + ((0 : Nat) : Int)) = c := by unfold wrap64; omega
    rw [e]
    simpa using h
  have hD2 : DiceAt w3 w1.heap.size (wordI a b) (wrap64 (c + z % 256 % 50)) := hd2.below hb3 hd2.lt
  have hB : Below w.heap.size w w3 := below_after (below_after (below_after (below_drewN ((Below.refl _ _).alloc (Nat.le_refl _) _) _) hb1) hb2) hb3
  clear hd1 hd1' hd2 hb1 hb2 hb3
  generalize w1.heap.size = b2 at *
  have hy : 0 ≤ z % 256 % 50 ∧ z % 256 % 50 < 50 := by omega
  have hy0 : 0 ≤ z % 256 ∧ z % 256 ≤ 255 := by omega
  generalize z % 256 = y at *
  go_wp2
  go_loopw [10] (fun i wr => AgainRel w (w.heap.size + 1) b2 (wordI a b) c (y % 50) i wr) (fun i _ => (y % 50 - intOf i).toNat)
  case atStart => exact ⟨0, by omega, rfl, hD1, hD2, hB⟩
  case round =>
    clear hD1 hD2 hB
    obtain ⟨j, hj, rfl, hD1, hD2, hB⟩ := hrel
    by_cases hlt : (j : Int) < y % 50
    · have e1 : wrap64 (wrap64 (c + (j : Int)) + 1) = wrap64 (c + ((j + 1 : Nat) : Int)) := by rw [wrap_wrap]; congr 1; omega
      go_wp2_with fail
      refine (next_at _ _ _ _ _ _ hD1 (by decide) (by decide) e1).mono ?_
      clear e1
      rintro e w' ⟨rfl, hD1', hg⟩
      have hD2' := hD2.apart hg (by omega)
      have hB' := hB.grown hg hB.size (by intro k hk; injection hk with hk; omega)
      clear hD1 hD2 hB hg
      go_wp2
      go_roundw
      case rel => exact ⟨j + 1, by omega, by go_num, hD1', hD2', hB'⟩
      case measure => simp [intOf]; omega
    · have ej : (j : Int) = y % 50 := by omega
      rw [ej] at hD1
      clear ej
      by_cases hn1 : n < 1
      · go_wp2_with fail
        refine (next_low _ _ _ hn1).mono ?_
        rintro e w' ⟨rfl, rfl⟩
        go_wp2_with fail
        refine (next_low _ _ _ hn1).mono ?_
        rintro e w' ⟨rfl, rfl⟩
        go_wp2_with fail
        refine (count_at _ _ _ _ hD1).mono ?_
        rintro e w' ⟨rfl, rfl⟩
        go_wp2_with fail
        refine (count_at _ _ _ _ hD2).mono ?_
        rintro e w' ⟨rfl, rfl⟩
        go_wp2
        go_ret
        exact ⟨rfl, hB⟩
      · go_wp2_with fail
        refine (next_at _ _ _ _ _ _ hD1 (by omega) hn rfl).mono ?_
        rintro e w4 ⟨rfl, hD1', hg⟩
        have hD2' := hD2.apart hg (by omega)
        have hB' := hB.grown hg hB.size (by intro k hk; injection hk with hk; omega)
        clear hD1 hD2 hB hg
        go_wp2_with fail
        refine (next_at _ _ _ _ _ _ hD2' (by omega) hn rfl).mono ?_
        rintro e w5 ⟨rfl, hD2, hg⟩
        have hD1 := hD1'.apart hg (by omega)
        have hB := hB'.grown hg hB'.size (by intro k hk; injection hk with hk; omega)
        clear hD1' hD2' hB' hg
        go_wp2_with fail
        refine (count_at _ _ _ _ hD1).mono ?_
        rintro e w' ⟨rfl, rfl⟩
        go_wp2_with fail
        refine (count_at _ _ _ _ hD2).mono ?_
        rintro e w' ⟨rfl, rfl⟩
        go_wp2
        go_ret
        exact ⟨rfl, hB⟩
end Go.Proofs.Ythjolkfbelfifaa
