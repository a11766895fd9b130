/- Texts of this claim in one. No condition. -/
import Derived.Test.YtpfcmfannkbipaaJ31
import Derived.Test.YtpfcmfannkbipaaJ30
import Derived.Test.YtpfcmfannkbipaaJ32
import Derived.Test.YtpfcmfannkbipaaJ35
import Derived.Test.YtpfcmfannkbipaaJ38
import Derived.ChangeKeysEq
section
set_option linter.unusedVariables false
set_option linter.unusedSimpArgs false
set_option maxRecDepth 20000
namespace Go.Proofs.Ytpfcmfannkbipaa
open Go.RowKit Go.Deep

attribute [local go_sem] run_store_float
theorem ech_i (n : Int) (h1 : 0 ≤ n) (h2 : n ≤ 100) : I64 n := ⟨by omega, by omega⟩
theorem at_two {α : Type} {d : Dec α} {size : Nat} {w : World} {g : Nat} {x y : α} (h : d w ⟨g, 0, none⟩ x) (h' : d w ⟨g, size, none⟩ y) : Sl.At d size w ⟨some ⟨g, 0, none⟩, 2, [x, y]⟩ := by
  refine ⟨fun i z hz => ⟨_, rfl, ?_⟩, Nat.le_refl 2, by simp only; omega⟩
  rw [add_lit]
  rcases i with _ | _ | i
  · have e : x = z := by simpa using hz
    subst e
    simpa using h
  · have e : y = z := by simpa using hz
    subst e
    simpa using h'
  · simp at hz
theorem ech_one {α : Type} {d : Dec α} {size : Nat} {w : World} {g : Nat} {x : α} (h : d w ⟨g, 0, none⟩ x) : Sl.At d size w ⟨some ⟨g, 0, none⟩, 1, [x]⟩ := by
  refine ⟨fun i y hy => ⟨_, rfl, ?_⟩, Nat.le_refl 1, by simp only; omega⟩
  rcases i with _ | i
  · have e : x = y := by simpa using hy
    subst e
    rw [add_lit]
    simpa using h
  · simp at hy
theorem ec_at {w : World} {g : Nat} (b0 : Blk w (g) 142 #[.int .i64 1, .int .i64 5, .int .i64 1, .int .i64 0, .int .i64 12, .int .i64 5, .int .i64 6, .int .i64 0])
    (b1 : Blk w (g + 1) 142 #[.int .i64 13, .int .i64 4, .int .i64 5, .int .i64 0, .int .i64 3, .int .i64 4, .int .i64 4, .int .i64 0, .int .i64 14, .int .i64 5, .int .i64 4, .int .i64 0])
    (b2 : Blk w (g + 1 + 1) 27 #[.float .f64 4607182418800017408])
    (b3 : Blk w (g + 1 + 1 + 1) 118 #[.slice (some ⟨g, 0, none⟩) 2 2, .slice (some ⟨g + 1, 0, none⟩) 3 3])
    (b4 : Blk w (g + 1 + 1 + 1 + 1) 3 #[.int .i64 0])
    (b5 : Blk w (g + 1 + 1 + 1 + 1 + 1) 120 #[.int .i64 0, .slice none 0 0, .int .i64 1, .slice (some ⟨g + 1 + 1 + 1 + 1, 0, none⟩) 1 1])
    (b6 : Blk w (g + 1 + 1 + 1 + 1 + 1 + 1) 125 #[.float .f64 4617315517961601024, .int .i64 0, .int .i64 5, .float .f64 4613937818241073152, .int .i64 0, .int .i64 3]) : (ecM g).At w := by
  have I := ech_i
  have hp : Sl.At InsAt 4 w ⟨some ⟨g, 0, none⟩, 2, ecP⟩ := at_two ⟨b0.cell 0, b0.cell 1, b0.cell 2, b0.cell 3, I _ (by decide) (by decide), I _ (by decide) (by decide), I _ (by decide) (by decide), I _ (by decide) (by decide)⟩ ⟨b0.cell 4, b0.cell 5, b0.cell 6, b0.cell 7, I _ (by decide) (by decide), I _ (by decide) (by decide), I _ (by decide) (by decide), I _ (by decide) (by decide)⟩
  have hq : Sl.At InsAt 4 w ⟨some ⟨g + 1, 0, none⟩, 3, ecQ⟩ := by
    refine ⟨fun i x hx => ⟨_, rfl, ?_⟩, Nat.le_refl 3, by simp only; omega⟩
    have hi4 : i < 3 := (List.getElem?_eq_some_iff.1 hx).1
    rw [add_lit]
    rcases (by omega : i = 0 ∨ i = 1 ∨ i = 2) with rfl | rfl | rfl
    · obtain rfl : ((13, 4, 5, 0) : Ins4) = x := Option.some.inj hx
      exact ⟨b1.cell 0, b1.cell 1, b1.cell 2, b1.cell 3, I _ (by decide) (by decide), I _ (by decide) (by decide), I _ (by decide) (by decide), I _ (by decide) (by decide)⟩
    · obtain rfl : ((3, 4, 4, 0) : Ins4) = x := Option.some.inj hx
      exact ⟨b1.cell 4, b1.cell 5, b1.cell 6, b1.cell 7, I _ (by decide) (by decide), I _ (by decide) (by decide), I _ (by decide) (by decide), I _ (by decide) (by decide)⟩
    · obtain rfl : ((14, 5, 4, 0) : Ins4) = x := Option.some.inj hx
      exact ⟨b1.cell 8, b1.cell 9, b1.cell 10, b1.cell 11, I _ (by decide) (by decide), I _ (by decide) (by decide), I _ (by decide) (by decide), I _ (by decide) (by decide)⟩
  have h0 : Sl.At IntAt 1 w ⟨none, 0, []⟩ := ⟨fun i x hx => by simp at hx, Nat.le_refl 0, by simp⟩
  exact ⟨I 0 (by decide) (by decide), (by decide : 4626322717216342016 < 18446744073709551616), ech_one ⟨b2.cell 0, by decide⟩, at_two ⟨b3.cell 0, hp⟩ ⟨b3.cell 1, hq⟩,
    at_two ⟨b5.cell 0, b5.cell 1, I 0 (by decide) (by decide), h0⟩ ⟨b5.cell 2, b5.cell 3, I 1 (by decide) (by decide), ech_one ⟨b4.cell 0, I _ (by decide) (by decide)⟩⟩,
    at_two ⟨b6.cell 0, b6.cell 1, b6.cell 2, by decide, I _ (by decide) (by decide), I _ (by decide) (by decide)⟩ ⟨b6.cell 3, b6.cell 4, b6.cell 5, by decide, I _ (by decide) (by decide), I _ (by decide) (by decide)⟩⟩
def EcTo (w : World) (e : Ending) (w' : World) : Prop := e = .returned (ecM (w.heap.size + 1)).val ∧ (ecM (w.heap.size + 1)).At w' ∧ Below w.heap.size w w'
set_option maxHeartbeats 1000000 in
theorem echo_any (w : World) : Calls Try.prog 65 #[] w (EcTo w) := by
  have hP := fun W (h1 : (ecM (w.heap.size + 1)).At W) (h2 : Below w.heap.size w W) => (show EcTo w (.returned (.agg #[.int .i64 0, .float .f64 4626322717216342016, .slice (some ⟨w.heap.size + 1 + 1 + 1, 0, none⟩) 1 1, .slice (some ⟨w.heap.size + 1 + 1 + 1 + 1, 0, none⟩) 2 2, .slice (some ⟨w.heap.size + 1 + 1 + 1 + 1 + 1 + 1, 0, none⟩) 2 2, .slice (some ⟨w.heap.size + 1 + 1 + 1 + 1 + 1 + 1 + 1, 0, none⟩) 2 2])) W from ⟨rfl, h1, h2⟩)
  generalize EcTo w = Post at *
  have HP := hide hP
  clear hP
  go_enter Try.func65, Try.ntmps65
  go_wp2_with fail
  refine bodyPost_ret (v := .agg #[.int .i64 0, .float .f64 4626322717216342016, .slice (some ⟨w.heap.size + 1 + 1 + 1, 0, none⟩) 1 1, .slice (some ⟨w.heap.size + 1 + 1 + 1 + 1, 0, none⟩) 2 2, .slice (some ⟨w.heap.size + 1 + 1 + 1 + 1 + 1 + 1, 0, none⟩) 2 2, .slice (some ⟨w.heap.size + 1 + 1 + 1 + 1 + 1 + 1 + 1, 0, none⟩) 2 2]) (by simp [results, Try.results65, go_sem]) rfl ?_
  have hb := allocs_below [(#[.int .i64 0, .float .f64 4626322717216342016, .slice (some ⟨w.heap.size + 1 + 1 + 1, 0, none⟩) 1 1, .slice (some ⟨w.heap.size + 1 + 1 + 1 + 1, 0, none⟩) 2 2, .slice (some ⟨w.heap.size + 1 + 1 + 1 + 1 + 1 + 1, 0, none⟩) 2 2, .slice (some ⟨w.heap.size + 1 + 1 + 1 + 1 + 1 + 1 + 1, 0, none⟩) 2 2], 58), (#[.int .i64 1, .int .i64 5, .int .i64 1, .int .i64 0, .int .i64 12, .int .i64 5, .int .i64 6, .int .i64 0], 142), (#[.int .i64 13, .int .i64 4, .int .i64 5, .int .i64 0, .int .i64 3, .int .i64 4, .int .i64 4, .int .i64 0, .int .i64 14, .int .i64 5, .int .i64 4, .int .i64 0], 142), (#[.float .f64 4607182418800017408], 27), (#[.slice (some ⟨w.heap.size + 1, 0, none⟩) 2 2, .slice (some ⟨w.heap.size + 1 + 1, 0, none⟩) 3 3], 118), (#[.int .i64 0], 3), (#[.int .i64 0, .slice none 0 0, .int .i64 1, .slice (some ⟨w.heap.size + 1 + 1 + 1 + 1 + 1, 0, none⟩) 1 1], 120), (#[.float .f64 4617315517961601024, .int .i64 0, .int .i64 5, .float .f64 4613937818241073152, .int .i64 0, .int .i64 3], 125)] w
  have hB := allocs_blk [(#[.int .i64 0, .float .f64 4626322717216342016, .slice (some ⟨w.heap.size + 1 + 1 + 1, 0, none⟩) 1 1, .slice (some ⟨w.heap.size + 1 + 1 + 1 + 1, 0, none⟩) 2 2, .slice (some ⟨w.heap.size + 1 + 1 + 1 + 1 + 1 + 1, 0, none⟩) 2 2, .slice (some ⟨w.heap.size + 1 + 1 + 1 + 1 + 1 + 1 + 1, 0, none⟩) 2 2], 58), (#[.int .i64 1, .int .i64 5, .int .i64 1, .int .i64 0, .int .i64 12, .int .i64 5, .int .i64 6, .int .i64 0], 142), (#[.int .i64 13, .int .i64 4, .int .i64 5, .int .i64 0, .int .i64 3, .int .i64 4, .int .i64 4, .int .i64 0, .int .i64 14, .int .i64 5, .int .i64 4, .int .i64 0], 142), (#[.float .f64 4607182418800017408], 27), (#[.slice (some ⟨w.heap.size + 1, 0, none⟩) 2 2, .slice (some ⟨w.heap.size + 1 + 1, 0, none⟩) 3 3], 118), (#[.int .i64 0], 3), (#[.int .i64 0, .slice none 0 0, .int .i64 1, .slice (some ⟨w.heap.size + 1 + 1 + 1 + 1 + 1, 0, none⟩) 1 1], 120), (#[.float .f64 4617315517961601024, .int .i64 0, .int .i64 5, .float .f64 4613937818241073152, .int .i64 0, .int .i64 3], 125)] w
  exact HP.out _ (ec_at (hB 1 _ rfl) (hB 2 _ rfl) (hB 3 _ rfl) (hB 4 _ rfl) (hB 5 _ rfl) (hB 6 _ rfl) (hB 7 _ rfl)) hb
theorem ec_run (g : Nat) : (run9 (ecM g) 9 (new9 (ecM g))).2.2 = ecL := by rw [(ec_con g).run9, (ec_con g).new9]; exact ec_run0
theorem take_at {α : Type} {d : Dec α} {size : Nat} {w : World} {s : Sl α} (h : s.At d size w) (k : Nat) : Sl.At d size w ⟨s.A, s.c, s.L.take k⟩ := by
  obtain ⟨hr, hn, hc⟩ := h
  refine ⟨fun i x hx => ?_, by simp only [List.length_take]; omega, hc⟩
  simp only [List.getElem?_take] at hx
  split at hx
  · exact hr i x hx
  · cases hx
theorem ec_sum : sumR ecL = #[.int .i64 4, .int .i64 0, .int .i64 2, .int .i64 2, .int .i64 0, .int .i64 0, .int .i64 0, .int .i64 0, .float .f64 4613937818241073152, .float .f64 4618441417868443648, .bool true] := by
  have h1 : cntI badP ecL ecL.length = 0 := by decide +kernel
  have h2 : cntI (ofP 0) ecL ecL.length = 2 := by decide +kernel
  have h3 : cntI (ofP 1) ecL ecL.length = 2 := by decide +kernel
  have h4 : cntI (ofP 2) ecL ecL.length = 0 := by decide +kernel
  have h5 : cntI (ofP 3) ecL ecL.length = 0 := by decide +kernel
  have h6 : cntI (ofP 4) ecL ecL.length = 0 := by decide +kernel
  have h7 : cntI (ofP 5) ecL ecL.length = 0 := by decide +kernel
  have h8 : ordUp ecL ecL.length = true := by decide +kernel
  have h9 : lasT ecL ecL.length = 4618441417868443648 := by decide +kernel
  unfold sumR sumC
  rw [h1, h2, h3, h4, h5, h6, h7, h8, h9]
  rfl
theorem ec_dif : difP ecL (ecL.take 3) 0 = 3 := by decide +kernel
theorem ec_dif2 : difP ecL ecL 0 = -1 := by decide +kernel
theorem ec_mrg : (mrgP [ecL, ecL]).length = 8 := by decide +kernel
set_option maxHeartbeats 2000000 in
theorem awake34 (w : World) : Calls Try.prog 21 #[] w fun e w' => e = .returned (.bool true) ∧ Below w.heap.size w w' := by
  have f3 := fo_self 4613937818241073152 (by decide)
  have f6 := fo_self 4618441417868443648 (by decide)
  go_enter Try.func21, Try.ntmps21
  go_wp2_with fail
  refine (echo_any _).mono ?_
  rintro e w1 ⟨rfl, hA, hb1⟩
  have HO := hide (of9_any (ecM (w.heap.size + 1)) 9 w1 hA (ec_chk _) (by decide))
  clear hA
  go_wp2_with fail
  refine HO.out.mono ?_
  rintro e w2 ⟨D, rfl, hD, hA, hb2⟩
  rw [ec_run] at hD
  obtain ⟨A, c, L⟩ := D
  simp only at hD
  subst hD
  have HB := hide (below_after hb1 hb2)
  have hc := hA.2
  have hl : ecL.length = 4 := rfl
  have HS := hide (sum34_any ⟨A, c, ecL⟩ w2 hA (by rw [hl]; omega))
  clear hb1 hb2 HO
  simp only [hl] at hc
  have HA := hide hA
  clear hA
  unfold Sl.val at HS ⊢
  simp only [hl] at HS ⊢
  go_wp2_with fail
  refine HS.out.mono ?_
  rintro e w3 ⟨rfl, hb3⟩
  simp only
  rw [ec_sum]
  have ha := (Below.refl w3.heap.size w3).alloc (Nat.le_refl _) (.cells #[.int .i64 4, .int .i64 0, .int .i64 2, .int .i64 2, .int .i64 0, .int .i64 0, .int .i64 0, .int .i64 0, .float .f64 4613937818241073152, .float .f64 4618441417868443648, .bool true] 29)
  have hX := Blk.new w3 29 #[.int .i64 4, .int .i64 0, .int .i64 2, .int .i64 2, .int .i64 0, .int .i64 0, .int .i64 0, .int .i64 0, .float .f64 4613937818241073152, .float .f64 4618441417868443648, .bool true]
  have hb4 := below_after hb3 ha
  have HA4 := hide (HA.out.below DnB.keeps hb4)
  have HB4 := hide (below_after HB.out hb4)
  clear HS HA HB hb3 ha hb4
  go_upto_region 3 with fail
  generalize World.alloc w3 _ = w4 at *
  generalize w3.heap.size = g at *
  have c0 := hX.cell 0
  have c2 := hX.cell 2
  have c3 := hX.cell 3
  have c8 := hX.cell 8
  have c9 := hX.cell 9
  have c10 := hX.cell 10
  simp only [List.getElem?_toArray, List.getElem?_cons_zero, List.getElem?_cons_succ] at c0 c2 c3 c8 c9 c10
  have HD1 := hide (differ34_any ⟨A, c, ecL⟩ ⟨A, c, ecL.take 3⟩ w4 HA4.out (take_at HA4.out 3))
  rw [show (⟨A, c, ecL⟩ : Sl Dn).val = .slice A 4 c from rfl, show (⟨A, c, ecL.take 3⟩ : Sl Dn).val = .slice A 3 c from rfl, ec_dif] at HD1
  go_wp2_with fail
  refine HD1.out.mono ?_
  rintro e w5 ⟨rfl, hb5⟩
  have HA5 := hide (HA4.out.below DnB.keeps hb5)
  have HB5 := hide (below_after HB4.out hb5)
  have HD2 := hide (differ34_any ⟨A, c, ecL⟩ ⟨A, c, ecL⟩ w5 HA5.out HA5.out)
  rw [show (⟨A, c, ecL⟩ : Sl Dn).val = .slice A 4 c from rfl, ec_dif2] at HD2
  clear c0 c2 c3 c8 c9 c10 hX hb5 HD1
  go_wp2_with fail
  refine HD2.out.mono ?_
  rintro e w6 ⟨rfl, hb6⟩
  have HB6 := hide (below_after HB5.out hb6)
  have ha := (Below.refl w6.heap.size w6).alloc (Nat.le_refl _) (.cells #[.slice A 4 c, .slice A 4 c] 22)
  have hX := Blk.new w6 22 #[.slice A 4 c, .slice A 4 c]
  have hA7 := HA5.out.below DnB.keeps (below_after hb6 ha)
  have HM := hide (merge34_any ⟨some ⟨w6.heap.size, 0, none⟩, 2, [⟨A, c, ecL⟩, ⟨A, c, ecL⟩]⟩ _ (at_two (d := SlAt DnB 6) ⟨hX.cell 0, hA7⟩ ⟨hX.cell 1, hA7⟩) (show 2 ≤ 1000000 by decide) (show Mrg.total [ecL, ecL] ≤ 1000000 by decide +kernel))
  have HB7 := hide (below_after HB6.out ha)
  clear hb6 ha hX hA7 HD2
  go_wp2_with fail
  refine HM.out.mono ?_
  rintro e w8 ⟨q, rfl, hq, _, hb8⟩
  have hq8 : q.L.length = 8 := by rw [hq]; exact ec_mrg
  have HB8 := hide (below_after HB7.out hb8)
  unfold Sl.val
  clear hq hb8
  go_wp2_with fail
  go_ret
  exact ⟨rfl, HB8.out⟩
end Go.Proofs.Ytpfcmfannkbipaa
end

section
set_option linter.unusedVariables false
set_option linter.unusedSimpArgs false
set_option maxRecDepth 20000
namespace Go.Proofs.Ytpfcmfannkbipaa
open Go.RowKit Go.Deep

theorem cells34_int : Try.prog.cellsOf 3 = 1 := by kernel_rfl
theorem eq6_run (a b c d e f : Int) (w : World) : (Op.equalIn 10000 26 (.agg #[.int .i64 a, .int .i64 b, .int .i64 c, .int .i64 d, .int .i64 e, .int .i64 f]) (.agg #[.int .i64 a, .int .i64 b, .int .i64 c, .int .i64 d, .int .i64 e, .int .i64 f])).run Try.prog w = .ok true w := by
  obtain ⟨i, hi, _⟩ := info_parts inf8_int
  rw [run_equalIn_array (d := 9999) (hu := Try.underlying26) (hi := hi), cells34_int, show List.range 6 = [0, 1, 2, 3, 4, 5] from rfl]
  simp only [Op.eqItems]
  go_simp
theorem eq8_run (a b c d e f g h : Int) (w : World) : (Op.equalIn 10000 47 (.agg #[.int .i64 a, .int .i64 b, .int .i64 c, .int .i64 d, .int .i64 e, .int .i64 f, .int .i64 g, .int .i64 h]) (.agg #[.int .i64 a, .int .i64 b, .int .i64 c, .int .i64 d, .int .i64 e, .int .i64 f, .int .i64 g, .int .i64 h])).run Try.prog w = .ok true w := by
  obtain ⟨i, hi, _⟩ := info_parts inf8_int
  rw [run_equalIn_array (d := 9999) (hu := Try.underlying47) (hi := hi), cells34_int, show List.range 8 = [0, 1, 2, 3, 4, 5, 6, 7] from rfl]
  simp only [Op.eqItems]
  go_simp
theorem field_sum (n c0 c1 c2 c3 c4 c5 c6 : Int) (t u : Nat) (o : Bool) (w : World) : (Instr.field 29 (.agg #[.int .i64 n, .int .i64 c0, .int .i64 c1, .int .i64 c2, .int .i64 c3, .int .i64 c4, .int .i64 c5, .int .i64 c6, .float .f64 t, .float .f64 u, .bool o]) 5).run Try.prog w = .ok (.bool o) w := by kernel_rfl
end Go.Proofs.Ytpfcmfannkbipaa
end
