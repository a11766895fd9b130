/- The walk of R20's Key. No condition but that the event may be. Printed by wip/tools/rec3.py. -/
import Derived.Test.YtpgbfglfmmohdaaAw20
import Derived.Test.YtpgbfglfmmohdaaTreM
set_option linter.unusedVariables false
set_option linter.unusedSimpArgs false
set_option maxRecDepth 20000
namespace Go.Proofs.Ytpgbfglfmmohdaa
open Go.RowKit Go.Deep

attribute [local go_sem] run_store_float
theorem add_zero_addr (a : Addr) : a.add 0 = a := by unfold Addr.add; simp
theorem conv_one (n : Int) (h0 : 0 ≤ n) (h1 : n ≤ 255) (X : World) (g : Nat) (h : X.cell? ⟨g, 0, none⟩ = some (.int .u8 n)) : (convert 82 9 (.slice (some ⟨g, 0, none⟩) 1 1)).run Try.prog X = .ok (.string (oneS n)) X := by
  have hr := run_convert_bytes_back (P := Try.prog) X 82 9 5 ⟨g, 0, none⟩ 1 [UInt8.ofNat n.toNat] Try.underlying82 Try.underlying5 Try.underlying9 (fun j hj => by
    have e : j = 0 := by simpa using hj
    subst e
    rw [add_zero_addr, h]
    simp only [List.getElem_cons_zero, Option.some.injEq, Value.int.injEq, true_and]
    rw [UInt8.toNat_ofNat']
    omega)
  exact hr
theorem keepc {w w' : World} {p : Addr} {v : Value} (hb : Below w.heap.size w w') (h : w.cell? p = some v) : w'.cell? p = some v := (hb.cell (cell_lt h)).trans h
theorem byte_new (X : World) (n : Int) : (X.alloc (.cells #[.int .u8 n] 5)).cell? ⟨X.heap.size, 0, none⟩ = some (.int .u8 n) := (Blk.new X 5 #[.int .u8 n]).cell 0
theorem byte_new' (X : World) (n : Int) : (X.alloc (.cells #[.int .u8 n] 5)).drew.cell? ⟨X.heap.size, 0, none⟩ = some (.int .u8 n) := byte_new X n
set_option maxHeartbeats 8000000 in
theorem rkey20_any (t : Nat) (s n d p : Int) (w : World) (ht : t < 18446744073709551616) (hr : rightE t s n d = true) : Calls Try.prog 64 #[.agg #[.float .f64 t, .int .i64 s, .int .i64 n, .int .i64 d, .int .i64 p]] w fun e w' => e = .returned (.string (keyR t s n p)) ∧ Below w.heap.size w w' := by
  obtain ⟨hn, ⟨hs0, hs1⟩, ⟨hn0, hn1⟩, hd0, hd1⟩ := right_facts hr
  have hX := Blk.new w 70 #[.float .f64 t, .int .i64 s, .int .i64 n, .int .i64 d, .int .i64 p]
  have hb : Below w.heap.size w (w.alloc (.cells #[.float .f64 t, .int .i64 s, .int .i64 n, .int .i64 d, .int .i64 p] 70)) := (Below.refl _ _).alloc (Nat.le_refl _) _
  have hk : kS t s n = keyS t s n := by unfold kS; rw [if_neg hn]
  have hke : kE t = 0 := by unfold kE; rw [if_neg hn]
  have hsl := run_slice_str0 Try.underlying9 (keyS t s n) .i64 8 8 rfl (by rw [keyS_size24]; omega)
  rw [keyS_first] at hsl
  have hkey := fun W => rkey_all t s n W ht
  simp only [hk, hke] at hkey
  have c1 := fun w => run_cat (uS (keyB (normF t))) (oneS (s + 1)) (by rw [us_size, one_size]; omega) w
  have c2 := fun w => run_cat (uS (keyB (normF t)) ++ oneS (s + 1)) (iS n) (by simp only [ByteArray.size_append, us_size, one_size, is_size]; omega) w
  have c3 := fun w => run_cat ((uS (keyB (normF t)) ++ oneS (s + 1)) ++ iS n) (iS p) (by simp only [ByteArray.size_append, us_size, one_size, is_size]; omega) w
  have hw1 : IntKind.i64.wrap (s + 1) = s + 1 := IntWalk.i64_in _ (by omega)
  have hw2 : IntKind.u8.wrap (s + 1) = s + 1 := by rw [IntKind.wrap_u8]; omega
  have cv := conv_one (s + 1) (by omega) (by omega)
  have i1 := fun W => ri_any n W
  have i2 := fun W => ri_any p W
  unfold keyR
  clear hk hke ht hr hn hs0 hs1 hn0 hn1 hd0 hd1
  generalize ((uS (keyB (normF t)) ++ oneS (s + 1)) ++ iS n) ++ iS p = R4 at *
  generalize (uS (keyB (normF t)) ++ oneS (s + 1)) ++ iS n = R3 at *
  generalize uS (keyB (normF t)) ++ oneS (s + 1) = R2 at *
  generalize uS (keyB (normF t)) = R1 at *
  generalize oneS (s + 1) = O1 at *
  generalize iS n = N1 at *
  generalize iS p = P1 at *
  generalize keyS t s n = K1 at *
  replace hkey := hide hkey
  replace i1 := hide i1
  replace i2 := hide i2
  go_enter Try.func64, Try.ntmps64
  go_wp2_with fail
  refine (hkey.out _).mono ?_
  rintro e w1 ⟨rfl, hb1⟩
  replace hX := hX.below hb1 hX.lt
  replace hb := below_after hb hb1
  clear hb1 hkey
  go_upto_region 2 with fail
  have k1 := hX.cell 1
  have k2 := hX.cell 2
  have k4 := hX.cell 4
  simp only [List.getElem?_toArray, List.getElem?_cons_zero, List.getElem?_cons_succ] at k1 k2 k4
  clear hX
  refine wp_region_tree (fun X => Below w1.heap.size w1 X) [0, 1, 2, 3, 4, 5, 6, 10, 11, 12, 15, 16] 18 8 (by kernel_rfl) (by kernel_rfl) (Below.refl w1.heap.size w1).drew ?_
  simp only [List.filterMap_cons, List.filterMap_nil, List.getElem?_cons_succ, List.getElem?_cons_zero]
  repeat (refine head_step ?_ (by rfl) ?_ (fun _ _ _ h => h) ?_; rotate_left; (intro w' hs; have z1 := keepc hs k1; have z2 := keepc hs k2; have z4 := keepc hs k4; go_simp; (try with_reducible rfl)); (try simp only [Act.put, List.setIfInBounds_toArray, List.set_cons_zero, List.set_cons_succ]))
  refine head_nil ?_
  have hD := (Below.refl w1.heap.size w1).drew
  clear k1 k2 k4 hsl
  generalize hwd : w1.drew = wd at *
  refine tree_two 7 13 (by kernel_rfl) rfl rfl ?_ ?_
  · refine midc_step (.slice (some ⟨wd.heap.size, 0, none⟩) 1 1) (wd.alloc (.cells #[.int .u8 (s + 1)] 5)) (by rfl) (by go_simp; try (first | rfl | exact ⟨rfl, rfl⟩)) (hD.alloc hD.size _) ?_
    simp only [Act.put, List.setIfInBounds_toArray, List.set_cons_zero, List.set_cons_succ]
    refine midc_nil ?_
    have hq := byte_new wd (s + 1)
    have hx1 := hD.alloc hD.size (.cells #[.int .u8 (s + 1)] 5)
    generalize wd.alloc (.cells #[.int .u8 (s + 1)] 5) = x1 at *
    generalize wd.heap.size = g1 at *
    refine tree_two 8 13 (by kernel_rfl) rfl rfl ?_ ?_
    · refine midc_step (.string O1) x1 (by rfl) (by have hcv := cv _ _ hq; go_simp; try (first | rfl | exact ⟨rfl, rfl⟩)) hx1 ?_
      simp only [Act.put, List.setIfInBounds_toArray, List.set_cons_zero, List.set_cons_succ]
      refine midc_nil ?_
      refine tree_two 9 13 (by kernel_rfl) rfl rfl ?_ ?_
      · refine midc_step (.string R2) x1 (by rfl) (by have h1 := c1 x1; go_simp; try (first | rfl | exact ⟨rfl, rfl⟩)) hx1 ?_
        simp only [Act.put, List.setIfInBounds_toArray, List.set_cons_zero, List.set_cons_succ]
        refine midc_nil ?_
        refine tree_one 13 (by kernel_rfl) rfl ?_
        refine midc_call (g := 26) (args := #[.int .i64 n]) (w' := x1) (by rfl) (by go_simp) ((i1.out x1).mono ?_)
        rintro e x2 ⟨rfl, hbx2⟩
        have hx2 := below_after hx1 hbx2
        refine ⟨_, rfl, hx2, ?_⟩
        simp only [Act.put, List.setIfInBounds_toArray, List.set_cons_zero, List.set_cons_succ]
        refine midc_nil ?_
        refine tree_two 14 17 (by kernel_rfl) rfl rfl ?_ ?_
        · refine midc_step (.string R3) x2 (by rfl) (by have h1 := c2 x2; go_simp; try (first | rfl | exact ⟨rfl, rfl⟩)) hx2 ?_
          simp only [Act.put, List.setIfInBounds_toArray, List.set_cons_zero, List.set_cons_succ]
          refine midc_nil ?_
          refine tree_one 17 (by kernel_rfl) rfl ?_
          refine midc_call (g := 26) (args := #[.int .i64 p]) (w' := x2) (by rfl) (by go_simp) ((i2.out x2).mono ?_)
          rintro e x3 ⟨rfl, hbx3⟩
          have hx3 := below_after hx2 hbx3
          refine ⟨_, rfl, hx3, ?_⟩
          simp only [Act.put, List.setIfInBounds_toArray, List.set_cons_zero, List.set_cons_succ]
          refine midc_nil ?_
          refine tree_list _ 18 (by decide) rfl (by kernel_rfl) rfl ?_
          have h3 := c3 x3
          have hz := below_after hb hx3
          clear hx3
          go_wp2
          go_ret
          exact ⟨rfl, hz⟩
        · refine midc_call (g := 26) (args := #[.int .i64 p]) (w' := x2) (by rfl) (by go_simp) ((i2.out x2).mono ?_)
          rintro e x4 ⟨rfl, hbx4⟩
          have hx4 := below_after hx2 hbx4
          refine ⟨_, rfl, hx4, ?_⟩
          simp only [Act.put, List.setIfInBounds_toArray, List.set_cons_zero, List.set_cons_succ]
          refine midc_nil ?_
          refine tree_one 14 (by kernel_rfl) rfl ?_
          refine midc_step (.string R3) x4 (by rfl) (by have h1 := c2 x4; go_simp; try (first | rfl | exact ⟨rfl, rfl⟩)) hx4 ?_
          simp only [Act.put, List.setIfInBounds_toArray, List.set_cons_zero, List.set_cons_succ]
          refine midc_nil ?_
          refine tree_list _ 18 (by decide) rfl (by kernel_rfl) rfl ?_
          have h3 := c3 x4
          have hz := below_after hb hx4
          clear hx4
          go_wp2
          go_ret
          exact ⟨rfl, hz⟩
      · refine midc_call (g := 26) (args := #[.int .i64 n]) (w' := x1) (by rfl) (by go_simp) ((i1.out x1).mono ?_)
        rintro e x5 ⟨rfl, hbx5⟩
        have hx5 := below_after hx1 hbx5
        refine ⟨_, rfl, hx5, ?_⟩
        simp only [Act.put, List.setIfInBounds_toArray, List.set_cons_zero, List.set_cons_succ]
        refine midc_nil ?_
        refine tree_two 9 17 (by kernel_rfl) rfl rfl ?_ ?_
        · refine midc_step (.string R2) x5 (by rfl) (by have h1 := c1 x5; go_simp; try (first | rfl | exact ⟨rfl, rfl⟩)) hx5 ?_
          simp only [Act.put, List.setIfInBounds_toArray, List.set_cons_zero, List.set_cons_succ]
          refine midc_nil ?_
          refine tree_two 14 17 (by kernel_rfl) rfl rfl ?_ ?_
          · refine midc_step (.string R3) x5 (by rfl) (by have h1 := c2 x5; go_simp; try (first | rfl | exact ⟨rfl, rfl⟩)) hx5 ?_
            simp only [Act.put, List.setIfInBounds_toArray, List.set_cons_zero, List.set_cons_succ]
            refine midc_nil ?_
            refine tree_one 17 (by kernel_rfl) rfl ?_
            refine midc_call (g := 26) (args := #[.int .i64 p]) (w' := x5) (by rfl) (by go_simp) ((i2.out x5).mono ?_)
            rintro e x6 ⟨rfl, hbx6⟩
            have hx6 := below_after hx5 hbx6
            refine ⟨_, rfl, hx6, ?_⟩
            simp only [Act.put, List.setIfInBounds_toArray, List.set_cons_zero, List.set_cons_succ]
            refine midc_nil ?_
            refine tree_list _ 18 (by decide) rfl (by kernel_rfl) rfl ?_
            have h3 := c3 x6
            have hz := below_after hb hx6
            clear hx6
            go_wp2
            go_ret
            exact ⟨rfl, hz⟩
          · refine midc_call (g := 26) (args := #[.int .i64 p]) (w' := x5) (by rfl) (by go_simp) ((i2.out x5).mono ?_)
            rintro e x7 ⟨rfl, hbx7⟩
            have hx7 := below_after hx5 hbx7
            refine ⟨_, rfl, hx7, ?_⟩
            simp only [Act.put, List.setIfInBounds_toArray, List.set_cons_zero, List.set_cons_succ]
            refine midc_nil ?_
            refine tree_one 14 (by kernel_rfl) rfl ?_
            refine midc_step (.string R3) x7 (by rfl) (by have h1 := c2 x7; go_simp; try (first | rfl | exact ⟨rfl, rfl⟩)) hx7 ?_
            simp only [Act.put, List.setIfInBounds_toArray, List.set_cons_zero, List.set_cons_succ]
            refine midc_nil ?_
            refine tree_list _ 18 (by decide) rfl (by kernel_rfl) rfl ?_
            have h3 := c3 x7
            have hz := below_after hb hx7
            clear hx7
            go_wp2
            go_ret
            exact ⟨rfl, hz⟩
        · refine midc_call (g := 26) (args := #[.int .i64 p]) (w' := x5) (by rfl) (by go_simp) ((i2.out x5).mono ?_)
          rintro e x8 ⟨rfl, hbx8⟩
          have hx8 := below_after hx5 hbx8
          refine ⟨_, rfl, hx8, ?_⟩
          simp only [Act.put, List.setIfInBounds_toArray, List.set_cons_zero, List.set_cons_succ]
          refine midc_nil ?_
          refine tree_one 9 (by kernel_rfl) rfl ?_
          refine midc_step (.string R2) x8 (by rfl) (by have h1 := c1 x8; go_simp; try (first | rfl | exact ⟨rfl, rfl⟩)) hx8 ?_
          simp only [Act.put, List.setIfInBounds_toArray, List.set_cons_zero, List.set_cons_succ]
          refine midc_nil ?_
          refine tree_one 14 (by kernel_rfl) rfl ?_
          refine midc_step (.string R3) x8 (by rfl) (by have h1 := c2 x8; go_simp; try (first | rfl | exact ⟨rfl, rfl⟩)) hx8 ?_
          simp only [Act.put, List.setIfInBounds_toArray, List.set_cons_zero, List.set_cons_succ]
          refine midc_nil ?_
          refine tree_list _ 18 (by decide) rfl (by kernel_rfl) rfl ?_
          have h3 := c3 x8
          have hz := below_after hb hx8
          clear hx8
          go_wp2
          go_ret
          exact ⟨rfl, hz⟩
    · refine midc_call (g := 26) (args := #[.int .i64 n]) (w' := x1) (by rfl) (by go_simp) ((i1.out x1).mono ?_)
      rintro e x9 ⟨rfl, hbx9⟩
      have hx9 := below_after hx1 hbx9
      refine ⟨_, rfl, hx9, ?_⟩
      have hq := keepc hbx9 hq
      simp only [Act.put, List.setIfInBounds_toArray, List.set_cons_zero, List.set_cons_succ]
      refine midc_nil ?_
      refine tree_two 8 17 (by kernel_rfl) rfl rfl ?_ ?_
      · refine midc_step (.string O1) x9 (by rfl) (by have hcv := cv _ _ hq; go_simp; try (first | rfl | exact ⟨rfl, rfl⟩)) hx9 ?_
        simp only [Act.put, List.setIfInBounds_toArray, List.set_cons_zero, List.set_cons_succ]
        refine midc_nil ?_
        refine tree_two 9 17 (by kernel_rfl) rfl rfl ?_ ?_
        · refine midc_step (.string R2) x9 (by rfl) (by have h1 := c1 x9; go_simp; try (first | rfl | exact ⟨rfl, rfl⟩)) hx9 ?_
          simp only [Act.put, List.setIfInBounds_toArray, List.set_cons_zero, List.set_cons_succ]
          refine midc_nil ?_
          refine tree_two 14 17 (by kernel_rfl) rfl rfl ?_ ?_
          · refine midc_step (.string R3) x9 (by rfl) (by have h1 := c2 x9; go_simp; try (first | rfl | exact ⟨rfl, rfl⟩)) hx9 ?_
            simp only [Act.put, List.setIfInBounds_toArray, List.set_cons_zero, List.set_cons_succ]
            refine midc_nil ?_
            refine tree_one 17 (by kernel_rfl) rfl ?_
            refine midc_call (g := 26) (args := #[.int .i64 p]) (w' := x9) (by rfl) (by go_simp) ((i2.out x9).mono ?_)
            rintro e x10 ⟨rfl, hbx10⟩
            have hx10 := below_after hx9 hbx10
            refine ⟨_, rfl, hx10, ?_⟩
            simp only [Act.put, List.setIfInBounds_toArray, List.set_cons_zero, List.set_cons_succ]
            refine midc_nil ?_
            refine tree_list _ 18 (by decide) rfl (by kernel_rfl) rfl ?_
            have h3 := c3 x10
            have hz := below_after hb hx10
            clear hx10
            go_wp2
            go_ret
            exact ⟨rfl, hz⟩
          · refine midc_call (g := 26) (args := #[.int .i64 p]) (w' := x9) (by rfl) (by go_simp) ((i2.out x9).mono ?_)
            rintro e x11 ⟨rfl, hbx11⟩
            have hx11 := below_after hx9 hbx11
            refine ⟨_, rfl, hx11, ?_⟩
            simp only [Act.put, List.setIfInBounds_toArray, List.set_cons_zero, List.set_cons_succ]
            refine midc_nil ?_
            refine tree_one 14 (by kernel_rfl) rfl ?_
            refine midc_step (.string R3) x11 (by rfl) (by have h1 := c2 x11; go_simp; try (first | rfl | exact ⟨rfl, rfl⟩)) hx11 ?_
            simp only [Act.put, List.setIfInBounds_toArray, List.set_cons_zero, List.set_cons_succ]
            refine midc_nil ?_
            refine tree_list _ 18 (by decide) rfl (by kernel_rfl) rfl ?_
            have h3 := c3 x11
            have hz := below_after hb hx11
            clear hx11
            go_wp2
            go_ret
            exact ⟨rfl, hz⟩
        · refine midc_call (g := 26) (args := #[.int .i64 p]) (w' := x9) (by rfl) (by go_simp) ((i2.out x9).mono ?_)
          rintro e x12 ⟨rfl, hbx12⟩
          have hx12 := below_after hx9 hbx12
          refine ⟨_, rfl, hx12, ?_⟩
          simp only [Act.put, List.setIfInBounds_toArray, List.set_cons_zero, List.set_cons_succ]
          refine midc_nil ?_
          refine tree_one 9 (by kernel_rfl) rfl ?_
          refine midc_step (.string R2) x12 (by rfl) (by have h1 := c1 x12; go_simp; try (first | rfl | exact ⟨rfl, rfl⟩)) hx12 ?_
          simp only [Act.put, List.setIfInBounds_toArray, List.set_cons_zero, List.set_cons_succ]
          refine midc_nil ?_
          refine tree_one 14 (by kernel_rfl) rfl ?_
          refine midc_step (.string R3) x12 (by rfl) (by have h1 := c2 x12; go_simp; try (first | rfl | exact ⟨rfl, rfl⟩)) hx12 ?_
          simp only [Act.put, List.setIfInBounds_toArray, List.set_cons_zero, List.set_cons_succ]
          refine midc_nil ?_
          refine tree_list _ 18 (by decide) rfl (by kernel_rfl) rfl ?_
          have h3 := c3 x12
          have hz := below_after hb hx12
          clear hx12
          go_wp2
          go_ret
          exact ⟨rfl, hz⟩
      · refine midc_call (g := 26) (args := #[.int .i64 p]) (w' := x9) (by rfl) (by go_simp) ((i2.out x9).mono ?_)
        rintro e x13 ⟨rfl, hbx13⟩
        have hx13 := below_after hx9 hbx13
        refine ⟨_, rfl, hx13, ?_⟩
        have hq := keepc hbx13 hq
        simp only [Act.put, List.setIfInBounds_toArray, List.set_cons_zero, List.set_cons_succ]
        refine midc_nil ?_
        refine tree_one 8 (by kernel_rfl) rfl ?_
        refine midc_step (.string O1) x13 (by rfl) (by have hcv := cv _ _ hq; go_simp; try (first | rfl | exact ⟨rfl, rfl⟩)) hx13 ?_
        simp only [Act.put, List.setIfInBounds_toArray, List.set_cons_zero, List.set_cons_succ]
        refine midc_nil ?_
        refine tree_one 9 (by kernel_rfl) rfl ?_
        refine midc_step (.string R2) x13 (by rfl) (by have h1 := c1 x13; go_simp; try (first | rfl | exact ⟨rfl, rfl⟩)) hx13 ?_
        simp only [Act.put, List.setIfInBounds_toArray, List.set_cons_zero, List.set_cons_succ]
        refine midc_nil ?_
        refine tree_one 14 (by kernel_rfl) rfl ?_
        refine midc_step (.string R3) x13 (by rfl) (by have h1 := c2 x13; go_simp; try (first | rfl | exact ⟨rfl, rfl⟩)) hx13 ?_
        simp only [Act.put, List.setIfInBounds_toArray, List.set_cons_zero, List.set_cons_succ]
        refine midc_nil ?_
        refine tree_list _ 18 (by decide) rfl (by kernel_rfl) rfl ?_
        have h3 := c3 x13
        have hz := below_after hb hx13
        clear hx13
        go_wp2
        go_ret
        exact ⟨rfl, hz⟩
  · refine midc_call (g := 26) (args := #[.int .i64 n]) (w' := wd) (by rfl) (by go_simp) ((i1.out wd).mono ?_)
    rintro e x14 ⟨rfl, hbx14⟩
    have hx14 := below_after hD hbx14
    refine ⟨_, rfl, hx14, ?_⟩
    simp only [Act.put, List.setIfInBounds_toArray, List.set_cons_zero, List.set_cons_succ]
    refine midc_nil ?_
    refine tree_two 7 17 (by kernel_rfl) rfl rfl ?_ ?_
    · refine midc_step (.slice (some ⟨x14.heap.size, 0, none⟩) 1 1) (x14.alloc (.cells #[.int .u8 (s + 1)] 5)) (by rfl) (by go_simp; try (first | rfl | exact ⟨rfl, rfl⟩)) (hx14.alloc hx14.size _) ?_
      simp only [Act.put, List.setIfInBounds_toArray, List.set_cons_zero, List.set_cons_succ]
      refine midc_nil ?_
      have hq := byte_new x14 (s + 1)
      have hx15 := hx14.alloc hx14.size (.cells #[.int .u8 (s + 1)] 5)
      generalize x14.alloc (.cells #[.int .u8 (s + 1)] 5) = x15 at *
      generalize x14.heap.size = g15 at *
      refine tree_two 8 17 (by kernel_rfl) rfl rfl ?_ ?_
      · refine midc_step (.string O1) x15 (by rfl) (by have hcv := cv _ _ hq; go_simp; try (first | rfl | exact ⟨rfl, rfl⟩)) hx15 ?_
        simp only [Act.put, List.setIfInBounds_toArray, List.set_cons_zero, List.set_cons_succ]
        refine midc_nil ?_
        refine tree_two 9 17 (by kernel_rfl) rfl rfl ?_ ?_
        · refine midc_step (.string R2) x15 (by rfl) (by have h1 := c1 x15; go_simp; try (first | rfl | exact ⟨rfl, rfl⟩)) hx15 ?_
          simp only [Act.put, List.setIfInBounds_toArray, List.set_cons_zero, List.set_cons_succ]
          refine midc_nil ?_
          refine tree_two 14 17 (by kernel_rfl) rfl rfl ?_ ?_
          · refine midc_step (.string R3) x15 (by rfl) (by have h1 := c2 x15; go_simp; try (first | rfl | exact ⟨rfl, rfl⟩)) hx15 ?_
            simp only [Act.put, List.setIfInBounds_toArray, List.set_cons_zero, List.set_cons_succ]
            refine midc_nil ?_
            refine tree_one 17 (by kernel_rfl) rfl ?_
            refine midc_call (g := 26) (args := #[.int .i64 p]) (w' := x15) (by rfl) (by go_simp) ((i2.out x15).mono ?_)
            rintro e x16 ⟨rfl, hbx16⟩
            have hx16 := below_after hx15 hbx16
            refine ⟨_, rfl, hx16, ?_⟩
            simp only [Act.put, List.setIfInBounds_toArray, List.set_cons_zero, List.set_cons_succ]
            refine midc_nil ?_
            refine tree_list _ 18 (by decide) rfl (by kernel_rfl) rfl ?_
            have h3 := c3 x16
            have hz := below_after hb hx16
            clear hx16
            go_wp2
            go_ret
            exact ⟨rfl, hz⟩
          · refine midc_call (g := 26) (args := #[.int .i64 p]) (w' := x15) (by rfl) (by go_simp) ((i2.out x15).mono ?_)
            rintro e x17 ⟨rfl, hbx17⟩
            have hx17 := below_after hx15 hbx17
            refine ⟨_, rfl, hx17, ?_⟩
            simp only [Act.put, List.setIfInBounds_toArray, List.set_cons_zero, List.set_cons_succ]
            refine midc_nil ?_
            refine tree_one 14 (by kernel_rfl) rfl ?_
            refine midc_step (.string R3) x17 (by rfl) (by have h1 := c2 x17; go_simp; try (first | rfl | exact ⟨rfl, rfl⟩)) hx17 ?_
            simp only [Act.put, List.setIfInBounds_toArray, List.set_cons_zero, List.set_cons_succ]
            refine midc_nil ?_
            refine tree_list _ 18 (by decide) rfl (by kernel_rfl) rfl ?_
            have h3 := c3 x17
            have hz := below_after hb hx17
            clear hx17
            go_wp2
            go_ret
            exact ⟨rfl, hz⟩
        · refine midc_call (g := 26) (args := #[.int .i64 p]) (w' := x15) (by rfl) (by go_simp) ((i2.out x15).mono ?_)
          rintro e x18 ⟨rfl, hbx18⟩
          have hx18 := below_after hx15 hbx18
          refine ⟨_, rfl, hx18, ?_⟩
          simp only [Act.put, List.setIfInBounds_toArray, List.set_cons_zero, List.set_cons_succ]
          refine midc_nil ?_
          refine tree_one 9 (by kernel_rfl) rfl ?_
          refine midc_step (.string R2) x18 (by rfl) (by have h1 := c1 x18; go_simp; try (first | rfl | exact ⟨rfl, rfl⟩)) hx18 ?_
          simp only [Act.put, List.setIfInBounds_toArray, List.set_cons_zero, List.set_cons_succ]
          refine midc_nil ?_
          refine tree_one 14 (by kernel_rfl) rfl ?_
          refine midc_step (.string R3) x18 (by rfl) (by have h1 := c2 x18; go_simp; try (first | rfl | exact ⟨rfl, rfl⟩)) hx18 ?_
          simp only [Act.put, List.setIfInBounds_toArray, List.set_cons_zero, List.set_cons_succ]
          refine midc_nil ?_
          refine tree_list _ 18 (by decide) rfl (by kernel_rfl) rfl ?_
          have h3 := c3 x18
          have hz := below_after hb hx18
          clear hx18
          go_wp2
          go_ret
          exact ⟨rfl, hz⟩
      · refine midc_call (g := 26) (args := #[.int .i64 p]) (w' := x15) (by rfl) (by go_simp) ((i2.out x15).mono ?_)
        rintro e x19 ⟨rfl, hbx19⟩
        have hx19 := below_after hx15 hbx19
        refine ⟨_, rfl, hx19, ?_⟩
        have hq := keepc hbx19 hq
        simp only [Act.put, List.setIfInBounds_toArray, List.set_cons_zero, List.set_cons_succ]
        refine midc_nil ?_
        refine tree_one 8 (by kernel_rfl) rfl ?_
        refine midc_step (.string O1) x19 (by rfl) (by have hcv := cv _ _ hq; go_simp; try (first | rfl | exact ⟨rfl, rfl⟩)) hx19 ?_
        simp only [Act.put, List.setIfInBounds_toArray, List.set_cons_zero, List.set_cons_succ]
        refine midc_nil ?_
        refine tree_one 9 (by kernel_rfl) rfl ?_
        refine midc_step (.string R2) x19 (by rfl) (by have h1 := c1 x19; go_simp; try (first | rfl | exact ⟨rfl, rfl⟩)) hx19 ?_
        simp only [Act.put, List.setIfInBounds_toArray, List.set_cons_zero, List.set_cons_succ]
        refine midc_nil ?_
        refine tree_one 14 (by kernel_rfl) rfl ?_
        refine midc_step (.string R3) x19 (by rfl) (by have h1 := c2 x19; go_simp; try (first | rfl | exact ⟨rfl, rfl⟩)) hx19 ?_
        simp only [Act.put, List.setIfInBounds_toArray, List.set_cons_zero, List.set_cons_succ]
        refine midc_nil ?_
        refine tree_list _ 18 (by decide) rfl (by kernel_rfl) rfl ?_
        have h3 := c3 x19
        have hz := below_after hb hx19
        clear hx19
        go_wp2
        go_ret
        exact ⟨rfl, hz⟩
    · refine midc_call (g := 26) (args := #[.int .i64 p]) (w' := x14) (by rfl) (by go_simp) ((i2.out x14).mono ?_)
      rintro e x20 ⟨rfl, hbx20⟩
      have hx20 := below_after hx14 hbx20
      refine ⟨_, rfl, hx20, ?_⟩
      simp only [Act.put, List.setIfInBounds_toArray, List.set_cons_zero, List.set_cons_succ]
      refine midc_nil ?_
      refine tree_one 7 (by kernel_rfl) rfl ?_
      refine midc_step (.slice (some ⟨x20.heap.size, 0, none⟩) 1 1) (x20.alloc (.cells #[.int .u8 (s + 1)] 5)) (by rfl) (by go_simp; try (first | rfl | exact ⟨rfl, rfl⟩)) (hx20.alloc hx20.size _) ?_
      simp only [Act.put, List.setIfInBounds_toArray, List.set_cons_zero, List.set_cons_succ]
      refine midc_nil ?_
      have hq := byte_new x20 (s + 1)
      have hx21 := hx20.alloc hx20.size (.cells #[.int .u8 (s + 1)] 5)
      generalize x20.alloc (.cells #[.int .u8 (s + 1)] 5) = x21 at *
      generalize x20.heap.size = g21 at *
      refine tree_one 8 (by kernel_rfl) rfl ?_
      refine midc_step (.string O1) x21 (by rfl) (by have hcv := cv _ _ hq; go_simp; try (first | rfl | exact ⟨rfl, rfl⟩)) hx21 ?_
      simp only [Act.put, List.setIfInBounds_toArray, List.set_cons_zero, List.set_cons_succ]
      refine midc_nil ?_
      refine tree_one 9 (by kernel_rfl) rfl ?_
      refine midc_step (.string R2) x21 (by rfl) (by have h1 := c1 x21; go_simp; try (first | rfl | exact ⟨rfl, rfl⟩)) hx21 ?_
      simp only [Act.put, List.setIfInBounds_toArray, List.set_cons_zero, List.set_cons_succ]
      refine midc_nil ?_
      refine tree_one 14 (by kernel_rfl) rfl ?_
      refine midc_step (.string R3) x21 (by rfl) (by have h1 := c2 x21; go_simp; try (first | rfl | exact ⟨rfl, rfl⟩)) hx21 ?_
      simp only [Act.put, List.setIfInBounds_toArray, List.set_cons_zero, List.set_cons_succ]
      refine midc_nil ?_
      refine tree_list _ 18 (by decide) rfl (by kernel_rfl) rfl ?_
      have h3 := c3 x21
      have hz := below_after hb hx21
      clear hx21
      go_wp2
      go_ret
      exact ⟨rfl, hz⟩
end Go.Proofs.Ytpgbfglfmmohdaa
