/- The walks of R20's Key and Event. No condition but that the event may be. -/
import Derived.Test.YtpgbfglfmmohdaaAw20
import Derived.Deep.RegionWith
set_option linter.unusedVariables false
set_option linter.unusedSimpArgs false
set_option maxRecDepth 20000
namespace Go.Proofs.Ytpgbfglfmmohdaa
open Go.RowKit Go.Deep

attribute [local go_sem] run_store_float
theorem add_zero_addr (a : Addr) : a.add 0 = a := by unfold Addr.add; simp
theorem conv_one (n : Int) (h0 : 0 ≤ n) (h1 : n ≤ 255) (X : World) (g : Nat) (h : X.cell? ⟨g, 0, none⟩ = some (.int .u8 n)) : (convert 82 9 (.slice (some ⟨g, 0, none⟩) 1 1)).run Try.prog X = .ok (.string (oneS n)) X := by
  have hr := run_convert_bytes_back (P := Try.prog) X 82 9 5 ⟨g, 0, none⟩ 1 [UInt8.ofNat n.toNat] Try.underlying82 Try.underlying5 Try.underlying9 (fun j hj => by
    have e : j = 0 := by simpa using hj
    subst e
    rw [add_zero_addr, h]
    simp only [List.getElem_cons_zero, Option.some.injEq, Value.int.injEq, true_and]
    rw [UInt8.toNat_ofNat']
    omega)
  exact hr
theorem keepc {w w' : World} {p : Addr} {v : Value} (hb : Below w.heap.size w w') (h : w.cell? p = some v) : w'.cell? p = some v := (hb.cell (cell_lt h)).trans h
theorem byte_new (X : World) (n : Int) : (X.alloc (.cells #[.int .u8 n] 5)).cell? ⟨X.heap.size, 0, none⟩ = some (.int .u8 n) := (Blk.new X 5 #[.int .u8 n]).cell 0
theorem byte_new' (X : World) (n : Int) : (X.alloc (.cells #[.int .u8 n] 5)).drew.cell? ⟨X.heap.size, 0, none⟩ = some (.int .u8 n) := byte_new X n
set_option maxHeartbeats 8000000 in
theorem rkey20_any (t : Nat) (s n d p : Int) (w : World) (ht : t < 18446744073709551616) (hr : rightE t s n d = true) : Calls Try.prog 64 #[.agg #[.float .f64 t, .int .i64 s, .int .i64 n, .int .i64 d, .int .i64 p]] w fun e w' => e = .returned (.string (keyR t s n p)) ∧ Below w.heap.size w w' := by
  obtain ⟨hn, ⟨hs0, hs1⟩, ⟨hn0, hn1⟩, hd0, hd1⟩ := right_facts hr
  have hX := Blk.new w 70 #[.float .f64 t, .int .i64 s, .int .i64 n, .int .i64 d, .int .i64 p]
  have hb : Below w.heap.size w (w.alloc (.cells #[.float .f64 t, .int .i64 s, .int .i64 n, .int .i64 d, .int .i64 p] 70)) := (Below.refl _ _).alloc (Nat.le_refl _) _
  have hk : kS t s n = keyS t s n := by unfold kS; rw [if_neg hn]
  have hke : kE t = 0 := by unfold kE; rw [if_neg hn]
  have hsl := run_slice_str0 Try.underlying9 (keyS t s n) .i64 8 8 rfl (by rw [keyS_size24]; omega)
  rw [keyS_first] at hsl
  have hkey := fun W => rkey_all t s n W ht
  simp only [hk, hke] at hkey
  have c1 := fun w => run_cat (uS (keyB (normF t))) (oneS (s + 1)) (by rw [us_size, one_size]; omega) w
  have c2 := fun w => run_cat (uS (keyB (normF t)) ++ oneS (s + 1)) (iS n) (by simp only [ByteArray.size_append, us_size, one_size, is_size]; omega) w
  have c3 := fun w => run_cat ((uS (keyB (normF t)) ++ oneS (s + 1)) ++ iS n) (iS p) (by simp only [ByteArray.size_append, us_size, one_size, is_size]; omega) w
  have hw1 : IntKind.i64.wrap (s + 1) = s + 1 := IntWalk.i64_in _ (by omega)
  have hw2 : IntKind.u8.wrap (s + 1) = s + 1 := by rw [IntKind.wrap_u8]; omega
  have cv := conv_one (s + 1) (by omega) (by omega)
  have i1 := fun W => ri_any n W
  have i2 := fun W => ri_any p W
  unfold keyR
  clear hk hke ht hr hn hs0 hs1 hn0 hn1 hd0 hd1
  generalize ((uS (keyB (normF t)) ++ oneS (s + 1)) ++ iS n) ++ iS p = R4 at *
  generalize (uS (keyB (normF t)) ++ oneS (s + 1)) ++ iS n = R3 at *
  generalize uS (keyB (normF t)) ++ oneS (s + 1) = R2 at *
  generalize uS (keyB (normF t)) = R1 at *
  generalize oneS (s + 1) = O1 at *
  generalize iS n = N1 at *
  generalize iS p = P1 at *
  generalize keyS t s n = K1 at *
  replace hkey := hide hkey
  replace i1 := hide i1
  replace i2 := hide i2
  go_enter Try.func64, Try.ntmps64
  go_wp2_with fail
  refine (hkey.out _).mono ?_
  rintro e w1 ⟨rfl, hb1⟩
  replace hX := hX.below hb1 hX.lt
  replace hb := below_after hb hb1
  clear hb1 hkey
  go_upto_region 2 with fail
  have k1 := hX.cell 1
  have k2 := hX.cell 2
  have k4 := hX.cell 4
  have kd := hX.lt
  simp only [List.getElem?_toArray, List.getElem?_cons_zero, List.getElem?_cons_succ] at k1 k2 k4
  have k1a : ∀ o, (w1.alloc o).cell? ⟨w.heap.size, 1, none⟩ = some (.int .i64 s) := fun o => (World.cell?_alloc_lt w1 o _ kd).trans k1
  have k2a : ∀ o, (w1.alloc o).cell? ⟨w.heap.size, 2, none⟩ = some (.int .i64 n) := fun o => (World.cell?_alloc_lt w1 o _ kd).trans k2
  have k4a : ∀ o, (w1.alloc o).cell? ⟨w.heap.size, 4, none⟩ = some (.int .i64 p) := fun o => (World.cell?_alloc_lt w1 o _ kd).trans k4
  have k1d : ∀ o, (w1.alloc o).drew.cell? ⟨w.heap.size, 1, none⟩ = some (.int .i64 s) := fun o => k1a o
  have k2d : ∀ o, (w1.alloc o).drew.cell? ⟨w.heap.size, 2, none⟩ = some (.int .i64 n) := fun o => k2a o
  have k4d : ∀ o, (w1.alloc o).drew.cell? ⟨w.heap.size, 4, none⟩ = some (.int .i64 p) := fun o => k4a o
  have k1w : w1.drew.cell? ⟨w.heap.size, 1, none⟩ = some (.int .i64 s) := hX.drew.cell 1
  have k2w : w1.drew.cell? ⟨w.heap.size, 2, none⟩ = some (.int .i64 n) := hX.drew.cell 2
  have k4w : w1.drew.cell? ⟨w.heap.size, 4, none⟩ = some (.int .i64 p) := hX.drew.cell 4
  have HX := hide hX
  have HBd : Below w.heap.size w w1.drew := hb.drew
  have HBa : ∀ o, Below w.heap.size w (w1.alloc o).drew := fun o => (hb.alloc hb.size o).drew
  clear hX hb kd
  go_region_with (first
    | (go_at_call 26; with_reducible refine (i1.out _).mono ?_; rintro e wI ⟨rfl, hbI⟩; have j1 : wI.cell? ⟨w.heap.size, 1, none⟩ = some (.int .i64 s) := keepc hbI (by first | exact k1w | exact k1d _ | exact j1a _ | assumption); have j2 : wI.cell? ⟨w.heap.size, 2, none⟩ = some (.int .i64 n) := keepc hbI (by first | exact k2w | exact k2d _ | exact j2a _ | assumption); have j4 : wI.cell? ⟨w.heap.size, 4, none⟩ = some (.int .i64 p) := keepc hbI (by first | exact k4w | exact k4d _ | exact j4a _ | assumption); have j1a : ∀ o, (wI.alloc o).cell? ⟨w.heap.size, 1, none⟩ = some (.int .i64 s) := fun o => (World.cell?_alloc_lt wI o _ (cell_lt j1)).trans j1; have j2a : ∀ o, (wI.alloc o).cell? ⟨w.heap.size, 2, none⟩ = some (.int .i64 n) := fun o => (World.cell?_alloc_lt wI o _ (cell_lt j2)).trans j2; have j4a : ∀ o, (wI.alloc o).cell? ⟨w.heap.size, 4, none⟩ = some (.int .i64 p) := fun o => (World.cell?_alloc_lt wI o _ (cell_lt j4)).trans j4; have jb := below_after (by first | exact HBd | exact HBa _ | assumption | exact Below.alloc (by assumption) (Below.size (by assumption)) _) hbI; try (have hq : wI.cell? _ = some (.int .u8 (s + 1)) := keepc hbI (by first | exact byte_new _ _ | exact byte_new' _ _ | assumption)))
    | (go_at_call 26; with_reducible refine (i2.out _).mono ?_; rintro e wI ⟨rfl, hbI⟩; have j1 : wI.cell? ⟨w.heap.size, 1, none⟩ = some (.int .i64 s) := keepc hbI (by first | exact k1w | exact k1d _ | exact j1a _ | assumption); have j2 : wI.cell? ⟨w.heap.size, 2, none⟩ = some (.int .i64 n) := keepc hbI (by first | exact k2w | exact k2d _ | exact j2a _ | assumption); have j4 : wI.cell? ⟨w.heap.size, 4, none⟩ = some (.int .i64 p) := keepc hbI (by first | exact k4w | exact k4d _ | exact j4a _ | assumption); have j1a : ∀ o, (wI.alloc o).cell? ⟨w.heap.size, 1, none⟩ = some (.int .i64 s) := fun o => (World.cell?_alloc_lt wI o _ (cell_lt j1)).trans j1; have j2a : ∀ o, (wI.alloc o).cell? ⟨w.heap.size, 2, none⟩ = some (.int .i64 n) := fun o => (World.cell?_alloc_lt wI o _ (cell_lt j2)).trans j2; have j4a : ∀ o, (wI.alloc o).cell? ⟨w.heap.size, 4, none⟩ = some (.int .i64 p) := fun o => (World.cell?_alloc_lt wI o _ (cell_lt j4)).trans j4; have jb := below_after (by first | exact HBd | exact HBa _ | assumption | exact Below.alloc (by assumption) (Below.size (by assumption)) _) hbI; try (have hq : wI.cell? _ = some (.int .u8 (s + 1)) := keepc hbI (by first | exact byte_new _ _ | exact byte_new' _ _ | assumption))))
  all_goals go_wp2
  all_goals go_ret
  all_goals exact ⟨rfl, by first | assumption | exact Below.alloc (by assumption) (Below.size (by assumption)) _⟩
end Go.Proofs.Ytpgbfglfmmohdaa
