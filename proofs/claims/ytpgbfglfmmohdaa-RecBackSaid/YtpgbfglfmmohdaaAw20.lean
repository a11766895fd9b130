/- The walk of law20's awake. No condition. -/
import Derived.Test.YtpgbfglfmmohdaaRecPl3
import Derived.Deep.DeepCutAuto
set_option linter.unusedVariables false
set_option linter.unusedSimpArgs false
set_option maxRecDepth 20000
namespace Go.Proofs.Ytpgbfglfmmohdaa
open Go.RowKit Go.Deep

attribute [local go_sem] run_store_float
theorem run_eq_f64 (d a b : Nat) (W : World) : (Op.equalIn (d + 1) 36 (.float .f64 a) (.float .f64 b)).run Try.prog W = .ok (Op.floatEq .f64 a b) W := by
  simp [Op.equalIn, run_underlying Try.underlying36]
theorem awakeR : rightE 4609434218613702656 2 7 3 = true := by decide
theorem awakeN : normF 4609434218613702656 = 4609434218613702656 := by decide
theorem keyR_size (t : Nat) (s n p : Int) : (keyR t s n p).size = 25 := by unfold keyR; simp only [ByteArray.size_append, us_size, one_size, is_size]
set_option maxHeartbeats 2000000 in
theorem awake20 (w : World) : Calls Try.prog 58 #[] w fun e w' => e = .returned (.bool true) ∧ Below w.heap.size w w' := by
  have HK := fun W => reckey_any 4609434218613702656 2 7 3 (-4) W (by decide)
  have HM := fun W => putmsg_any 4609434218613702656 2 7 3 (-4) true W (by decide)
  have e1 : keyV 4609434218613702656 2 7 3 (-4) = keyR 4609434218613702656 2 7 (-4) := if_pos awakeR
  have e2 : msgV 4609434218613702656 2 7 3 (-4) true = oneS 1 ++ evS 4609434218613702656 2 7 3 (-4) := if_pos awakeR
  have e3 : putE (rightE 4609434218613702656 2 7 3) = 0 := by rw [awakeR]; rfl
  simp only [e1, e2, e3] at HK HM
  have zk := keyR_size 4609434218613702656 2 7 (-4)
  have zm : (oneS 1 ++ evS 4609434218613702656 2 7 3 (-4)).size = 27 := by rw [ByteArray.size_append, one_size, ev_size]
  have HG := fun W => getmsg_any (oneS 1 ++ evS 4609434218613702656 2 7 3 (-4)) W (by rw [zm]; decide)
  have HO := fun W => of_any (keyR 4609434218613702656 2 7 (-4)) 3 W (by rw [zk]; decide)
  obtain ⟨g1, g2⟩ := gm_back 4609434218613702656 2 7 3 (-4) true (by decide) awakeR (by decide)
  obtain ⟨o1, o2⟩ := of_back_ 4609434218613702656 2 7 3 (-4) (by decide) awakeR (by decide)
  rw [awakeN] at g2 o2
  rw [show (if true = true then (1 : Int) else 0) = 1 from rfl] at g1 g2
  simp only [g1, g2] at HG
  simp only [o1, o2] at HO
  clear g1 g2 o1 o2 e1 e2 e3
  generalize oneS 1 ++ evS 4609434218613702656 2 7 3 (-4) = M at *
  generalize keyR 4609434218613702656 2 7 (-4) = K at *
  replace HK := hide HK
  replace HM := hide HM
  replace HG := hide HG
  replace HO := hide HO
  have hE := Blk.new w 70 #[.float .f64 4609434218613702656, .int .i64 2, .int .i64 7, .int .i64 3, .int .i64 (-4)]
  have hb : Below w.heap.size w (w.alloc (.cells #[.float .f64 4609434218613702656, .int .i64 2, .int .i64 7, .int .i64 3, .int .i64 (-4)] 70)) := (Below.refl _ _).alloc (Nat.le_refl _) _
  have zkI : (K.size : Int) = 25 := by rw [zk]; rfl
  have zmI : (M.size : Int) = 27 := by rw [zm]; rfl
  go_enter Try.func58, Try.ntmps58
  go_wp2_with fail
  generalize w.alloc (.cells #[.float .f64 4609434218613702656, .int .i64 2, .int .i64 7, .int .i64 3, .int .i64 (-4)] 70) = w1 at *
  refine (HK.out _).mono ?_
  rintro e w2 ⟨rfl, h2⟩
  replace hE := hE.below h2 hE.lt
  replace hb := below_after hb h2
  clear h2
  have e0 := hE.cell 0
  have e1 := hE.cell 1
  have e2 := hE.cell 2
  have e3 := hE.cell 3
  have e4 := hE.cell 4
  simp only [List.getElem?_toArray, List.getElem?_cons_zero, List.getElem?_cons_succ] at e0 e1 e2 e3 e4
  go_wp2_with fail
  clear e0 e1 e2 e3 e4
  refine (HM.out _).mono ?_
  rintro e w3 ⟨rfl, h3⟩
  replace hE := hE.below h3 hE.lt
  replace hb := below_after hb h3
  clear h3
  go_wp2_with fail
  refine (HG.out _).mono ?_
  rintro e w4 ⟨rfl, h4⟩
  replace hE := hE.below h4 hE.lt
  replace hb := below_after hb h4
  clear h4
  go_wp2_with fail
  have hM := Blk.new w4 76 #[.float .f64 4609434218613702656, .int .i64 2, .int .i64 7, .int .i64 3, .int .i64 (-4), .bool true]
  replace hE := hE.alloc (.cells #[.float .f64 4609434218613702656, .int .i64 2, .int .i64 7, .int .i64 3, .int .i64 (-4), .bool true] 76)
  replace hb := hb.alloc hb.size (.cells #[.float .f64 4609434218613702656, .int .i64 2, .int .i64 7, .int .i64 3, .int .i64 (-4), .bool true] 76)
  generalize w4.alloc (.cells #[.float .f64 4609434218613702656, .int .i64 2, .int .i64 7, .int .i64 3, .int .i64 (-4), .bool true] 76) = w5 at *
  generalize w4.heap.size = gm at *
  refine (HO.out _).mono ?_
  rintro e w6 ⟨rfl, h6⟩
  replace hE := hE.below h6 hE.lt
  replace hM := hM.below h6 hM.lt
  replace hb := below_after hb h6
  clear h6
  go_upto_region 6 with fail
  have hX := Blk.new w6 70 #[.float .f64 4609434218613702656, .int .i64 2, .int .i64 7, .int .i64 3, .int .i64 (-4)]
  replace hE := hE.alloc (.cells #[.float .f64 4609434218613702656, .int .i64 2, .int .i64 7, .int .i64 3, .int .i64 (-4)] 70)
  replace hM := hM.alloc (.cells #[.float .f64 4609434218613702656, .int .i64 2, .int .i64 7, .int .i64 3, .int .i64 (-4)] 70)
  replace hb := hb.alloc hb.size (.cells #[.float .f64 4609434218613702656, .int .i64 2, .int .i64 7, .int .i64 3, .int .i64 (-4)] 70)
  generalize w6.alloc (.cells #[.float .f64 4609434218613702656, .int .i64 2, .int .i64 7, .int .i64 3, .int .i64 (-4)] 70) = w7 at *
  generalize w6.heap.size = gx at *
  have e0 := hE.cell 0
  have e1 := hE.cell 1
  have e2 := hE.cell 2
  have e3 := hE.cell 3
  have e4 := hE.cell 4
  have x0 := hX.cell 0
  have x1 := hX.cell 1
  have x2 := hX.cell 2
  have x3 := hX.cell 3
  have x4 := hX.cell 4
  have m0 := hM.cell 0
  have m1 := hM.cell 1
  have m2 := hM.cell 2
  have m3 := hM.cell 3
  have m4 := hM.cell 4
  have m5 := hM.cell 5
  simp only [List.getElem?_toArray, List.getElem?_cons_zero, List.getElem?_cons_succ] at e0 e1 e2 e3 e4 x0 x1 x2 x3 x4 m0 m1 m2 m3 m4 m5
  have ff := run_eq_f64 9997 4609434218613702656 4609434218613702656 w7
  rw [show Op.floatEq .f64 4609434218613702656 4609434218613702656 = true by decide +kernel] at ff
  go_wp2_with fail
  go_ret
  exact ⟨rfl, hb⟩
end Go.Proofs.Ytpgbfglfmmohdaa
