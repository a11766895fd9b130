/- The walks of R20's cut and Of. No condition but sizes that any memory has. -/
import Derived.Test.YtpgbfglfmmohdaaAw20
set_option linter.unusedVariables false
set_option linter.unusedSimpArgs false
set_option maxRecDepth 20000
namespace Go.Proofs.Ytpgbfglfmmohdaa
open Go.RowKit Go.Deep

attribute [local go_sem] run_store_float
def cutE (s : ByteArray) (n : Int) : Int := if (s.size : Int) < n then 5 else if (s.size : Int) > n then 6 else 0
theorem cut20_any (s : ByteArray) (n : Int) (w : World) : Calls Try.prog 103 #[.string s, .int .i64 n] w fun e w' => e = .returned (.int .i64 (cutE s n)) ∧ w = w' := by
  unfold cutE
  by_cases h1 : (s.size : Int) < n
  · rw [if_pos h1]
    go_enter Try.func103, Try.ntmps103
    go_wp2_with fail
    go_ret
    exact ⟨rfl, rfl⟩
  · rw [if_neg h1]
    by_cases h2 : (s.size : Int) > n
    · rw [if_pos h2]
      have h3 : n < (s.size : Int) := h2
      go_enter Try.func103, Try.ntmps103
      go_wp2_with fail
      go_ret
      exact ⟨rfl, rfl⟩
    · rw [if_neg h2]
      have h3 : ¬ n < (s.size : Int) := h2
      go_enter Try.func103, Try.ntmps103
      go_wp2_with fail
      go_ret
      exact ⟨rfl, rfl⟩
def timeY (s : ByteArray) : ByteArray := (s.extract 0 8 ++ iS 0) ++ iS 0
def evZv : Value := .agg #[.float .f64 0, .int .i64 0, .int .i64 0, .int .i64 0, .int .i64 0]
theorem nan_nan : isNan nanB := by unfold isNan rung nanB; decide
theorem of25 (s : ByteArray) (D : Int) (hz : s.size = 25) :
    ofE s D = (if rightE (timeB s 0) ((s[8].toNat : Int) - 1) (unI (rdN s 9 8 : Nat)) D then 0 else 6) ∧ ofV s D = orZ (if rightE (timeB s 0) ((s[8].toNat : Int) - 1) (unI (rdN s 9 8 : Nat)) D then 0 else 6) #[.float .f64 (timeB s 0), .int .i64 ((s[8].toNat : Int) - 1), .int .i64 (unI (rdN s 9 8 : Nat)), .int .i64 D, .int .i64 (unI (rdN s 17 8 : Nat))] #[.float .f64 0, .int .i64 0, .int .i64 0, .int .i64 0, .int .i64 0] := by
  have hlt := s[8].toNat_lt
  have k1 : wordK s 0 = 8 := wordK_in (by omega)
  have k2 : byteK s 8 = 9 := byteK_in (by omega)
  have k3 : wordK s 9 = 17 := wordK_in (by omega)
  have k5 : wordK s 17 = 25 := wordK_in (by omega)
  have t : geT s 0 = timeB s 0 := timeN_in (by omega)
  have g : geS s 0 = (s[8].toNat : Int) - 1 := by
    unfold geS
    rw [k1, byteN_in (by omega)]
    exact IntWalk.wrap64_in _ (by omega)
  have n : geN s 0 = unI (rdN s 9 8 : Nat) := by
    unfold geN
    rw [k1, k2, wordN_in (by omega)]
  have p : ofP s 0 = unI (rdN s 17 8 : Nat) := by
    unfold ofP
    rw [k1, k2, k3, wordN_in (by omega)]
  have k : ofK s 0 = 25 := by
    unfold ofK
    rw [k1, k2, k3, k5]
  have sh : ofSh s 0 false = false := by
    unfold ofSh
    rw [k1, k2, k3, wordS_in (by omega), wordS_in (by omega), byteS_in (by omega), wordS_in (by omega)]
  have e : ofE s D = (if rightE (timeB s 0) ((s[8].toNat : Int) - 1) (unI (rdN s 9 8 : Nat)) D then 0 else 6) := by
    unfold ofE endE
    rw [t, g, n, k, sh, if_neg (by decide)]
    cases rightE (timeB s 0) ((s[8].toNat : Int) - 1) (unI (rdN s 9 8 : Nat)) D
    · rw [if_pos (.inr rfl)]; rfl
    · rw [if_neg]
      · rfl
      · rintro (h | h)
        · omega
        · exact absurd h (by decide)
  refine ⟨e, ?_⟩
  unfold ofV
  rw [e, t, g, n, p]
theorem Blk.swap {X : World} {o o' : Obj} {g : Nat} {t : TypeId} {cs : Array Value} (h : Blk (X.alloc o) g t cs) (hg : g < X.heap.size) : Blk (X.alloc o') g t cs :=
  (Below.heap_alloc X o' g hg).trans ((Below.heap_alloc X o g hg).symm.trans h)
theorem Below.swap {a X : World} {B : Nat} {o o' : Obj} (h : Below B a (X.alloc o)) (hs : B ≤ X.heap.size) (ha : a.heap.size ≤ X.heap.size) : Below B a (X.alloc o') :=
  ⟨h.os, h.tape, h.output, Nat.le_trans ha (by simp), fun i hi => (Below.heap_alloc X o' i (Nat.lt_of_lt_of_le hi hs)).trans ((Below.heap_alloc X o i (Nat.lt_of_lt_of_le hi hs)).symm.trans (h.block i hi))⟩
set_option maxHeartbeats 8000000 in
theorem rof25 (s : ByteArray) (D : Int) (w : World) (hz : s.size = 25) :
    Calls Try.prog 69 #[.string s, .int .i64 D] w fun e w' => e = .returned (.tuple #[ofV s D, .int .i64 (ofE s D)]) ∧ Below w.heap.size w w' := by
  have hm : s.size ≤ 9223372036854775807 := by omega
  have hcut := fun w => cut20_any s 25 w
  rw [show cutE s 25 = 0 by unfold cutE; rw [if_neg (by omega), if_neg (by omega)]] at hcut
  have hty : (timeY s).size = 24 := by unfold timeY; rw [ByteArray.size_append, ByteArray.size_append, is_size, ByteArray.size_extract]; omega
  have hst := fun w => rstread_all (timeY s) 0 w (by rw [hty]; omega)
  unfold rsV at hst
  have hsl := run_slice_str0 Try.underlying9 s .i64 8 8 rfl (by omega)
  have e1 := fun w => run_cat (s.extract 0 8) (iS 0) (by rw [is_size, ByteArray.size_extract]; omega) w
  have e2 := fun w => run_cat (s.extract 0 8 ++ iS 0) (iS 0) (by rw [ByteArray.size_append, is_size, ByteArray.size_extract]; omega) w
  obtain ⟨T0, hT0⟩ : ∃ x, rsT (timeY s) 0 = x := ⟨_, rfl⟩
  obtain ⟨E0, hE0⟩ : ∃ x, rsE (timeY s) 0 = x := ⟨_, rfl⟩
  simp only [hT0, hE0] at hst
  generalize rsS (timeY s) 0 = S0 at hst
  generalize rsN (timeY s) 0 = N0 at hst
  generalize rsP (timeY s) 0 = P0 at hst
  replace hT0 := hide hT0
  replace hE0 := hide hE0
  unfold timeY at hst
  generalize s.extract 0 8 ++ iS 0 ++ iS 0 = C at hst e2
  generalize s.extract 0 8 ++ iS 0 = B at e1 e2
  generalize s.extract 0 8 = A at hsl e1
  have HST := hide hst
  clear hst
  have hR := Blk.new w 70 evZ
  have hb : Below w.heap.size w (w.alloc (.cells evZ 70)) := (Below.refl _ _).alloc (Nat.le_refl _) _
  unfold evZ at hR hb
  go_enter Try.func69, Try.ntmps69
  go_upto_region 1 with fail
  generalize w.alloc _ = W0 at *
  go_wp2_with fail
  refine (hcut _).mono ?_
  rintro e w1 ⟨rfl, rfl⟩
  go_upto_region 4 with fail
  go_cut [7, 8, 9] (fun b x y wx => ∃ gb, b = .pointer (some ⟨gb, 0, none⟩) ∧ y = .int .i64 (E0) ∧ wx.cell? ⟨gb, 0, none⟩ = some (.float .f64 (T0)) ∧ Blk wx w.heap.size 70 #[.float .f64 0, .int .i64 0, .int .i64 0, .int .i64 0, .int .i64 0] ∧ Below w.heap.size w wx)
  case first =>
    have hsz : w.heap.size < W0.drew.heap.size := hR.lt
    have hsz2 : w.heap.size < W0.heap.size := hR.lt
    have hR0 := hR
    have hb0 := hb
    replace hR := hR.drew
    replace hb := hb.drew
    go_region_held3 (fun w' => Blk w' w.heap.size 70 #[.float .f64 0, .int .i64 0, .int .i64 0, .int .i64 0, .int .i64 0] ∧ Below w.heap.size w w')
      (first
        | (go_split_ands; exact ⟨by assumption, by assumption⟩)
        | (go_split_ands; exact ⟨Blk.below (by assumption) hbR (Blk.lt (by assumption)), below_after (by assumption) hbR⟩)
        | (go_split_ands; exact ⟨Blk.below (by assumption) hbI (Blk.lt (by assumption)), below_after (by assumption) hbI⟩)
        | (go_split_ands; with_reducible exact ⟨Blk.alloc (by assumption) _, Below.alloc (by assumption) (Below.size (by assumption)) _⟩)
        | (go_split_ands; exact ⟨(hR0.alloc _).drew, (hb0.alloc hb0.size _).drew⟩)
        | (go_split_ands; with_reducible exact ⟨Blk.swap (by assumption) (by omega), Below.swap (by assumption) (by omega) (by omega)⟩)
        | (go_split_ands; exact ⟨Blk.far (Blk.far (Blk.far (by assumption) (by simp only; omega) _) (by simp only; omega) _) (by simp only; omega) _, Below.setCell (Below.setCell (Below.setCell (by assumption) (by simp only; omega) _) (by simp only; omega) _) (by simp only; omega) _⟩))
      (first
        | (go_at_call 26; refine (ri_any _ _).mono ?_; rintro e wI ⟨rfl, hbI⟩; have hzI := hbI.size; (try simp at hzI); obtain ⟨hcI, hfI⟩ := bcell hbI; try (have hxI : BoxAt wI _ := box_below (by first | assumption | exact box_new _ | exact box_new' _) hbI; have hxJ := hxI; obtain ⟨⟨q0, q1, q2⟩, ⟨q3, q4, q5⟩, q6⟩ := hxJ))
        | (go_at_call 54; refine (HST.out _).mono ?_; rintro e wR ⟨rfl, hbR⟩; have hzR := hbR.size; (try simp at hzR); obtain ⟨hcR, hfR⟩ := bcell hbR; try (have hxI : BoxAt wR _ := box_below (by first | assumption | exact box_new _ | exact box_new' _) hbR; have hxJ := hxI; obtain ⟨⟨q0, q1, q2⟩, ⟨q3, q4, q5⟩, q6⟩ := hxJ)))
    all_goals go_split_ands
    all_goals (try go_wp2_with fail)
    all_goals go_meet
    all_goals first
      | exact ⟨_, rfl, rfl, (Blk.new _ _ _).cell 0, by assumption, by assumption⟩
      | exact ⟨_, rfl, rfl, (World.cell?_setCell_other _ _ _ _ (by simp)).trans ((World.cell?_setCell_other _ _ _ _ (by simp)).trans (World.cell?_setCell_same _ _ _ (by assumption))), by assumption, by assumption⟩
  case rest =>
    obtain ⟨gb, rfl, rfl, hT, hR, hb⟩ := hcut
    clear HST e1 e2 hsl
    have n1 := fun w => rreadi_at s 9 9 w rfl (by omega) hm
    have n2 := fun w => rreadi_at s 17 17 w rfl (by omega) hm
    have hbyte := run_index_str Try.underlying9 s .i64 8 8 rfl (by omega)
    have hlt := s[8].toNat_lt
    have hw2 : IntKind.i64.wrap (s[8].toNat : Int) = (s[8].toNat : Int) := IntWalk.i64_in _ (by omega)
    go_wp2_with fail
    refine (n1 _).mono ?_
    rintro e w2 ⟨rfl, rfl⟩
    go_wp2_with fail
    refine (n2 _).mono ?_
    rintro e w2 ⟨rfl, rfl⟩
    go_wp2_with fail
    have hT2 : ∀ o, (wc.alloc o).cell? ⟨gb, 0, none⟩ = some (.float .f64 (T0)) := fun o => (World.cell?_alloc_lt wc o _ (cell_lt hT)).trans hT
    go_region
    have hX := (Blk.new wc 70 #[.float .f64 (T0), .int .i64 ((s[8].toNat : Int) - 1), .int .i64 (unI (rdN s 9 8 : Nat)), .int .i64 D, .int .i64 (unI (rdN s 17 8 : Nat))]).drew
    replace hR := (hR.alloc (.cells #[.float .f64 (T0), .int .i64 ((s[8].toNat : Int) - 1), .int .i64 (unI (rdN s 9 8 : Nat)), .int .i64 D, .int .i64 (unI (rdN s 17 8 : Nat))] 70)).drew
    replace hb := (hb.alloc hb.size (.cells #[.float .f64 (T0), .int .i64 ((s[8].toNat : Int) - 1), .int .i64 (unI (rdN s 9 8 : Nat)), .int .i64 D, .int .i64 (unI (rdN s 17 8 : Nat))] 70)).drew
    have hne := Nat.ne_of_lt (cell_lt hT)
    clear hT2 hT n1 n2 hcut hty
    obtain ⟨v1, v2⟩ := of25 s D hz
    generalize (wc.alloc (.cells #[.float .f64 (T0), .int .i64 ((s[8].toNat : Int) - 1), .int .i64 (unI (rdN s 9 8 : Nat)), .int .i64 D, .int .i64 (unI (rdN s 17 8 : Nat))] 70)).drew = w9 at *
    generalize wc.heap.size = gx at *
    have r0 := hR.cell 0
    have r1 := hR.cell 1
    have r2 := hR.cell 2
    have r3 := hR.cell 3
    have r4 := hR.cell 4
    have f0 := hR.frozen 0
    have f1 := hR.frozen 1
    have f2 := hR.frozen 2
    have f3 := hR.frozen 3
    have f4 := hR.frozen 4
    simp only [List.getElem?_toArray, List.getElem?_cons_zero, List.getElem?_cons_succ] at r0 r1 r2 r3 r4
    by_cases hbad : badB (rdN s 0 8)
    · have hE : E0 = 7 := hE0.out.symm.trans (rs_bad (s := timeX s 0) (q := 0) (by rw [timeX_size s 0 (by omega)]; omega) (by rw [timeX_rd s 0 (by omega)]; exact hbad))
      have hn : rightE (timeB s 0) ((s[8].toNat : Int) - 1) (unI (rdN s 9 8 : Nat)) D = false := by
        unfold timeB
        rw [if_pos hbad]
        exact decide_eq_false (fun h => h.1 nan_nan)
      rw [hn] at v1 v2
      have HV : Hid (Ending.returned (.tuple #[evZv, .int .i64 6]) = .returned (.tuple #[ofV s D, .int .i64 (ofE s D)])) := by rw [v1, v2]; rfl
      rw [hE]
      clear v1 v2 hn hE hbad hX
      go_wp2_with fail
      have hZ := (((((hR.set_ 0 (.float .f64 0)).set_ 1 (.int .i64 0)).set_ 2 (.int .i64 0)).set_ 3 (.int .i64 0)).set_ 4 (.int .i64 0))
      have bZ := (((((hb.setCell (p := ⟨w.heap.size, 0, none⟩) (by simp only; omega) (.float .f64 0)).setCell (p := ⟨w.heap.size, 1, none⟩) (by simp only; omega) (.int .i64 0)).setCell (p := ⟨w.heap.size, 2, none⟩) (by simp only; omega) (.int .i64 0)).setCell (p := ⟨w.heap.size, 3, none⟩) (by simp only; omega) (.int .i64 0)).setCell (p := ⟨w.heap.size, 4, none⟩) (by simp only; omega) (.int .i64 0))
      clear r0 r1 r2 r3 r4 f0 f1 f2 f3 f4
      generalize (((((w9.setCell ⟨w.heap.size, 0, none⟩ (.float .f64 0)).setCell ⟨w.heap.size, 1, none⟩ (.int .i64 0)).setCell ⟨w.heap.size, 2, none⟩ (.int .i64 0)).setCell ⟨w.heap.size, 3, none⟩ (.int .i64 0)).setCell ⟨w.heap.size, 4, none⟩ (.int .i64 0)) = wZ at *
      have q0 := hZ.cell 0
      have q1 := hZ.cell 1
      have q2 := hZ.cell 2
      have q3 := hZ.cell 3
      have q4 := hZ.cell 4
      simp only [List.setIfInBounds_toArray, List.set_cons_zero, List.set_cons_succ, List.getElem?_toArray, List.getElem?_cons_zero, List.getElem?_cons_succ] at q0 q1 q2 q3 q4
      refine bodyPost_ret (v := .tuple #[evZv, .int .i64 6]) (by simp [results, Try.results69, go_sem, evZv, q0, q1, q2, q3, q4]) rfl ⟨HV.out, bZ⟩
    · have hEE : rsE (timeY s) 0 = 0 := rs_ok (s := timeX s 0) (q := 0) (by rw [timeX_size s 0 (by omega)]; omega) (by rw [timeX_rd s 0 (by omega)]; exact hbad)
      have hE : E0 = 0 := hE0.out.symm.trans hEE
      have hT : T0 = timeB s 0 := by
        rw [← hT0.out]
        unfold rsT timeB
        rw [hEE, if_pos rfl, if_neg hbad]
        exact congrArg unB (timeX_rd s 0 (by omega))
      rw [hE]
      rw [hT] at hX
      clear hbad hE hT hEE
      have x0 := hX.cell 0
      have x1 := hX.cell 1
      have x2 := hX.cell 2
      have x3 := hX.cell 3
      have x4 := hX.cell 4
      simp only [List.getElem?_toArray, List.getElem?_cons_zero, List.getElem?_cons_succ] at x0 x1 x2 x3 x4
      generalize timeB s 0 = T at *
      generalize (s[8].toNat : Int) - 1 = S at *
      generalize unI (rdN s 9 8 : Nat) = N at *
      generalize unI (rdN s 17 8 : Nat) = L at *
      go_wp2_with fail
      clear x0 x1 x2 x3 x4 r0 r1 r2 r3 r4 f0 f1 f2 f3 f4
      refine (rright_any _ _ _ _ _ _).mono ?_
      rintro e w4 ⟨rfl, h4⟩
      replace hX := hX.below h4 hX.lt
      replace hR := hR.below h4 hR.lt
      replace hb := below_after hb h4
      clear h4
      have x0 := hX.cell 0
      have x1 := hX.cell 1
      have x2 := hX.cell 2
      have x3 := hX.cell 3
      have x4 := hX.cell 4
      have r0 := hR.cell 0
      have r1 := hR.cell 1
      have r2 := hR.cell 2
      have r3 := hR.cell 3
      have r4 := hR.cell 4
      have f0 := hR.frozen 0
      have f1 := hR.frozen 1
      have f2 := hR.frozen 2
      have f3 := hR.frozen 3
      have f4 := hR.frozen 4
      simp only [List.getElem?_toArray, List.getElem?_cons_zero, List.getElem?_cons_succ] at x0 x1 x2 x3 x4 r0 r1 r2 r3 r4
      generalize w4 = w9 at *
      cases hr : rightE T S N D
      · rw [hr] at v1 v2
        have HV : Hid (Ending.returned (.tuple #[evZv, .int .i64 6]) = .returned (.tuple #[ofV s D, .int .i64 (ofE s D)])) := by rw [v1, v2]; rfl
        clear v1 v2 hr hX x0 x1 x2 x3 x4
        go_wp2_with fail
        have hZ := (((((hR.set_ 0 (.float .f64 0)).set_ 1 (.int .i64 0)).set_ 2 (.int .i64 0)).set_ 3 (.int .i64 0)).set_ 4 (.int .i64 0))
        have bZ := (((((hb.setCell (p := ⟨w.heap.size, 0, none⟩) (by simp only; omega) (.float .f64 0)).setCell (p := ⟨w.heap.size, 1, none⟩) (by simp only; omega) (.int .i64 0)).setCell (p := ⟨w.heap.size, 2, none⟩) (by simp only; omega) (.int .i64 0)).setCell (p := ⟨w.heap.size, 3, none⟩) (by simp only; omega) (.int .i64 0)).setCell (p := ⟨w.heap.size, 4, none⟩) (by simp only; omega) (.int .i64 0))
        clear r0 r1 r2 r3 r4 f0 f1 f2 f3 f4
        generalize (((((w9.setCell ⟨w.heap.size, 0, none⟩ (.float .f64 0)).setCell ⟨w.heap.size, 1, none⟩ (.int .i64 0)).setCell ⟨w.heap.size, 2, none⟩ (.int .i64 0)).setCell ⟨w.heap.size, 3, none⟩ (.int .i64 0)).setCell ⟨w.heap.size, 4, none⟩ (.int .i64 0)) = wZ at *
        have q0 := hZ.cell 0
        have q1 := hZ.cell 1
        have q2 := hZ.cell 2
        have q3 := hZ.cell 3
        have q4 := hZ.cell 4
        simp only [List.setIfInBounds_toArray, List.set_cons_zero, List.set_cons_succ, List.getElem?_toArray, List.getElem?_cons_zero, List.getElem?_cons_succ] at q0 q1 q2 q3 q4
        refine bodyPost_ret (v := .tuple #[evZv, .int .i64 6]) (by simp [results, Try.results69, go_sem, evZv, q0, q1, q2, q3, q4]) rfl ⟨HV.out, bZ⟩
      · rw [hr] at v1 v2
        have HV : Hid (Ending.returned (.tuple #[.agg #[.float .f64 T, .int .i64 S, .int .i64 N, .int .i64 D, .int .i64 L], .int .i64 0]) = .returned (.tuple #[ofV s D, .int .i64 (ofE s D)])) := by rw [v1, v2]; rfl
        clear v1 v2 hr
        go_wp2_with fail
        have hZ := (((((hR.set_ 0 (.float .f64 T)).set_ 1 (.int .i64 S)).set_ 2 (.int .i64 N)).set_ 3 (.int .i64 D)).set_ 4 (.int .i64 L))
        have bZ := (((((hb.setCell (p := ⟨w.heap.size, 0, none⟩) (by simp only; omega) (.float .f64 T)).setCell (p := ⟨w.heap.size, 1, none⟩) (by simp only; omega) (.int .i64 S)).setCell (p := ⟨w.heap.size, 2, none⟩) (by simp only; omega) (.int .i64 N)).setCell (p := ⟨w.heap.size, 3, none⟩) (by simp only; omega) (.int .i64 D)).setCell (p := ⟨w.heap.size, 4, none⟩) (by simp only; omega) (.int .i64 L))
        clear x0 x1 x2 x3 x4 r0 r1 r2 r3 r4 f0 f1 f2 f3 f4
        generalize (((((w9.setCell ⟨w.heap.size, 0, none⟩ (.float .f64 T)).setCell ⟨w.heap.size, 1, none⟩ (.int .i64 S)).setCell ⟨w.heap.size, 2, none⟩ (.int .i64 N)).setCell ⟨w.heap.size, 3, none⟩ (.int .i64 D)).setCell ⟨w.heap.size, 4, none⟩ (.int .i64 L)) = wZ at *
        have q0 := hZ.cell 0
        have q1 := hZ.cell 1
        have q2 := hZ.cell 2
        have q3 := hZ.cell 3
        have q4 := hZ.cell 4
        simp only [List.setIfInBounds_toArray, List.set_cons_zero, List.set_cons_succ, List.getElem?_toArray, List.getElem?_cons_zero, List.getElem?_cons_succ] at q0 q1 q2 q3 q4
        refine bodyPost_ret (v := .tuple #[.agg #[.float .f64 T, .int .i64 S, .int .i64 N, .int .i64 D, .int .i64 L], .int .i64 0]) (by simp [results, Try.results69, go_sem, evZv, q0, q1, q2, q3, q4]) rfl ⟨HV.out, bZ⟩
end Go.Proofs.Ytpgbfglfmmohdaa
