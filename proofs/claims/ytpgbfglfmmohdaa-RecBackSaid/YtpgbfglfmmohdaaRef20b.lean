/- The walks of R20's Of, at every input, and Same. No condition but sizes that any memory has. -/
import Derived.Test.YtpgbfglfmmohdaaRef20
set_option linter.unusedVariables false
set_option linter.unusedSimpArgs false
set_option maxRecDepth 20000
namespace Go.Proofs.Ytpgbfglfmmohdaa
open Go.RowKit Go.Deep

attribute [local go_sem] run_store_float
theorem wordK_lo (s : ByteArray) (k : Nat) : wordK s k ≤ k + 8 ∧ (k + 8 ≤ s.size ∨ ∀ sh, wordS s k sh = true) := by
  unfold wordK wordS
  by_cases h : k + 8 ≤ s.size
  · exact ⟨by rw [if_pos h]; omega, .inl h⟩
  · exact ⟨by rw [if_neg h]; omega, .inr fun sh => if_neg h⟩
theorem wordS_true (s : ByteArray) (k : Nat) : wordS s k true = true := by unfold wordS; split <;> rfl
theorem byteS_true (s : ByteArray) (k : Nat) : byteS s k true = true := by unfold byteS; split <;> rfl
theorem wordK_eq {s : ByteArray} {k : Nat} (h : ¬ wordS s k false = true) : k + 8 ≤ s.size ∧ wordK s k = k + 8 := by
  unfold wordS at h
  split at h
  · exact ⟨by assumption, if_pos (by assumption)⟩
  · exact absurd rfl h
theorem byteK_eq {s : ByteArray} {k : Nat} (h : ¬ byteS s k false = true) : k < s.size ∧ byteK s k = k + 1 := by
  unfold byteS at h
  split at h
  · exact ⟨by assumption, if_pos (by assumption)⟩
  · exact absurd rfl h
theorem of_short (s : ByteArray) (h : s.size < 25) : ofSh s 0 false = true := by
  unfold ofSh
  cases h1 : wordS s 0 false
  · obtain ⟨a1, b1⟩ := wordK_eq (s := s) (k := 0) (by rw [h1]; decide)
    rw [b1]
    cases h2 : byteS s (0 + 8) false
    · obtain ⟨a2, b2⟩ := byteK_eq (s := s) (k := 0 + 8) (by rw [h2]; decide)
      rw [b2]
      cases h3 : wordS s (0 + 8 + 1) false
      · obtain ⟨a3, b3⟩ := wordK_eq (s := s) (k := 0 + 8 + 1) (by rw [h3]; decide)
        rw [b3]
        exact if_neg (by omega)
      · exact wordS_true _ _
    · rw [wordS_true, wordS_true]
  · rw [byteS_true, wordS_true, wordS_true]
theorem ge_short (s : ByteArray) (k : Nat) (h : s.size < k + 26) : geSh s k false = true := by
  unfold geSh
  cases h1 : wordS s k false
  · obtain ⟨a1, b1⟩ := wordK_eq (s := s) (k := k) (by rw [h1]; decide)
    rw [b1]
    cases h2 : byteS s (k + 8) false
    · obtain ⟨a2, b2⟩ := byteK_eq (s := s) (k := k + 8) (by rw [h2]; decide)
      rw [b2]
      cases h3 : wordS s (k + 8 + 1) false
      · obtain ⟨a3, b3⟩ := wordK_eq (s := s) (k := k + 8 + 1) (by rw [h3]; decide)
        rw [b3]
        cases h4 : byteS s (k + 8 + 1 + 8) false
        · obtain ⟨a4, b4⟩ := byteK_eq (s := s) (k := k + 8 + 1 + 8) (by rw [h4]; decide)
          rw [b4]
          exact if_neg (by omega)
        · exact wordS_true _ _
      · rw [byteS_true, wordS_true]
    · rw [wordS_true, byteS_true, wordS_true]
  · rw [byteS_true, wordS_true, byteS_true, wordS_true]
theorem geSh_true (s : ByteArray) (k : Nat) : geSh s k true = true := by
  unfold geSh
  rw [wordS_true, byteS_true, wordS_true, byteS_true, wordS_true]
/-- Where there are bytes enough. -/
theorem ge_in (s : ByteArray) (k : Nat) (h : k + 26 ≤ s.size) : geT s k = timeB s k ∧ geS s k = wrap64 (byteN s (k + 8) - 1) ∧ geN s k = unI (rdN s (k + 9) 8 : Nat) ∧ geD s k = byteN s (k + 17) ∧ geP s k = unI (rdN s (k + 18) 8 : Nat) ∧ geK s k = k + 26 ∧ ∀ sh, geSh s k sh = sh := by
  have k1 : wordK s k = k + 8 := wordK_in (by omega)
  have k2 : byteK s (k + 8) = k + 9 := byteK_in (by omega)
  have k3 : wordK s (k + 9) = k + 17 := wordK_in (by omega)
  have k4 : byteK s (k + 17) = k + 18 := byteK_in (by omega)
  have k5 : wordK s (k + 18) = k + 26 := wordK_in (by omega)
  refine ⟨?_, ?_, ?_, ?_, ?_, ?_, ?_⟩
  · exact timeN_in (by omega)
  · unfold geS
    rw [k1]
  · unfold geN
    rw [k1, k2, wordN_in (by omega)]
  · unfold geD
    rw [k1, k2, k3]
  · unfold geP
    rw [k1, k2, k3, k4, wordN_in (by omega)]
  · unfold geK
    rw [k1, k2, k3, k4, k5]
  · intro sh
    unfold geSh
    rw [k1, k2, k3, k4, wordS_in (by omega), byteS_in (by omega), wordS_in (by omega), byteS_in (by omega), wordS_in (by omega)]
theorem ofE_short {s : ByteArray} {D : Int} (h : s.size < 25) : ofE s D = 5 := by
  unfold ofE endE
  rw [of_short s h, if_pos rfl]
theorem ofE_long {s : ByteArray} {D : Int} (h : 25 < s.size) : ofE s D = 6 := by
  have k1 : wordK s 0 = 8 := wordK_in (by omega)
  have k2 : byteK s 8 = 9 := byteK_in (by omega)
  have k3 : wordK s 9 = 17 := wordK_in (by omega)
  have k5 : wordK s 17 = 25 := wordK_in (by omega)
  have k : ofK s 0 = 25 := by
    unfold ofK
    rw [k1, k2, k3, k5]
  have sh : ofSh s 0 false = false := by
    unfold ofSh
    rw [k1, k2, k3, wordS_in (by omega), wordS_in (by omega), byteS_in (by omega), wordS_in (by omega)]
  unfold ofE endE
  rw [k, sh, if_neg (by decide), if_pos (.inl (by omega))]
theorem ofV_bad {s : ByteArray} {D : Int} (h : ofE s D ≠ 0) : ofV s D = evZv := by
  unfold ofV orZ
  rw [if_neg h]
  rfl
theorem rof_bad (s : ByteArray) (D : Int) (w : World) (h : s.size < 25 ∨ 25 < s.size) :
    Calls Try.prog 69 #[.string s, .int .i64 D] w fun e w' => e = .returned (.tuple #[ofV s D, .int .i64 (ofE s D)]) ∧ Below w.heap.size w w' := by
  have hcut := fun w => cut20_any s 25 w
  have hE : ofE s D = cutE s 25 ∧ cutE s 25 ≠ 0 := by
    unfold cutE
    rcases h with h | h
    · rw [ofE_short h, if_pos (by omega)]; exact ⟨rfl, by decide⟩
    · rw [ofE_long h, if_neg (by omega), if_pos (by omega)]; exact ⟨rfl, by decide⟩
  obtain ⟨hE, hE0⟩ := hE
  have hV := ofV_bad (s := s) (D := D) (by rw [hE]; exact hE0)
  have HV : Hid (Ending.returned (.tuple #[evZv, .int .i64 (cutE s 25)]) = .returned (.tuple #[ofV s D, .int .i64 (ofE s D)])) := by rw [hV, hE]; exact rfl
  clear hV hE
  generalize cutE s 25 = E at *
  have hEb : (E != 0) = true := by rw [bne_iff_ne]; exact hE0
  have hR := Blk.new w 70 evZ
  have hb : Below w.heap.size w (w.alloc (.cells evZ 70)) := (Below.refl _ _).alloc (Nat.le_refl _) _
  unfold evZ at hR hb
  go_enter Try.func69, Try.ntmps69
  go_upto_region 1 with fail
  generalize w.alloc _ = W0 at *
  go_wp2_with fail
  refine (hcut _).mono ?_
  rintro e w1 ⟨rfl, rfl⟩
  have r0 := hR.cell 0
  have r1 := hR.cell 1
  have r2 := hR.cell 2
  have r3 := hR.cell 3
  have r4 := hR.cell 4
  have f0 := hR.frozen 0
  have f1 := hR.frozen 1
  have f2 := hR.frozen 2
  have f3 := hR.frozen 3
  have f4 := hR.frozen 4
  simp only [List.getElem?_toArray, List.getElem?_cons_zero, List.getElem?_cons_succ] at r0 r1 r2 r3 r4
  clear hcut hE0
  go_wp2_with fail
  have hZ := (((((hR.set_ 0 (.float .f64 0)).set_ 1 (.int .i64 0)).set_ 2 (.int .i64 0)).set_ 3 (.int .i64 0)).set_ 4 (.int .i64 0))
  have bZ := (((((hb.setCell (p := ⟨w.heap.size, 0, none⟩) (by simp only; omega) (.float .f64 0)).setCell (p := ⟨w.heap.size, 1, none⟩) (by simp only; omega) (.int .i64 0)).setCell (p := ⟨w.heap.size, 2, none⟩) (by simp only; omega) (.int .i64 0)).setCell (p := ⟨w.heap.size, 3, none⟩) (by simp only; omega) (.int .i64 0)).setCell (p := ⟨w.heap.size, 4, none⟩) (by simp only; omega) (.int .i64 0))
  clear r0 r1 r2 r3 r4 f0 f1 f2 f3 f4
  generalize (((((W0.setCell ⟨w.heap.size, 0, none⟩ (.float .f64 0)).setCell ⟨w.heap.size, 1, none⟩ (.int .i64 0)).setCell ⟨w.heap.size, 2, none⟩ (.int .i64 0)).setCell ⟨w.heap.size, 3, none⟩ (.int .i64 0)).setCell ⟨w.heap.size, 4, none⟩ (.int .i64 0)) = wZ at *
  have q0 := hZ.cell 0
  have q1 := hZ.cell 1
  have q2 := hZ.cell 2
  have q3 := hZ.cell 3
  have q4 := hZ.cell 4
  simp only [List.setIfInBounds_toArray, List.set_cons_zero, List.set_cons_succ, List.getElem?_toArray, List.getElem?_cons_zero, List.getElem?_cons_succ] at q0 q1 q2 q3 q4
  refine bodyPost_ret (v := .tuple #[evZv, .int .i64 E]) (by simp [results, Try.results69, go_sem, evZv, q0, q1, q2, q3, q4]) rfl ⟨HV.out, bZ⟩
theorem rof_any (s : ByteArray) (D : Int) (w : World) :
    Calls Try.prog 69 #[.string s, .int .i64 D] w fun e w' => e = .returned (.tuple #[ofV s D, .int .i64 (ofE s D)]) ∧ Below w.heap.size w w' := by
  rcases Nat.lt_trichotomy s.size 25 with h | h | h
  · exact rof_bad s D w (.inl h)
  · exact rof25 s D w h
  · exact rof_bad s D w (.inr h)
theorem same20_self (t : Nat) (s n d p : Int) (w : World) : Calls Try.prog 70 #[.agg #[.float .f64 t, .int .i64 s, .int .i64 n, .int .i64 d, .int .i64 p], .agg #[.float .f64 t, .int .i64 s, .int .i64 n, .int .i64 d, .int .i64 p]] w fun e w' => e = .returned (.bool true) ∧ Below w.heap.size w w' := by
  have hz : ∀ o, (w.alloc o).heap.size = w.heap.size + 1 := fun o => Array.size_push ..
  have hA := (Blk.new w 70 #[.float .f64 t, .int .i64 s, .int .i64 n, .int .i64 d, .int .i64 p]).alloc (.cells #[.float .f64 t, .int .i64 s, .int .i64 n, .int .i64 d, .int .i64 p] 70)
  have hB := Blk.new (w.alloc (.cells #[.float .f64 t, .int .i64 s, .int .i64 n, .int .i64 d, .int .i64 p] 70)) 70 #[.float .f64 t, .int .i64 s, .int .i64 n, .int .i64 d, .int .i64 p]
  have hb : Below w.heap.size w ((w.alloc (.cells #[.float .f64 t, .int .i64 s, .int .i64 n, .int .i64 d, .int .i64 p] 70)).alloc (.cells #[.float .f64 t, .int .i64 s, .int .i64 n, .int .i64 d, .int .i64 p] 70)) := Below.alloc (Below.alloc (Below.refl _ _) (Nat.le_refl _) _) (by rw [hz]; omega) _
  rw [hz] at hB
  clear hz
  go_enter Try.func70, Try.ntmps70
  go_upto_region 1 with fail
  generalize (w.alloc _).alloc _ = W0 at *
  have a0 := hA.cell 0
  have a1 := hA.cell 1
  have a2 := hA.cell 2
  have a3 := hA.cell 3
  have a4 := hA.cell 4
  have b0 := hB.cell 0
  have b1 := hB.cell 1
  have b2 := hB.cell 2
  have b3 := hB.cell 3
  have b4 := hB.cell 4
  simp only [List.getElem?_toArray, List.getElem?_cons_zero, List.getElem?_cons_succ] at a0 a1 a2 a3 a4 b0 b1 b2 b3 b4
  go_wp2_with fail
  refine (rsame_self _ _ _ _).mono ?_
  rintro e w1 ⟨rfl, h1⟩
  replace hA := hA.below h1 hA.lt
  replace hB := hB.below h1 hB.lt
  replace hb := below_after hb h1
  clear a0 a1 a2 a3 a4 b0 b1 b2 b3 b4 h1
  have a3 := hA.cell 3
  have a4 := hA.cell 4
  have b3 := hB.cell 3
  have b4 := hB.cell 4
  simp only [List.getElem?_toArray, List.getElem?_cons_zero, List.getElem?_cons_succ] at a3 a4 b3 b4
  go_wp2_with fail
  go_ret
  exact ⟨rfl, hb⟩
end Go.Proofs.Ytpgbfglfmmohdaa
