/- More walks of package stamp: keys read by the reference. No condition but sizes that any memory has. -/
import Derived.Test.YtpgbfglfmmohdaaRead
import Derived.Test.YtpgbfglfmmohdaaLaw02c
set_option linter.unusedVariables false
set_option linter.unusedSimpArgs false
set_option maxRecDepth 20000
namespace Go.Proofs.Ytpgbfglfmmohdaa
open Go.RowKit Go.Deep

theorem StAt.alloc_ {w : World} {g t : Nat} {s n : Int} (h : StAt w g t s n) (o : Obj) : StAt (w.alloc o) g t s n := Blk.alloc h o
theorem extract_two (s : ByteArray) (a k j : Nat) : s.extract a (a + k) ++ s.extract (a + k) (a + k + j) = s.extract a (a + (k + j)) := by
  rw [← bs_ext s a k, ← bs_ext s (a + k) j, ← bs_app, ← bs_ext s a (k + j)]
  have e : s.data.toList.drop (a + k) = (s.data.toList.drop a).drop k := by rw [List.drop_drop]
  rw [e, ← List.take_add]
theorem extract_key (s : ByteArray) (q : Nat) (h : q + 24 ≤ s.size) : (uS (rdN s q 8 : Nat) ++ iS (unI (rdN s (q + 8) 8 : Nat))) ++ iS (unI (rdN s (q + 16) 8 : Nat)) = s.extract q (q + 24) := by
  rw [u_once s q (by omega), i_once s (q + 8) (by omega), i_once s (q + 16) (by omega), show q + 8 + 8 = q + (8 + 8) by omega, ← show q + 8 + 8 = q + (8 + 8) by omega, extract_two, show q + 16 = q + (8 + 8) by omega, extract_two]
theorem skey_nought (t : Nat) (h : t < 18446744073709551616) (h0 : skey t = 0) : t = 0 ∨ t = 9223372036854775808 := by
  unfold skey sgnB rung at h0
  split at h0 <;> omega
theorem keyB_unB (b t : Nat) (hb : b < 18446744073709551616) (ht : unB b = t) (hn : ¬ isNan t) (h0 : t ≠ 9223372036854775808) : keyB (normF t) = b := by
  have htl := unB_lt b hb
  rw [ht] at htl
  have e : normF t = t := by
    unfold normF
    by_cases hz : skey t = 0
    · rcases skey_nought t htl hz with h | h
      · rw [if_pos (.inr hz), h]
      · exact absurd h h0
    · rw [if_neg (by rintro (h1 | h1); exact hn h1; exact hz h1)]
  rw [e]
  unfold unB at ht
  unfold keyB
  split at ht
  · rw [if_neg (by omega)]
    omega
  · rw [if_pos (by omega)]
    omega
theorem key_yes (s : ByteArray) (q b t : Nat) (h : q + 24 ≤ s.size) (hb : rdN s q 8 = b) (ht : unB b = t) (hn : ¬ isNan t) (h0 : t ≠ 9223372036854775808) : keyS t (unI (rdN s (q + 8) 8 : Nat)) (unI (rdN s (q + 16) 8 : Nat)) = s.extract q (q + 24) := by
  have hr := rdN_lt s q 8
  unfold keyS
  rw [keyB_unB b t (by rw [← hb]; exact hr) ht hn h0, ← hb, extract_key s q h]
theorem key_no (s : ByteArray) (q b : Nat) (h : q + 24 ≤ s.size) (hb : rdN s q 8 = b) (ht : unB b = 9223372036854775808) : keyS 9223372036854775808 (unI (rdN s (q + 8) 8 : Nat)) (unI (rdN s (q + 16) 8 : Nat)) ≠ s.extract q (q + 24) := by
  intro he
  have hr := rdN_lt s q 8
  rw [← extract_key s q h] at he
  have h1 : (keyS 9223372036854775808 (unI (rdN s (q + 8) 8 : Nat)) (unI (rdN s (q + 16) 8 : Nat))).data.toList = ((uS (rdN s q 8 : Nat) ++ iS (unI (rdN s (q + 8) 8 : Nat))) ++ iS (unI (rdN s (q + 16) 8 : Nat))).data.toList := by rw [he]
  rw [keyS_data, app_data, app_data, List.append_assoc] at h1
  have h2 := (List.append_inj h1 (by rw [us_len, us_len])).1
  have h3 : uS (keyB (normF 9223372036854775808)) = uS (rdN s q 8 : Nat) := ByteArray.ext (Array.toList_inj.1 h2)
  have hz : normF 9223372036854775808 = 0 := by decide
  have hk : keyB 0 = 9223372036854775808 := by decide
  rw [hz, hk, uS_inj _ _ (by decide) (by decide) (by omega) (by omega)] at h3
  unfold unB at ht
  split at ht <;> omega

attribute [local go_sem] run_store_float
theorem rstread_nan (s : ByteArray) (q b t : Nat) (w : World) (h : q + 24 ≤ s.size) (hm : s.size ≤ 9223372036854775807) (hb : rdN s q 8 = b) (ht : unB b = t) (hn : isNan t) :
    Calls Try.prog 54 #[.string s, .int .i64 q] w fun e w' => e = .returned (.tuple #[.agg #[.float .f64 0, .int .i64 0, .int .i64 0], .int .i64 0, .int .i64 7]) ∧ Below w.heap.size w w' := by
  have ff := f64from_run
  have hr := rdN_lt s q 8
  rw [hb] at hr
  have Hb := hide hb
  clear hb
  by_cases hi : 9223372036854775808 ≤ b
  · have hx : (b : Int) - 9223372036854775808 = (t : Int) := by
      rw [← ht]
      unfold unB
      rw [if_pos hi]
      omega
    have hbi : (9223372036854775808 : Int) ≤ (b : Int) := by omega
    have hbl : (b : Int) ≤ 18446744073709551615 := by omega
    clear hi hr
    have Ht := hide ht
    clear ht
    go_enter Try.func54, Try.ntmps54
    go_wp2_with fail
    refine (rreadu_any s q _ (by omega) hm).mono ?_
    rw [Hb.out]
    rintro e w' ⟨rfl, rfl⟩
    go_wp2_with fail
    refine (rreadi_at s _ (q + 8) _ (by omega) (by omega) hm).mono ?_
    rintro e w' ⟨rfl, rfl⟩
    go_wp2_with fail
    refine (rreadi_at s _ (q + 16) _ (by omega) (by omega) hm).mono ?_
    rintro e w' ⟨rfl, rfl⟩
    go_wp2_with fail
    refine (rkey_nan t _ _ _ hn).mono ?_
    rintro e w2 ⟨rfl, hb2⟩
    have hA : StAt w2 w.heap.size 0 0 0 := StAt.below ((show StAt (w.alloc (.cells #[.float .f64 0, .int .i64 0, .int .i64 0] 42)) w.heap.size 0 0 0 from Blk.new w _ _).alloc_ _) hb2
    obtain ⟨c0, c1, c2⟩ := hA.cells
    have f0 : w2.frozen? ⟨w.heap.size, 0, none⟩ = false := Blk.frozen hA 0
    have f1 : w2.frozen? ⟨w.heap.size, 1, none⟩ = false := Blk.frozen hA 1
    have f2 : w2.frozen? ⟨w.heap.size, 2, none⟩ = false := Blk.frozen hA 2
    have hz : w.heap.size < w2.heap.size := Blk.lt hA
    go_wp2_with fail
    refine bodyPost_ret (v := .tuple #[.agg #[.float .f64 0, .int .i64 0, .int .i64 0], .int .i64 0, .int .i64 7]) (by simp [results, Try.results54, go_sem, c0, c1, c2]) rfl ⟨rfl, ?_⟩
    exact (((below_after (by go_grown) hb2).setCell (Nat.le_refl _) _).setCell (Nat.le_refl _) _).setCell (Nat.le_refl _) _
  · have hx : 18446744073709551615 - (b : Int) = (t : Int) := by
      rw [← ht]
      unfold unB
      rw [if_neg hi]
      omega
    have hbi : (b : Int) ≤ 9223372036854775807 := by omega
    have hd : decide ((9223372036854775808 : Int) ≤ (b : Int)) = false := by
      rw [decide_eq_false_iff_not]
      omega
    clear hi hr
    have Ht := hide ht
    clear ht
    go_enter Try.func54, Try.ntmps54
    go_wp2_with fail
    refine (rreadu_any s q _ (by omega) hm).mono ?_
    rw [Hb.out]
    rintro e w' ⟨rfl, rfl⟩
    go_wp2_with fail
    refine (rreadi_at s _ (q + 8) _ (by omega) (by omega) hm).mono ?_
    rintro e w' ⟨rfl, rfl⟩
    go_wp2_with fail
    refine (rreadi_at s _ (q + 16) _ (by omega) (by omega) hm).mono ?_
    rintro e w' ⟨rfl, rfl⟩
    go_wp2_with fail
    refine (rkey_nan t _ _ _ hn).mono ?_
    rintro e w2 ⟨rfl, hb2⟩
    have hA : StAt w2 w.heap.size 0 0 0 := StAt.below ((show StAt (w.alloc (.cells #[.float .f64 0, .int .i64 0, .int .i64 0] 42)) w.heap.size 0 0 0 from Blk.new w _ _).alloc_ _) hb2
    obtain ⟨c0, c1, c2⟩ := hA.cells
    have f0 : w2.frozen? ⟨w.heap.size, 0, none⟩ = false := Blk.frozen hA 0
    have f1 : w2.frozen? ⟨w.heap.size, 1, none⟩ = false := Blk.frozen hA 1
    have f2 : w2.frozen? ⟨w.heap.size, 2, none⟩ = false := Blk.frozen hA 2
    have hz : w.heap.size < w2.heap.size := Blk.lt hA
    go_wp2_with fail
    refine bodyPost_ret (v := .tuple #[.agg #[.float .f64 0, .int .i64 0, .int .i64 0], .int .i64 0, .int .i64 7]) (by simp [results, Try.results54, go_sem, c0, c1, c2]) rfl ⟨rfl, ?_⟩
    exact (((below_after (by go_grown) hb2).setCell (Nat.le_refl _) _).setCell (Nat.le_refl _) _).setCell (Nat.le_refl _) _

theorem rstread_neg (s : ByteArray) (q b t : Nat) (w : World) (h : q + 24 ≤ s.size) (hm : s.size ≤ 9223372036854775807) (hb : rdN s q 8 = b) (ht : unB b = t) (hn : ¬ isNan t) (h0 : t = 9223372036854775808) :
    Calls Try.prog 54 #[.string s, .int .i64 q] w fun e w' => e = .returned (.tuple #[.agg #[.float .f64 0, .int .i64 0, .int .i64 0], .int .i64 0, .int .i64 7]) ∧ Below w.heap.size w w' := by
  have ff := f64from_run
  have hr := rdN_lt s q 8
  have hk : ((keyS t (unI (rdN s (q + 8) 8 : Nat)) (unI (rdN s (q + 16) 8 : Nat))).toList == (s.extract q (q + 24)).toList) = false := by
    rw [beq_eq_false_iff_ne]
    intro h1
    rw [toList_eq_iff] at h1
    subst h0
    exact key_no s q b h hb ht h1
  have hsl := run_slice_str Try.underlying9 s .i64 .i64 (q : Int) ((q : Int) + 8 + 8 + 8) q (q + 24) rfl (by omega) (by omega) h
  rw [hb] at hr
  have htl := unB_lt b hr
  rw [ht] at htl
  have Hb := hide hb
  have H0 := hide h0
  clear hb h0
  by_cases hi : 9223372036854775808 ≤ b
  · have hx : (b : Int) - 9223372036854775808 = (t : Int) := by
      rw [← ht]
      unfold unB
      rw [if_pos hi]
      omega
    have hbi : (9223372036854775808 : Int) ≤ (b : Int) := by omega
    have hbl : (b : Int) ≤ 18446744073709551615 := by omega
    clear hi hr
    have Ht := hide ht
    clear ht
    go_enter Try.func54, Try.ntmps54
    go_wp2_with fail
    refine (rreadu_any s q _ (by omega) hm).mono ?_
    rw [Hb.out]
    rintro e w' ⟨rfl, rfl⟩
    go_wp2_with fail
    refine (rreadi_at s _ (q + 8) _ (by omega) (by omega) hm).mono ?_
    rintro e w' ⟨rfl, rfl⟩
    go_wp2_with fail
    refine (rreadi_at s _ (q + 16) _ (by omega) (by omega) hm).mono ?_
    rintro e w' ⟨rfl, rfl⟩
    go_wp2_with fail
    refine (rkey_any t _ _ _ htl hn).mono ?_
    rintro e w2 ⟨rfl, hb2⟩
    have hA : StAt w2 w.heap.size 0 0 0 := StAt.below ((show StAt (w.alloc (.cells #[.float .f64 0, .int .i64 0, .int .i64 0] 42)) w.heap.size 0 0 0 from Blk.new w _ _).alloc_ _) hb2
    obtain ⟨c0, c1, c2⟩ := hA.cells
    have f0 : w2.frozen? ⟨w.heap.size, 0, none⟩ = false := Blk.frozen hA 0
    have f1 : w2.frozen? ⟨w.heap.size, 1, none⟩ = false := Blk.frozen hA 1
    have f2 : w2.frozen? ⟨w.heap.size, 2, none⟩ = false := Blk.frozen hA 2
    have hz : w.heap.size < w2.heap.size := Blk.lt hA
    go_wp2_with fail
    refine bodyPost_ret (v := .tuple #[.agg #[.float .f64 0, .int .i64 0, .int .i64 0], .int .i64 0, .int .i64 7]) (by simp [results, Try.results54, go_sem, c0, c1, c2]) rfl ⟨rfl, ?_⟩
    exact (((below_after (by go_grown) hb2).setCell (Nat.le_refl _) _).setCell (Nat.le_refl _) _).setCell (Nat.le_refl _) _
  · have hx : 18446744073709551615 - (b : Int) = (t : Int) := by
      rw [← ht]
      unfold unB
      rw [if_neg hi]
      omega
    have hbi : (b : Int) ≤ 9223372036854775807 := by omega
    have hd : decide ((9223372036854775808 : Int) ≤ (b : Int)) = false := by
      rw [decide_eq_false_iff_not]
      omega
    clear hi hr
    have Ht := hide ht
    clear ht
    go_enter Try.func54, Try.ntmps54
    go_wp2_with fail
    refine (rreadu_any s q _ (by omega) hm).mono ?_
    rw [Hb.out]
    rintro e w' ⟨rfl, rfl⟩
    go_wp2_with fail
    refine (rreadi_at s _ (q + 8) _ (by omega) (by omega) hm).mono ?_
    rintro e w' ⟨rfl, rfl⟩
    go_wp2_with fail
    refine (rreadi_at s _ (q + 16) _ (by omega) (by omega) hm).mono ?_
    rintro e w' ⟨rfl, rfl⟩
    go_wp2_with fail
    refine (rkey_any t _ _ _ htl hn).mono ?_
    rintro e w2 ⟨rfl, hb2⟩
    have hA : StAt w2 w.heap.size 0 0 0 := StAt.below ((show StAt (w.alloc (.cells #[.float .f64 0, .int .i64 0, .int .i64 0] 42)) w.heap.size 0 0 0 from Blk.new w _ _).alloc_ _) hb2
    obtain ⟨c0, c1, c2⟩ := hA.cells
    have f0 : w2.frozen? ⟨w.heap.size, 0, none⟩ = false := Blk.frozen hA 0
    have f1 : w2.frozen? ⟨w.heap.size, 1, none⟩ = false := Blk.frozen hA 1
    have f2 : w2.frozen? ⟨w.heap.size, 2, none⟩ = false := Blk.frozen hA 2
    have hz : w.heap.size < w2.heap.size := Blk.lt hA
    go_wp2_with fail
    refine bodyPost_ret (v := .tuple #[.agg #[.float .f64 0, .int .i64 0, .int .i64 0], .int .i64 0, .int .i64 7]) (by simp [results, Try.results54, go_sem, c0, c1, c2]) rfl ⟨rfl, ?_⟩
    exact (((below_after (by go_grown) hb2).setCell (Nat.le_refl _) _).setCell (Nat.le_refl _) _).setCell (Nat.le_refl _) _

theorem rstread_good (s : ByteArray) (q b t : Nat) (w : World) (h : q + 24 ≤ s.size) (hm : s.size ≤ 9223372036854775807) (hb : rdN s q 8 = b) (ht : unB b = t) (hn : ¬ isNan t) (h0 : t ≠ 9223372036854775808) :
    Calls Try.prog 54 #[.string s, .int .i64 q] w fun e w' => e = .returned (.tuple #[.agg #[.float .f64 t, .int .i64 (unI (rdN s (q + 8) 8 : Nat)), .int .i64 (unI (rdN s (q + 16) 8 : Nat))], .int .i64 (q + 24 : Nat), .int .i64 0]) ∧ Below w.heap.size w w' := by
  have ff := f64from_run
  have hr := rdN_lt s q 8
  have hk := key_yes s q b t h hb ht hn h0
  have hsl := run_slice_str Try.underlying9 s .i64 .i64 (q : Int) ((q : Int) + 8 + 8 + 8) q (q + 24) rfl (by omega) (by omega) h
  rw [hb] at hr
  have htl := unB_lt b hr
  rw [ht] at htl
  have Hb := hide hb
  have Hk := hide hk
  clear hb h0 hk
  by_cases hi : 9223372036854775808 ≤ b
  · have hx : (b : Int) - 9223372036854775808 = (t : Int) := by
      rw [← ht]
      unfold unB
      rw [if_pos hi]
      omega
    have hbi : (9223372036854775808 : Int) ≤ (b : Int) := by omega
    have hbl : (b : Int) ≤ 18446744073709551615 := by omega
    clear hi hr
    have Ht := hide ht
    clear ht
    go_enter Try.func54, Try.ntmps54
    go_wp2_with fail
    refine (rreadu_any s q _ (by omega) hm).mono ?_
    rw [Hb.out]
    rintro e w' ⟨rfl, rfl⟩
    go_wp2_with fail
    refine (rreadi_at s _ (q + 8) _ (by omega) (by omega) hm).mono ?_
    rintro e w' ⟨rfl, rfl⟩
    go_wp2_with fail
    refine (rreadi_at s _ (q + 16) _ (by omega) (by omega) hm).mono ?_
    rintro e w' ⟨rfl, rfl⟩
    go_wp2_with fail
    refine (rkey_any t _ _ _ htl hn).mono ?_
    rw [Hk.out]
    rintro e w2 ⟨rfl, hb2⟩
    have hA : StAt w2 w.heap.size 0 0 0 := StAt.below ((show StAt (w.alloc (.cells #[.float .f64 0, .int .i64 0, .int .i64 0] 42)) w.heap.size 0 0 0 from Blk.new w _ _).alloc_ _) hb2
    obtain ⟨c0, c1, c2⟩ := hA.cells
    have f0 : w2.frozen? ⟨w.heap.size, 0, none⟩ = false := Blk.frozen hA 0
    have f1 : w2.frozen? ⟨w.heap.size, 1, none⟩ = false := Blk.frozen hA 1
    have f2 : w2.frozen? ⟨w.heap.size, 2, none⟩ = false := Blk.frozen hA 2
    have hz : w.heap.size < w2.heap.size := Blk.lt hA
    have hB : StAt w2 (w.heap.size + 1) t (unI (rdN s (q + 8) 8 : Nat)) (unI (rdN s (q + 16) 8 : Nat)) := by
      have h := Blk.new (w.alloc (.cells #[.float .f64 0, .int .i64 0, .int .i64 0] 42)) 42 #[.float .f64 t, .int .i64 (unI (rdN s (q + 8) 8 : Nat)), .int .i64 (unI (rdN s (q + 16) 8 : Nat))]
      have hs : (w.alloc (.cells #[.float .f64 0, .int .i64 0, .int .i64 0] 42)).heap.size = w.heap.size + 1 := by simp
      rw [hs] at h
      exact StAt.below h hb2
    obtain ⟨d0, d1, d2⟩ := hB.cells
    go_wp2_with fail
    have s1 : StAt (w2.setCell ⟨w.heap.size, 0, none⟩ (.float .f64 t)) w.heap.size t 0 0 := Blk.set_ hA 0 _
    have s2 : StAt ((w2.setCell ⟨w.heap.size, 0, none⟩ (.float .f64 t)).setCell ⟨w.heap.size, 1, none⟩ (.int .i64 (unI (rdN s (q + 8) 8 : Nat)))) w.heap.size t (unI (rdN s (q + 8) 8 : Nat)) 0 := Blk.set_ s1 1 _
    have s3 : StAt (((w2.setCell ⟨w.heap.size, 0, none⟩ (.float .f64 t)).setCell ⟨w.heap.size, 1, none⟩ (.int .i64 (unI (rdN s (q + 8) 8 : Nat)))).setCell ⟨w.heap.size, 2, none⟩ (.int .i64 (unI (rdN s (q + 16) 8 : Nat)))) w.heap.size t (unI (rdN s (q + 8) 8 : Nat)) (unI (rdN s (q + 16) 8 : Nat)) := Blk.set_ s2 2 _
    obtain ⟨a0, _, _⟩ := s1.cells
    obtain ⟨b0, b1, _⟩ := s2.cells
    obtain ⟨e0, e1, e2⟩ := s3.cells
    refine bodyPost_ret (v := .tuple #[.agg #[.float .f64 t, .int .i64 (unI (rdN s (q + 8) 8 : Nat)), .int .i64 (unI (rdN s (q + 16) 8 : Nat))], .int .i64 ((q : Int) + 8 + 8 + 8), .int .i64 0]) (by simp [results, Try.results54, go_sem, a0, b0, b1, e0, e1, e2]) rfl ⟨?_, ?_⟩
    · rw [show ((q + 24 : Nat) : Int) = (q : Int) + 8 + 8 + 8 by omega]
    · exact (((below_after (by go_grown) hb2).setCell (Nat.le_refl _) _).setCell (Nat.le_refl _) _).setCell (Nat.le_refl _) _
  · have hx : 18446744073709551615 - (b : Int) = (t : Int) := by
      rw [← ht]
      unfold unB
      rw [if_neg hi]
      omega
    have hbi : (b : Int) ≤ 9223372036854775807 := by omega
    have hd : decide ((9223372036854775808 : Int) ≤ (b : Int)) = false := by
      rw [decide_eq_false_iff_not]
      omega
    clear hi hr
    have Ht := hide ht
    clear ht
    go_enter Try.func54, Try.ntmps54
    go_wp2_with fail
    refine (rreadu_any s q _ (by omega) hm).mono ?_
    rw [Hb.out]
    rintro e w' ⟨rfl, rfl⟩
    go_wp2_with fail
    refine (rreadi_at s _ (q + 8) _ (by omega) (by omega) hm).mono ?_
    rintro e w' ⟨rfl, rfl⟩
    go_wp2_with fail
    refine (rreadi_at s _ (q + 16) _ (by omega) (by omega) hm).mono ?_
    rintro e w' ⟨rfl, rfl⟩
    go_wp2_with fail
    refine (rkey_any t _ _ _ htl hn).mono ?_
    rw [Hk.out]
    rintro e w2 ⟨rfl, hb2⟩
    have hA : StAt w2 w.heap.size 0 0 0 := StAt.below ((show StAt (w.alloc (.cells #[.float .f64 0, .int .i64 0, .int .i64 0] 42)) w.heap.size 0 0 0 from Blk.new w _ _).alloc_ _) hb2
    obtain ⟨c0, c1, c2⟩ := hA.cells
    have f0 : w2.frozen? ⟨w.heap.size, 0, none⟩ = false := Blk.frozen hA 0
    have f1 : w2.frozen? ⟨w.heap.size, 1, none⟩ = false := Blk.frozen hA 1
    have f2 : w2.frozen? ⟨w.heap.size, 2, none⟩ = false := Blk.frozen hA 2
    have hz : w.heap.size < w2.heap.size := Blk.lt hA
    have hB : StAt w2 (w.heap.size + 1) t (unI (rdN s (q + 8) 8 : Nat)) (unI (rdN s (q + 16) 8 : Nat)) := by
      have h := Blk.new (w.alloc (.cells #[.float .f64 0, .int .i64 0, .int .i64 0] 42)) 42 #[.float .f64 t, .int .i64 (unI (rdN s (q + 8) 8 : Nat)), .int .i64 (unI (rdN s (q + 16) 8 : Nat))]
      have hs : (w.alloc (.cells #[.float .f64 0, .int .i64 0, .int .i64 0] 42)).heap.size = w.heap.size + 1 := by simp
      rw [hs] at h
      exact StAt.below h hb2
    obtain ⟨d0, d1, d2⟩ := hB.cells
    go_wp2_with fail
    have s1 : StAt (w2.setCell ⟨w.heap.size, 0, none⟩ (.float .f64 t)) w.heap.size t 0 0 := Blk.set_ hA 0 _
    have s2 : StAt ((w2.setCell ⟨w.heap.size, 0, none⟩ (.float .f64 t)).setCell ⟨w.heap.size, 1, none⟩ (.int .i64 (unI (rdN s (q + 8) 8 : Nat)))) w.heap.size t (unI (rdN s (q + 8) 8 : Nat)) 0 := Blk.set_ s1 1 _
    have s3 : StAt (((w2.setCell ⟨w.heap.size, 0, none⟩ (.float .f64 t)).setCell ⟨w.heap.size, 1, none⟩ (.int .i64 (unI (rdN s (q + 8) 8 : Nat)))).setCell ⟨w.heap.size, 2, none⟩ (.int .i64 (unI (rdN s (q + 16) 8 : Nat)))) w.heap.size t (unI (rdN s (q + 8) 8 : Nat)) (unI (rdN s (q + 16) 8 : Nat)) := Blk.set_ s2 2 _
    obtain ⟨a0, _, _⟩ := s1.cells
    obtain ⟨b0, b1, _⟩ := s2.cells
    obtain ⟨e0, e1, e2⟩ := s3.cells
    refine bodyPost_ret (v := .tuple #[.agg #[.float .f64 t, .int .i64 (unI (rdN s (q + 8) 8 : Nat)), .int .i64 (unI (rdN s (q + 16) 8 : Nat))], .int .i64 ((q : Int) + 8 + 8 + 8), .int .i64 0]) (by simp [results, Try.results54, go_sem, a0, b0, b1, e0, e1, e2]) rfl ⟨?_, ?_⟩
    · rw [show ((q + 24 : Nat) : Int) = (q : Int) + 8 + 8 + 8 by omega]
    · exact (((below_after (by go_grown) hb2).setCell (Nat.le_refl _) _).setCell (Nat.le_refl _) _).setCell (Nat.le_refl _) _
end Go.Proofs.Ytpgbfglfmmohdaa
