/- The last law of pack: what is read is laid as the very bytes. No condition but sizes that any memory has. -/
import Derived.Test.YtpgbfglfmmohdaaLaw01b
set_option linter.unusedVariables false
set_option maxRecDepth 20000
namespace Go.Proofs.Ytpgbfglfmmohdaa
open Go.RowKit Go.Deep

theorem u_once_any (s : ByteArray) (q : Nat) (w : World) (h : q + 8 ≤ s.size) : Calls Try.prog 23 #[.int .u64 (rdN s q 8 : Nat)] w fun e w' => e = .returned (.string (s.extract q (q + 8))) ∧ Below w.heap.size w w' := by
  have hr := rdN_lt s q 8
  rw [← u_once s q h]
  exact u_any _ w (by omega) (by omega)
theorem i_once_any (s : ByteArray) (q : Nat) (w : World) (h : q + 8 ≤ s.size) : Calls Try.prog 25 #[.int .i64 (unI (rdN s q 8 : Nat))] w fun e w' => e = .returned (.string (s.extract q (q + 8))) ∧ Below w.heap.size w w' := by
  rw [← i_once s q h]
  exact i_any _ w
theorem text_once_any (s : ByteArray) (q n : Nat) (w : World) (hn : rdN s q 2 = n) (h : q + 2 + n ≤ s.size) (h4 : n ≤ 4096) :
    Calls Try.prog 27 #[.string (s.extract (q + 2) (q + 2 + n))] w fun e w' => e = .returned (.tuple #[.string (s.extract q (q + 2 + n)), .int .i64 0]) ∧ Below w.heap.size w w' := by
  subst hn
  have hz := ext_size s (q + 2) (q + 2 + rdN s q 2) h
  rw [Nat.add_sub_cancel_left] at hz
  have := text_any (s.extract (q + 2) (q + 2 + rdN s q 2)) w (by omega)
  rw [hz, text_once s q h] at this
  exact this
theorem readtext_ok (s : ByteArray) (q n : Nat) (w : World) (hm : s.size ≤ 9223372036854775807) (hn : rdN s q 2 = n) (h : q + 2 + n ≤ s.size) (h4 : n ≤ 4096) :
    Calls Try.prog 45 #[.string s, .int .i64 q] w fun e w' => e = .returned (.tuple #[.string (s.extract (q + 2) (q + 2 + n)), .int .i64 (q + 2 + n : Nat), .int .i64 0]) ∧ w = w' := by
  subst hn
  obtain ⟨e, e2⟩ := rc_ok (most := 4096) (size := 1) (s := s) (p := q) (by omega) h4 (by omega)
  have h := readtext_all s q w hm
  rw [e, e2, rt_ok e, Nat.one_mul] at h
  exact h
theorem readtext_no (s : ByteArray) (q : Nat) (f : Int) (w : World) (hm : s.size ≤ 9223372036854775807) (hf : rcE 4096 1 s q = f) (hf0 : f ≠ 0) :
    Calls Try.prog 45 #[.string s, .int .i64 q] w fun e w' => e = .returned (.tuple #[.string ⟨#[]⟩, .int .i64 0, .int .i64 f]) ∧ w = w' := by
  subst hf
  have h := readtext_all s q w hm
  rw [rc_no hf0, rt_no hf0] at h
  exact h
theorem readlist_ok (s : ByteArray) (q n : Nat) (w : World) (hm : s.size ≤ 9223372036854775807) (hn : rdN s q 2 = n) (h : q + 2 + 8 * n ≤ s.size) (h4 : n ≤ 512) :
    Calls Try.prog 47 #[.string s, .int .i64 q] w fun e w' => ∃ v, e = .returned (.tuple #[v, .int .i64 (q + 2 + 8 * n : Nat), .int .i64 0]) ∧ OwnI w' w.heap.size v (rlItems s q n) ∧ Below w.heap.size w w' := by
  subst hn
  obtain ⟨e, e2⟩ := rc_ok (most := 512) (size := 8) (s := s) (p := q) (by omega) h4 (by omega)
  refine (readlist_all s q w hm).mono ?_
  rintro e w' ⟨v, rfl, ho, hb⟩
  rw [rl_ok (by assumption)] at ho
  refine ⟨v, ?_, ho, hb⟩
  rw [e2]
  simp only [*]
theorem readlist_no (s : ByteArray) (q : Nat) (f : Int) (w : World) (hm : s.size ≤ 9223372036854775807) (hf : rcE 512 8 s q = f) (hf0 : f ≠ 0) :
    Calls Try.prog 47 #[.string s, .int .i64 q] w fun e w' => ∃ A c, e = .returned (.tuple #[.slice A 0 c, .int .i64 0, .int .i64 f]) ∧ Below w.heap.size w w' := by
  subst hf
  refine (readlist_all s q w hm).mono ?_
  rintro e w' ⟨v, rfl, ho, hb⟩
  rw [rl_no hf0] at ho
  rw [rc_no hf0]
  obtain ⟨A, c, rfl, _⟩ := ho.reads
  exact ⟨A, c, rfl, hb⟩
theorem rc_bad {most size : Nat} {s : ByteArray} {q : Nat} (hq : q ≤ s.size) (h : ¬ (rdN s q 2 ≤ most ∧ q + 2 + size * rdN s q 2 ≤ s.size)) : rcE most size s q ≠ 0 := by
  rcases rc_ways most size s q with h1 | ⟨h0, h1, h2⟩ | ⟨p, hp, h0, h1 | ⟨h1, h2⟩ | ⟨h1, h2⟩⟩
  · rw [rc_range h1]; decide
  · rw [rc_short (by omega) h2]; decide
  · obtain rfl : q = p := by omega
    rw [rc_big h0 h1]; decide
  · obtain rfl : q = p := by omega
    rw [rc_left h0 h1 h2]; decide
  · obtain rfl : q = p := by omega
    exact absurd ⟨h1, h2⟩ h
theorem list_once_any (s : ByteArray) (q n : Nat) (A : Option Addr) (c : Nat) (w : World) (hn : rdN s q 2 = n) (h : q + 2 + 8 * n ≤ s.size) (h4 : n ≤ 512) (hr : Reads w w.heap.size 1 A n ((rlItems s q n).map (Value.int .i64))) :
    Calls Try.prog 29 #[.slice A n c] w fun e w' => e = .returned (.tuple #[.string (s.extract q (q + 2 + 8 * n)), .int .i64 0]) ∧ Below w.heap.size w w' := by
  subst hn
  rw [← list_once_s s q h]
  exact list_any A (rdN s q 2) c _ w (rlItems_length _ _ _) h4 hr

set_option maxHeartbeats 800000 in
theorem once_111 (s : ByteArray) (q n : Nat) (w : World) (hm : s.size ≤ 9223372036854775807) (hq : q ≤ s.size) (hn : rdN s q 2 = n) (hU : q + 8 ≤ s.size) (h3 : q + 2 + n ≤ s.size) (h4 : n ≤ 4096) (h5 : q + 2 + 8 * n ≤ s.size) (h6 : n ≤ 512) :
    Calls Try.prog 13 #[.string s, .int .i64 q] w fun e w' => e = .returned (.bool true) ∧ Below w.heap.size w w' := by
  have Hn := hide hn
  clear hn
  have hsl8 := run_slice_str Try.underlying9 s .i64 .i64 (q : Int) ((q : Int) + 8) q (q + 8) rfl (by omega) (by omega) hU
  have hslt := run_slice_str Try.underlying9 s .i64 .i64 (q : Int) ((q : Int) + 2 + n) q (q + 2 + n) rfl (by omega) (by omega) h3
  have hsll := run_slice_str Try.underlying9 s .i64 .i64 (q : Int) ((q : Int) + 2 + 8 * n) q (q + 2 + 8 * n) rfl (by omega) (by omega) h5
  go_enter Try.func13, Try.ntmps13
  go_wp2_with fail
  refine (readu_any s q _ hU hm).mono ?_
  rintro e w' ⟨rfl, rfl⟩
  go_wp2_with fail
  go_region_held3 (fun _ => True) (exact trivial) ((first | (go_at_call 23; refine (u_once_any s q _ hU).mono ?_; rintro e w1 ⟨rfl, hb1⟩)))
  go_wp2_with fail
  refine (readi_any s q _ hU hm).mono ?_
  rintro e w' ⟨rfl, rfl⟩
  go_wp2_with fail
  go_region_held3 (fun _ => True) (exact trivial) ((first | (go_at_call 25; refine (i_once_any s q _ hU).mono ?_; rintro e w2 ⟨rfl, hb2⟩)))
  have hB2 : Below w.heap.size w w2 := below_after ((below_after (Below.refl _ _).drew hb1).drew) hb2
  clear hb1 hb2
  go_wp2_with fail
  refine (readtext_ok s q n _ hm Hn.out h3 h4).mono ?_
  rintro e w' ⟨rfl, rfl⟩
  go_wp2_with fail
  refine (text_once_any s q n _ Hn.out h3 h4).mono ?_
  rintro e w3 ⟨rfl, hb3⟩
  have hB3 := below_after (hB2) hb3
  clear hb3
  go_wp2_with fail
  refine (readlist_ok s q n _ hm Hn.out h5 h6).mono ?_
  rintro e w4 ⟨v, rfl, ho, hb4⟩
  have hB4 := below_after (hB3) hb4
  obtain ⟨A, c, rfl, hr4, _⟩ := ho.reads
  clear hb4 ho
  rw [rlItems_length] at hr4 ⊢
  go_wp2_with fail
  refine (list_once_any s q n A c _ Hn.out h5 h6 hr4).mono ?_
  rintro e w5 ⟨rfl, hb5⟩
  have hB5 := below_after hB4 hb5
  go_wp2_with fail
  refine (awake01 _).mono ?_
  rintro e w6 ⟨rfl, hb6⟩
  go_wp2
  go_ret
  exact ⟨rfl, below_after hB5 hb6⟩
set_option maxHeartbeats 800000 in
theorem once_110 (s : ByteArray) (q n : Nat) (w : World) (hm : s.size ≤ 9223372036854775807) (hq : q ≤ s.size) (hn : rdN s q 2 = n) (hU : q + 8 ≤ s.size) (h3 : q + 2 + n ≤ s.size) (h4 : n ≤ 4096) (g : Int) (hg : rcE 512 8 s q = g) (hg0 : g ≠ 0) :
    Calls Try.prog 13 #[.string s, .int .i64 q] w fun e w' => e = .returned (.bool true) ∧ Below w.heap.size w w' := by
  have Hn := hide hn
  clear hn
  have Hg := hide hg
  clear hg
  have hg1 : (g == 0) = false := by simpa using hg0
  have hg2 : (g != 0) = true := by simpa using hg0
  have hsl8 := run_slice_str Try.underlying9 s .i64 .i64 (q : Int) ((q : Int) + 8) q (q + 8) rfl (by omega) (by omega) hU
  have hslt := run_slice_str Try.underlying9 s .i64 .i64 (q : Int) ((q : Int) + 2 + n) q (q + 2 + n) rfl (by omega) (by omega) h3
  go_enter Try.func13, Try.ntmps13
  go_wp2_with fail
  refine (readu_any s q _ hU hm).mono ?_
  rintro e w' ⟨rfl, rfl⟩
  go_wp2_with fail
  go_region_held3 (fun _ => True) (exact trivial) ((first | (go_at_call 23; refine (u_once_any s q _ hU).mono ?_; rintro e w1 ⟨rfl, hb1⟩)))
  go_wp2_with fail
  refine (readi_any s q _ hU hm).mono ?_
  rintro e w' ⟨rfl, rfl⟩
  go_wp2_with fail
  go_region_held3 (fun _ => True) (exact trivial) ((first | (go_at_call 25; refine (i_once_any s q _ hU).mono ?_; rintro e w2 ⟨rfl, hb2⟩)))
  have hB2 : Below w.heap.size w w2 := below_after ((below_after (Below.refl _ _).drew hb1).drew) hb2
  clear hb1 hb2
  go_wp2_with fail
  refine (readtext_ok s q n _ hm Hn.out h3 h4).mono ?_
  rintro e w' ⟨rfl, rfl⟩
  go_wp2_with fail
  refine (text_once_any s q n _ Hn.out h3 h4).mono ?_
  rintro e w3 ⟨rfl, hb3⟩
  have hB3 := below_after (hB2) hb3
  clear hb3
  go_wp2_with fail
  refine (readlist_no s q g _ hm Hg.out hg0).mono ?_
  rintro e w4 ⟨A, c, rfl, hb4⟩
  have hB4 := below_after (hB3) hb4
  go_wp2_with fail
  refine (awake01 _).mono ?_
  rintro e w5 ⟨rfl, hb5⟩
  go_wp2
  go_ret
  exact ⟨rfl, below_after hB4 hb5⟩
set_option maxHeartbeats 800000 in
theorem once_101 (s : ByteArray) (q n : Nat) (w : World) (hm : s.size ≤ 9223372036854775807) (hq : q ≤ s.size) (hn : rdN s q 2 = n) (hU : q + 8 ≤ s.size) (f : Int) (hf : rcE 4096 1 s q = f) (hf0 : f ≠ 0) (h5 : q + 2 + 8 * n ≤ s.size) (h6 : n ≤ 512) :
    Calls Try.prog 13 #[.string s, .int .i64 q] w fun e w' => e = .returned (.bool true) ∧ Below w.heap.size w w' := by
  have Hn := hide hn
  clear hn
  have Hf := hide hf
  clear hf
  have hf1 : (f == 0) = false := by simpa using hf0
  have hsl8 := run_slice_str Try.underlying9 s .i64 .i64 (q : Int) ((q : Int) + 8) q (q + 8) rfl (by omega) (by omega) hU
  have hsll := run_slice_str Try.underlying9 s .i64 .i64 (q : Int) ((q : Int) + 2 + 8 * n) q (q + 2 + 8 * n) rfl (by omega) (by omega) h5
  go_enter Try.func13, Try.ntmps13
  go_wp2_with fail
  refine (readu_any s q _ hU hm).mono ?_
  rintro e w' ⟨rfl, rfl⟩
  go_wp2_with fail
  go_region_held3 (fun _ => True) (exact trivial) ((first | (go_at_call 23; refine (u_once_any s q _ hU).mono ?_; rintro e w1 ⟨rfl, hb1⟩)))
  go_wp2_with fail
  refine (readi_any s q _ hU hm).mono ?_
  rintro e w' ⟨rfl, rfl⟩
  go_wp2_with fail
  go_region_held3 (fun _ => True) (exact trivial) ((first | (go_at_call 25; refine (i_once_any s q _ hU).mono ?_; rintro e w2 ⟨rfl, hb2⟩)))
  have hB2 : Below w.heap.size w w2 := below_after ((below_after (Below.refl _ _).drew hb1).drew) hb2
  clear hb1 hb2
  go_wp2_with fail
  refine (readtext_no s q f _ hm Hf.out hf0).mono ?_
  rintro e w' ⟨rfl, rfl⟩
  go_wp2_with fail
  refine (readlist_ok s q n _ hm Hn.out h5 h6).mono ?_
  rintro e w4 ⟨v, rfl, ho, hb4⟩
  have hB4 := below_after (hB2) hb4
  obtain ⟨A, c, rfl, hr4, _⟩ := ho.reads
  clear hb4 ho
  rw [rlItems_length] at hr4 ⊢
  go_wp2_with fail
  refine (list_once_any s q n A c _ Hn.out h5 h6 hr4).mono ?_
  rintro e w5 ⟨rfl, hb5⟩
  have hB5 := below_after hB4 hb5
  go_wp2_with fail
  refine (awake01 _).mono ?_
  rintro e w6 ⟨rfl, hb6⟩
  go_wp2
  go_ret
  exact ⟨rfl, below_after hB5 hb6⟩
set_option maxHeartbeats 800000 in
theorem once_100 (s : ByteArray) (q n : Nat) (w : World) (hm : s.size ≤ 9223372036854775807) (hq : q ≤ s.size) (hn : rdN s q 2 = n) (hU : q + 8 ≤ s.size) (f : Int) (hf : rcE 4096 1 s q = f) (hf0 : f ≠ 0) (g : Int) (hg : rcE 512 8 s q = g) (hg0 : g ≠ 0) :
    Calls Try.prog 13 #[.string s, .int .i64 q] w fun e w' => e = .returned (.bool true) ∧ Below w.heap.size w w' := by
  have Hn := hide hn
  clear hn
  have Hf := hide hf
  clear hf
  have hf1 : (f == 0) = false := by simpa using hf0
  have Hg := hide hg
  clear hg
  have hg1 : (g == 0) = false := by simpa using hg0
  have hg2 : (g != 0) = true := by simpa using hg0
  have hsl8 := run_slice_str Try.underlying9 s .i64 .i64 (q : Int) ((q : Int) + 8) q (q + 8) rfl (by omega) (by omega) hU
  go_enter Try.func13, Try.ntmps13
  go_wp2_with fail
  refine (readu_any s q _ hU hm).mono ?_
  rintro e w' ⟨rfl, rfl⟩
  go_wp2_with fail
  go_region_held3 (fun _ => True) (exact trivial) ((first | (go_at_call 23; refine (u_once_any s q _ hU).mono ?_; rintro e w1 ⟨rfl, hb1⟩)))
  go_wp2_with fail
  refine (readi_any s q _ hU hm).mono ?_
  rintro e w' ⟨rfl, rfl⟩
  go_wp2_with fail
  go_region_held3 (fun _ => True) (exact trivial) ((first | (go_at_call 25; refine (i_once_any s q _ hU).mono ?_; rintro e w2 ⟨rfl, hb2⟩)))
  have hB2 : Below w.heap.size w w2 := below_after ((below_after (Below.refl _ _).drew hb1).drew) hb2
  clear hb1 hb2
  go_wp2_with fail
  refine (readtext_no s q f _ hm Hf.out hf0).mono ?_
  rintro e w' ⟨rfl, rfl⟩
  go_wp2_with fail
  refine (readlist_no s q g _ hm Hg.out hg0).mono ?_
  rintro e w4 ⟨A, c, rfl, hb4⟩
  have hB4 := below_after (hB2) hb4
  go_wp2_with fail
  refine (awake01 _).mono ?_
  rintro e w5 ⟨rfl, hb5⟩
  go_wp2
  go_ret
  exact ⟨rfl, below_after hB4 hb5⟩
set_option maxHeartbeats 800000 in
theorem once_011 (s : ByteArray) (q n : Nat) (w : World) (hm : s.size ≤ 9223372036854775807) (hq : q ≤ s.size) (hn : rdN s q 2 = n) (hU : s.size < q + 8) (h3 : q + 2 + n ≤ s.size) (h4 : n ≤ 4096) (h5 : q + 2 + 8 * n ≤ s.size) (h6 : n ≤ 512) :
    Calls Try.prog 13 #[.string s, .int .i64 q] w fun e w' => e = .returned (.bool true) ∧ Below w.heap.size w w' := by
  have Hn := hide hn
  clear hn
  have hslt := run_slice_str Try.underlying9 s .i64 .i64 (q : Int) ((q : Int) + 2 + n) q (q + 2 + n) rfl (by omega) (by omega) h3
  have hsll := run_slice_str Try.underlying9 s .i64 .i64 (q : Int) ((q : Int) + 2 + 8 * n) q (q + 2 + 8 * n) rfl (by omega) (by omega) h5
  go_enter Try.func13, Try.ntmps13
  go_wp2_with fail
  refine (readu_short s q _ (by omega) (by omega) (by omega) hm).mono ?_
  rintro e w' ⟨rfl, rfl⟩
  go_wp2_with fail
  go_quiet (fail)
  go_wp2_with fail
  refine (readi_short s q _ (by omega) (by omega) (by omega) hm).mono ?_
  rintro e w' ⟨rfl, rfl⟩
  go_wp2_with fail
  go_quiet (fail)
  go_wp2_with fail
  refine (readtext_ok s q n _ hm Hn.out h3 h4).mono ?_
  rintro e w' ⟨rfl, rfl⟩
  go_wp2_with fail
  refine (text_once_any s q n _ Hn.out h3 h4).mono ?_
  rintro e w3 ⟨rfl, hb3⟩
  have hB3 := below_after (below_drewN (Below.refl _ _) _) hb3
  clear hb3
  go_wp2_with fail
  refine (readlist_ok s q n _ hm Hn.out h5 h6).mono ?_
  rintro e w4 ⟨v, rfl, ho, hb4⟩
  have hB4 := below_after (hB3) hb4
  obtain ⟨A, c, rfl, hr4, _⟩ := ho.reads
  clear hb4 ho
  rw [rlItems_length] at hr4 ⊢
  go_wp2_with fail
  refine (list_once_any s q n A c _ Hn.out h5 h6 hr4).mono ?_
  rintro e w5 ⟨rfl, hb5⟩
  have hB5 := below_after hB4 hb5
  go_wp2_with fail
  refine (awake01 _).mono ?_
  rintro e w6 ⟨rfl, hb6⟩
  go_wp2
  go_ret
  exact ⟨rfl, below_after hB5 hb6⟩
set_option maxHeartbeats 800000 in
theorem once_010 (s : ByteArray) (q n : Nat) (w : World) (hm : s.size ≤ 9223372036854775807) (hq : q ≤ s.size) (hn : rdN s q 2 = n) (hU : s.size < q + 8) (h3 : q + 2 + n ≤ s.size) (h4 : n ≤ 4096) (g : Int) (hg : rcE 512 8 s q = g) (hg0 : g ≠ 0) :
    Calls Try.prog 13 #[.string s, .int .i64 q] w fun e w' => e = .returned (.bool true) ∧ Below w.heap.size w w' := by
  have Hn := hide hn
  clear hn
  have Hg := hide hg
  clear hg
  have hg1 : (g == 0) = false := by simpa using hg0
  have hg2 : (g != 0) = true := by simpa using hg0
  have hslt := run_slice_str Try.underlying9 s .i64 .i64 (q : Int) ((q : Int) + 2 + n) q (q + 2 + n) rfl (by omega) (by omega) h3
  go_enter Try.func13, Try.ntmps13
  go_wp2_with fail
  refine (readu_short s q _ (by omega) (by omega) (by omega) hm).mono ?_
  rintro e w' ⟨rfl, rfl⟩
  go_wp2_with fail
  go_quiet (fail)
  go_wp2_with fail
  refine (readi_short s q _ (by omega) (by omega) (by omega) hm).mono ?_
  rintro e w' ⟨rfl, rfl⟩
  go_wp2_with fail
  go_quiet (fail)
  go_wp2_with fail
  refine (readtext_ok s q n _ hm Hn.out h3 h4).mono ?_
  rintro e w' ⟨rfl, rfl⟩
  go_wp2_with fail
  refine (text_once_any s q n _ Hn.out h3 h4).mono ?_
  rintro e w3 ⟨rfl, hb3⟩
  have hB3 := below_after (below_drewN (Below.refl _ _) _) hb3
  clear hb3
  go_wp2_with fail
  refine (readlist_no s q g _ hm Hg.out hg0).mono ?_
  rintro e w4 ⟨A, c, rfl, hb4⟩
  have hB4 := below_after (hB3) hb4
  go_wp2_with fail
  refine (awake01 _).mono ?_
  rintro e w5 ⟨rfl, hb5⟩
  go_wp2
  go_ret
  exact ⟨rfl, below_after hB4 hb5⟩
set_option maxHeartbeats 800000 in
theorem once_001 (s : ByteArray) (q n : Nat) (w : World) (hm : s.size ≤ 9223372036854775807) (hq : q ≤ s.size) (hn : rdN s q 2 = n) (hU : s.size < q + 8) (f : Int) (hf : rcE 4096 1 s q = f) (hf0 : f ≠ 0) (h5 : q + 2 + 8 * n ≤ s.size) (h6 : n ≤ 512) :
    Calls Try.prog 13 #[.string s, .int .i64 q] w fun e w' => e = .returned (.bool true) ∧ Below w.heap.size w w' := by
  have Hn := hide hn
  clear hn
  have Hf := hide hf
  clear hf
  have hf1 : (f == 0) = false := by simpa using hf0
  have hsll := run_slice_str Try.underlying9 s .i64 .i64 (q : Int) ((q : Int) + 2 + 8 * n) q (q + 2 + 8 * n) rfl (by omega) (by omega) h5
  go_enter Try.func13, Try.ntmps13
  go_wp2_with fail
  refine (readu_short s q _ (by omega) (by omega) (by omega) hm).mono ?_
  rintro e w' ⟨rfl, rfl⟩
  go_wp2_with fail
  go_quiet (fail)
  go_wp2_with fail
  refine (readi_short s q _ (by omega) (by omega) (by omega) hm).mono ?_
  rintro e w' ⟨rfl, rfl⟩
  go_wp2_with fail
  go_quiet (fail)
  go_wp2_with fail
  refine (readtext_no s q f _ hm Hf.out hf0).mono ?_
  rintro e w' ⟨rfl, rfl⟩
  go_wp2_with fail
  refine (readlist_ok s q n _ hm Hn.out h5 h6).mono ?_
  rintro e w4 ⟨v, rfl, ho, hb4⟩
  have hB4 := below_after (below_drewN (Below.refl _ _) _) hb4
  obtain ⟨A, c, rfl, hr4, _⟩ := ho.reads
  clear hb4 ho
  rw [rlItems_length] at hr4 ⊢
  go_wp2_with fail
  refine (list_once_any s q n A c _ Hn.out h5 h6 hr4).mono ?_
  rintro e w5 ⟨rfl, hb5⟩
  have hB5 := below_after hB4 hb5
  go_wp2_with fail
  refine (awake01 _).mono ?_
  rintro e w6 ⟨rfl, hb6⟩
  go_wp2
  go_ret
  exact ⟨rfl, below_after hB5 hb6⟩
set_option maxHeartbeats 800000 in
theorem once_000 (s : ByteArray) (q n : Nat) (w : World) (hm : s.size ≤ 9223372036854775807) (hq : q ≤ s.size) (hn : rdN s q 2 = n) (hU : s.size < q + 8) (f : Int) (hf : rcE 4096 1 s q = f) (hf0 : f ≠ 0) (g : Int) (hg : rcE 512 8 s q = g) (hg0 : g ≠ 0) :
    Calls Try.prog 13 #[.string s, .int .i64 q] w fun e w' => e = .returned (.bool true) ∧ Below w.heap.size w w' := by
  have Hn := hide hn
  clear hn
  have Hf := hide hf
  clear hf
  have hf1 : (f == 0) = false := by simpa using hf0
  have Hg := hide hg
  clear hg
  have hg1 : (g == 0) = false := by simpa using hg0
  have hg2 : (g != 0) = true := by simpa using hg0
  go_enter Try.func13, Try.ntmps13
  go_wp2_with fail
  refine (readu_short s q _ (by omega) (by omega) (by omega) hm).mono ?_
  rintro e w' ⟨rfl, rfl⟩
  go_wp2_with fail
  go_quiet (fail)
  go_wp2_with fail
  refine (readi_short s q _ (by omega) (by omega) (by omega) hm).mono ?_
  rintro e w' ⟨rfl, rfl⟩
  go_wp2_with fail
  go_quiet (fail)
  go_wp2_with fail
  refine (readtext_no s q f _ hm Hf.out hf0).mono ?_
  rintro e w' ⟨rfl, rfl⟩
  go_wp2_with fail
  refine (readlist_no s q g _ hm Hg.out hg0).mono ?_
  rintro e w4 ⟨A, c, rfl, hb4⟩
  have hB4 := below_after (below_drewN (Below.refl _ _) _) hb4
  go_wp2_with fail
  refine (awake01 _).mono ?_
  rintro e w5 ⟨rfl, hb5⟩
  go_wp2
  go_ret
  exact ⟨rfl, below_after hB4 hb5⟩

theorem once_walk (s : ByteArray) (p : Int) (w : World) (hm : s.size ≤ 9223372036854775807) :
    Calls Try.prog 13 #[.string s, .int .i64 p] w fun e w' => e = .returned (.bool true) ∧ Below w.heap.size w w' := by
  by_cases h0 : p < 0
  · go_enter Try.func13, Try.ntmps13
    go_wp2_with fail
    refine (awake01 _).mono ?_
    rintro e w1 ⟨rfl, hb1⟩
    go_wp2
    go_ret
    exact ⟨rfl, hb1⟩
  by_cases h1 : (s.size : Int) < p
  · go_enter Try.func13, Try.ntmps13
    go_wp2_with fail
    refine (awake01 _).mono ?_
    rintro e w1 ⟨rfl, hb1⟩
    go_wp2
    go_ret
    exact ⟨rfl, hb1⟩
  obtain ⟨q, rfl⟩ := Int.eq_ofNat_of_zero_le (show 0 ≤ p by omega)
  have hq : q ≤ s.size := by omega
  clear h0 h1
  by_cases hT : rdN s q 2 ≤ 4096 ∧ q + 2 + 1 * rdN s q 2 ≤ s.size <;> by_cases hL : rdN s q 2 ≤ 512 ∧ q + 2 + 8 * rdN s q 2 ≤ s.size
  · by_cases hU : q + 8 ≤ s.size
    · exact once_111 s q _ w hm hq rfl hU (by omega) (by omega) (by omega) (by omega)
    · exact once_011 s q _ w hm hq rfl (by omega) (by omega) (by omega) (by omega) (by omega)
  · by_cases hU : q + 8 ≤ s.size
    · exact once_110 s q _ w hm hq rfl hU (by omega) (by omega) _ rfl (rc_bad hq hL)
    · exact once_010 s q _ w hm hq rfl (by omega) (by omega) (by omega) _ rfl (rc_bad hq hL)
  · by_cases hU : q + 8 ≤ s.size
    · exact once_101 s q _ w hm hq rfl hU _ rfl (rc_bad hq hT) (by omega) (by omega)
    · exact once_001 s q _ w hm hq rfl (by omega) _ rfl (rc_bad hq hT) (by omega) (by omega)
  · by_cases hU : q + 8 ≤ s.size
    · exact once_100 s q _ w hm hq rfl hU _ rfl (rc_bad hq hT) _ rfl (rc_bad hq hL)
    · exact once_000 s q _ w hm hq rfl (by omega) _ rfl (rc_bad hq hT) _ rfl (rc_bad hq hL)
end Go.Proofs.Ytpgbfglfmmohdaa
