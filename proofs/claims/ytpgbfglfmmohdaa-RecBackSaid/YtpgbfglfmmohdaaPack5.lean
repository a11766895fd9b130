/- More walks of package pack: texts read, by the package and by the reference. No condition but sizes that any memory has. -/
import Derived.Test.YtpgbfglfmmohdaaPack4
set_option linter.unusedVariables false
set_option maxRecDepth 20000
namespace Go.Proofs.Ytpgbfglfmmohdaa
open Go.RowKit Go.Deep

theorem geti_any (s : ByteArray) (w : World) (hs : s.size ≤ 2) :
    Calls Try.prog 108 #[.string s] w fun e w' => e = .returned (.int .i64 (rdN s 0 s.size : Nat)) ∧ w = w' := by
  have hfin : rdN s 0 s.size ≤ 65535 := by
    have h1 := rdN_lt s 0 s.size
    have h2 : (256 : Nat) ^ s.size ≤ 256 ^ 2 := Nat.pow_le_pow_right (by decide) hs
    omega
  go_enter Try.func108, Try.ntmps108
  go_wp2
  go_loop [3, 7] (fun n i => ∃ k : Nat, k ≤ s.size ∧ i = .int .i64 k ∧ n = .int .u64 (rdN s 0 k : Nat)) (fun _ i => s.size - (intOf i).toNat)
  case atStart => exact ⟨0, Nat.zero_le _, rfl, by rw [rdN_zero]; rfl⟩
  case round =>
    obtain ⟨k, hk, rfl, rfl⟩ := hrel
    by_cases hlt : k < s.size
    · have Hs := hide (show rdN s 0 (k + 1) = rdN s 0 k * 256 + s[k].toNat by simpa using rdN_succ s 0 k (by omega))
      have hm : rdN s 0 k ≤ 72057594037927935 := by
        have h1 := rdN_lt s 0 k
        have h2 : (256 : Nat) ^ k ≤ 256 ^ 7 := Nat.pow_le_pow_right (by decide) (by omega)
        omega
      have hb := s[k].toNat_lt
      have ho := or_byte (rdN s 0 k) s[k].toNat hm hb
      generalize rdN s 0 k = m at *
      go_wp2
      go_round
      case rel => exact ⟨k + 1, by omega, by go_num, by rw [Hs.out]; simp⟩
      case measure => simp [intOf]; omega
    · obtain rfl : k = s.size := by omega
      go_wp2
      go_ret
      exact ⟨rfl, rfl⟩
theorem rd2_le (s : ByteArray) (p : Nat) : rdN s p 2 ≤ 65535 := by
  have := rdN_lt s p 2
  omega

theorem count_range (s : ByteArray) (p m : Int) (w : World) (h : p < 0 ∨ (s.size : Int) < p) (hm : s.size ≤ 9223372036854775807) :
    Calls Try.prog 94 #[.string s, .int .i64 p, .int .i64 m] w fun e w' => e = .returned (.tuple #[.int .i64 0, .int .i64 0, .int .i64 3]) ∧ w = w' := by
  go_enter Try.func94, Try.ntmps94
  go_wp2_with fail
  refine (left_range _ _ _ _ h hm).mono ?_
  rintro e w' ⟨rfl, rfl⟩
  go_wp2
  go_ret3
  exact ⟨rfl, rfl⟩
theorem count_short (s : ByteArray) (p m : Int) (w : World) (h0 : 0 ≤ p) (h1 : p ≤ s.size) (h : (s.size : Int) - p < 2) (hm : s.size ≤ 9223372036854775807) :
    Calls Try.prog 94 #[.string s, .int .i64 p, .int .i64 m] w fun e w' => e = .returned (.tuple #[.int .i64 0, .int .i64 0, .int .i64 5]) ∧ w = w' := by
  go_enter Try.func94, Try.ntmps94
  go_wp2_with fail
  refine (left_short _ _ _ _ h0 h1 h hm).mono ?_
  rintro e w' ⟨rfl, rfl⟩
  go_wp2
  go_ret3
  exact ⟨rfl, rfl⟩
theorem count_big (s : ByteArray) (p : Nat) (m : Int) (w : World) (h : p + 2 ≤ s.size) (hb : m < rdN s p 2) (hm : s.size ≤ 9223372036854775807) :
    Calls Try.prog 94 #[.string s, .int .i64 p, .int .i64 m] w fun e w' => e = .returned (.tuple #[.int .i64 0, .int .i64 0, .int .i64 4]) ∧ w = w' := by
  have Hr := hide (rdN_extract s p 2 h)
  have hz : (s.extract p (p + 2)).size ≤ 2 := by simp; omega
  have hsl := run_slice_str Try.underlying9 s .i64 .i64 (p : Int) ((p : Int) + 2) p (p + 2) rfl (by omega) (by omega) h
  go_enter Try.func94, Try.ntmps94
  go_wp2_with fail
  refine (left_ok _ _ _ _ (by omega) (by omega) (by omega) hm).mono ?_
  rintro e w' ⟨rfl, rfl⟩
  go_wp2_with fail
  refine (geti_any _ _ hz).mono ?_
  rw [Hr.out]
  rintro e w' ⟨rfl, rfl⟩
  go_wp2
  go_ret3
  exact ⟨rfl, rfl⟩
theorem count_ok (s : ByteArray) (p : Nat) (m : Int) (w : World) (h : p + 2 ≤ s.size) (hb : (rdN s p 2 : Int) ≤ m) (hm : s.size ≤ 9223372036854775807) :
    Calls Try.prog 94 #[.string s, .int .i64 p, .int .i64 m] w fun e w' => e = .returned (.tuple #[.int .i64 (rdN s p 2 : Nat), .int .i64 (p + 2 : Nat), .int .i64 0]) ∧ w = w' := by
  have Hr := hide (rdN_extract s p 2 h)
  have hz : (s.extract p (p + 2)).size ≤ 2 := by simp; omega
  have hsl := run_slice_str Try.underlying9 s .i64 .i64 (p : Int) ((p : Int) + 2) p (p + 2) rfl (by omega) (by omega) h
  go_enter Try.func94, Try.ntmps94
  go_wp2_with fail
  refine (left_ok _ _ _ _ (by omega) (by omega) (by omega) hm).mono ?_
  rintro e w' ⟨rfl, rfl⟩
  go_wp2_with fail
  refine (geti_any _ _ hz).mono ?_
  rw [Hr.out]
  rintro e w' ⟨rfl, rfl⟩
  go_wp2
  go_ret3
  exact ⟨rfl, rfl⟩

/-! What stands at any place, read as so many items of so many bytes each, ahead of them their number. -/
def rcE (most size : Nat) (s : ByteArray) (p : Int) : Int :=
  if p < 0 ∨ (s.size : Int) < p then 3 else if (s.size : Int) - p < 2 then 5 else if most < rdN s p.toNat 2 then 4 else if (s.size : Int) - p - 2 < (size * rdN s p.toNat 2 : Nat) then 5 else 0
def rcP (most size : Nat) (s : ByteArray) (p : Int) : Int := if rcE most size s p = 0 then p + 2 + (size * rdN s p.toNat 2 : Nat) else 0
def rtS (s : ByteArray) (p : Int) : ByteArray := if rcE 4096 1 s p = 0 then s.extract (p.toNat + 2) (p.toNat + 2 + rdN s p.toNat 2) else ⟨#[]⟩

theorem rc_range {most size : Nat} {s : ByteArray} {p : Int} (h : p < 0 ∨ (s.size : Int) < p) : rcE most size s p = 3 := by unfold rcE; rw [if_pos h]
theorem rc_short {most size : Nat} {s : ByteArray} {p : Int} (h : ¬ (p < 0 ∨ (s.size : Int) < p)) (h2 : (s.size : Int) - p < 2) : rcE most size s p = 5 := by unfold rcE; rw [if_neg h, if_pos h2]
theorem rc_big {most size : Nat} {s : ByteArray} {p : Nat} (h : p + 2 ≤ s.size) (h2 : most < rdN s p 2) : rcE most size s p = 4 := by
  unfold rcE; rw [if_neg (by omega), if_neg (by omega), if_pos (by simpa using h2)]
theorem rc_left {most size : Nat} {s : ByteArray} {p : Nat} (h : p + 2 ≤ s.size) (h2 : rdN s p 2 ≤ most) (h3 : s.size < p + 2 + size * rdN s p 2) : rcE most size s p = 5 := by
  unfold rcE; rw [if_neg (by omega), if_neg (by omega), Int.toNat_natCast, if_neg (by omega), if_pos (by omega)]
theorem rc_ok {most size : Nat} {s : ByteArray} {p : Nat} (h : p + 2 ≤ s.size) (h2 : rdN s p 2 ≤ most) (h3 : p + 2 + size * rdN s p 2 ≤ s.size) : rcE most size s p = 0 ∧ rcP most size s p = (p + 2 + size * rdN s p 2 : Nat) := by
  have e : rcE most size s p = 0 := by
    unfold rcE; rw [if_neg (by omega), if_neg (by omega), Int.toNat_natCast, if_neg (by omega), if_neg (by omega)]
  refine ⟨e, ?_⟩
  unfold rcP
  rw [if_pos e, Int.toNat_natCast]
  omega
theorem rc_no {most size : Nat} {s : ByteArray} {p : Int} (h : rcE most size s p ≠ 0) : rcP most size s p = 0 := by unfold rcP; rw [if_neg h]
theorem rt_no {s : ByteArray} {p : Int} (h : rcE 4096 1 s p ≠ 0) : rtS s p = ⟨#[]⟩ := by unfold rtS; rw [if_neg h]
theorem rt_ok {s : ByteArray} {p : Nat} (h : rcE 4096 1 s p = 0) : rtS s p = s.extract (p + 2) (p + 2 + rdN s p 2) := by unfold rtS; rw [if_pos h, Int.toNat_natCast]

/-- The five ways of a place at which a list is to be read. -/
theorem rc_ways (most size : Nat) (s : ByteArray) (p : Int) : (p < 0 ∨ (s.size : Int) < p) ∨ (0 ≤ p ∧ p ≤ s.size ∧ (s.size : Int) - p < 2) ∨
    ∃ q : Nat, p = q ∧ q + 2 ≤ s.size ∧ (most < rdN s q 2 ∨ rdN s q 2 ≤ most ∧ s.size < q + 2 + size * rdN s q 2 ∨ rdN s q 2 ≤ most ∧ q + 2 + size * rdN s q 2 ≤ s.size) := by
  by_cases h : p < 0 ∨ (s.size : Int) < p
  · exact .inl h
  · by_cases h2 : (s.size : Int) - p < 2
    · exact .inr (.inl ⟨by omega, by omega, h2⟩)
    · obtain ⟨q, rfl⟩ := Int.eq_ofNat_of_zero_le (show 0 ≤ p by omega)
      exact .inr (.inr ⟨q, rfl, by omega, by omega⟩)

theorem readtext_all (s : ByteArray) (p : Int) (w : World) (hm : s.size ≤ 9223372036854775807) :
    Calls Try.prog 45 #[.string s, .int .i64 p] w fun e w' => e = .returned (.tuple #[.string (rtS s p), .int .i64 (rcP 4096 1 s p), .int .i64 (rcE 4096 1 s p)]) ∧ w = w' := by
  rcases rc_ways 4096 1 s p with h | ⟨h0, h1, h2⟩ | ⟨q, rfl, h0, h | ⟨h1, h2⟩ | ⟨h1, h2⟩⟩
  · have e := rc_range (most := 4096) (size := 1) h
    rw [rt_no (by rw [e]; decide), rc_no (by rw [e]; decide), e]
    go_enter Try.func45, Try.ntmps45
    go_wp2_with fail
    refine (count_range _ _ _ _ h hm).mono ?_
    rintro e w' ⟨rfl, rfl⟩
    go_wp2
    go_ret3
    exact ⟨rfl, rfl⟩
  · have e := rc_short (most := 4096) (size := 1) (s := s) (p := p) (by omega) h2
    rw [rt_no (by rw [e]; decide), rc_no (by rw [e]; decide), e]
    go_enter Try.func45, Try.ntmps45
    go_wp2_with fail
    refine (count_short _ _ _ _ h0 h1 h2 hm).mono ?_
    rintro e w' ⟨rfl, rfl⟩
    go_wp2
    go_ret3
    exact ⟨rfl, rfl⟩
  · have e := rc_big (most := 4096) (size := 1) h0 h
    rw [rt_no (by rw [e]; decide), rc_no (by rw [e]; decide), e]
    go_enter Try.func45, Try.ntmps45
    go_wp2_with fail
    refine (count_big _ _ _ _ h0 (by omega) hm).mono ?_
    rintro e w' ⟨rfl, rfl⟩
    go_wp2
    go_ret3
    exact ⟨rfl, rfl⟩
  · have e := rc_left (most := 4096) (size := 1) h0 h1 h2
    rw [rt_no (by rw [e]; decide), rc_no (by rw [e]; decide), e]
    clear e
    go_enter Try.func45, Try.ntmps45
    go_wp2_with fail
    refine (count_ok _ _ _ _ h0 (by omega) hm).mono ?_
    rintro e w' ⟨rfl, rfl⟩
    go_wp2_with fail
    refine (left_short _ _ _ _ (by omega) (by omega) (by omega) hm).mono ?_
    rintro e w' ⟨rfl, rfl⟩
    go_wp2
    go_ret3
    exact ⟨rfl, rfl⟩
  · obtain ⟨e, e2⟩ := rc_ok (most := 4096) (size := 1) h0 h1 h2
    have e3 := rt_ok e
    rw [e, e2, e3]
    clear e e2 e3
    rw [Nat.one_mul] at h2 ⊢
    obtain ⟨n, hn⟩ : ∃ n, n = rdN s q 2 := ⟨_, rfl⟩
    rw [← hn] at h1 h2 ⊢
    have Hn := hide hn
    clear hn
    have hsl := run_slice_str Try.underlying9 s .i64 .i64 ((q : Int) + 2) ((q : Int) + 2 + n) (q + 2) (q + 2 + n) (by omega) (by omega) (by omega) h2
    go_enter Try.func45, Try.ntmps45
    go_wp2_with fail
    refine (count_ok _ _ _ _ h0 (by rw [← Hn.out]; omega) hm).mono ?_
    rw [← Hn.out]
    rintro e w' ⟨rfl, rfl⟩
    go_wp2_with fail
    refine (left_ok _ _ _ _ (by omega) (by omega) (by omega) hm).mono ?_
    rintro e w' ⟨rfl, rfl⟩
    go_wp2
    go_ret3
    exact ⟨rfl, rfl⟩

theorem rd2_eq (s : ByteArray) (q : Nat) (h : q + 2 ≤ s.size) : s[q].toNat * 256 + s[q + 1].toNat = rdN s q 2 := by
  rw [rdN_succ s q 1 (by omega), rdN_succ s q 0 (by omega), rdN_zero]
  simp
theorem rreadtext_all (s : ByteArray) (p : Int) (w : World) (hm : s.size ≤ 9223372036854775807) :
    Calls Try.prog 46 #[.string s, .int .i64 p] w fun e w' => e = .returned (.tuple #[.string (rtS s p), .int .i64 (rcP 4096 1 s p), .int .i64 (rcE 4096 1 s p)]) ∧ ∃ k, w' = w.drewN k := by
  rcases rc_ways 4096 1 s p with h | ⟨h0, h1, h2⟩ | ⟨q, rfl, h0, hh⟩
  · have e := rc_range (most := 4096) (size := 1) h
    rw [rt_no (by rw [e]; decide), rc_no (by rw [e]; decide), e]
    clear e
    rcases h with h | h
    · go_enter Try.func46, Try.ntmps46
      go_wp2
      go_ret3
      exact ⟨rfl, 0, rfl⟩
    · go_enter Try.func46, Try.ntmps46
      go_wp2
      all_goals go_ret3
      all_goals exact ⟨rfl, 0, rfl⟩
  · have e := rc_short (most := 4096) (size := 1) (s := s) (p := p) (by omega) h2
    rw [rt_no (by rw [e]; decide), rc_no (by rw [e]; decide), e]
    clear e
    go_enter Try.func46, Try.ntmps46
    go_wp2
    go_ret3
    exact ⟨rfl, 0, rfl⟩
  · have hq1 : q < s.size := by omega
    have hq2 : q + 1 < s.size := by omega
    have Hn := hide (rd2_eq s q h0)
    have hb1 := s[q].toNat_lt
    have hb2 := s[q + 1].toNat_lt
    rcases hh with h | ⟨h1, h2⟩ | ⟨h1, h2⟩
    · have e := rc_big (most := 4096) (size := 1) h0 h
      rw [rt_no (by rw [e]; decide), rc_no (by rw [e]; decide), e]
      clear e
      rw [← Hn.out] at h
      have k1 : IntKind.i64.wrap ((q : Int) + 1) = (q : Int) + 1 := IntWalk.i64_in _ (by omega)
      have k2 : IntKind.i64.wrap (s[q].toNat : Int) = (s[q].toNat : Int) := IntWalk.i64_in _ (by omega)
      have k3 : IntKind.i64.wrap ((s[q].toNat : Int) * 256) = (s[q].toNat : Int) * 256 := IntWalk.i64_in _ (by omega)
      have k4 : IntKind.i64.wrap (s[q + 1].toNat : Int) = (s[q + 1].toNat : Int) := IntWalk.i64_in _ (by omega)
      have k5 : IntKind.i64.wrap ((s[q].toNat : Int) * 256 + (s[q + 1].toNat : Int)) = (s[q].toNat : Int) * 256 + (s[q + 1].toNat : Int) := IntWalk.i64_in _ (by omega)
      have k6 : 0 ≤ (q : Int) + 1 := by omega
      have k7 := run_index_str Try.underlying9 s .i64 ((q : Int) + 1) (q + 1) (by omega) hq2
      go_enter Try.func46, Try.ntmps46
      go_wp2
      go_quiet (fail)
      clear k1 k2 k3 k4 k5 k6 k7
      go_wp2
      go_ret3
      exact ⟨rfl, _, rfl⟩
    · have e := rc_left (most := 4096) (size := 1) h0 h1 h2
      rw [rt_no (by rw [e]; decide), rc_no (by rw [e]; decide), e]
      clear e
      rw [← Hn.out] at h1 h2
      have k1 : IntKind.i64.wrap ((q : Int) + 1) = (q : Int) + 1 := IntWalk.i64_in _ (by omega)
      have k2 : IntKind.i64.wrap (s[q].toNat : Int) = (s[q].toNat : Int) := IntWalk.i64_in _ (by omega)
      have k3 : IntKind.i64.wrap ((s[q].toNat : Int) * 256) = (s[q].toNat : Int) * 256 := IntWalk.i64_in _ (by omega)
      have k4 : IntKind.i64.wrap (s[q + 1].toNat : Int) = (s[q + 1].toNat : Int) := IntWalk.i64_in _ (by omega)
      have k5 : IntKind.i64.wrap ((s[q].toNat : Int) * 256 + (s[q + 1].toNat : Int)) = (s[q].toNat : Int) * 256 + (s[q + 1].toNat : Int) := IntWalk.i64_in _ (by omega)
      have k6 : 0 ≤ (q : Int) + 1 := by omega
      have k7 := run_index_str Try.underlying9 s .i64 ((q : Int) + 1) (q + 1) (by omega) hq2
      go_enter Try.func46, Try.ntmps46
      go_wp2
      go_quiet (fail)
      clear k1 k2 k3 k4 k5 k6 k7
      go_wp2
      go_ret3
      exact ⟨rfl, _, rfl⟩
    · obtain ⟨e, e2⟩ := rc_ok (most := 4096) (size := 1) h0 h1 h2
      have e3 := rt_ok e
      rw [e, e2, e3]
      clear e e2 e3
      rw [Nat.one_mul] at h2 ⊢
      rw [← Hn.out] at h1 h2 ⊢
      have hsl := run_slice_str Try.underlying9 s .i64 .i64 ((q : Int) + 2) ((q : Int) + 2 + ((s[q].toNat : Int) * 256 + s[q + 1].toNat)) (q + 2) (q + 2 + (s[q].toNat * 256 + s[q + 1].toNat)) (by omega) (by omega) (by omega) h2
      have k1 : IntKind.i64.wrap ((q : Int) + 1) = (q : Int) + 1 := IntWalk.i64_in _ (by omega)
      have k2 : IntKind.i64.wrap (s[q].toNat : Int) = (s[q].toNat : Int) := IntWalk.i64_in _ (by omega)
      have k3 : IntKind.i64.wrap ((s[q].toNat : Int) * 256) = (s[q].toNat : Int) * 256 := IntWalk.i64_in _ (by omega)
      have k4 : IntKind.i64.wrap (s[q + 1].toNat : Int) = (s[q + 1].toNat : Int) := IntWalk.i64_in _ (by omega)
      have k5 : IntKind.i64.wrap ((s[q].toNat : Int) * 256 + (s[q + 1].toNat : Int)) = (s[q].toNat : Int) * 256 + (s[q + 1].toNat : Int) := IntWalk.i64_in _ (by omega)
      have k6 : 0 ≤ (q : Int) + 1 := by omega
      have k7 := run_index_str Try.underlying9 s .i64 ((q : Int) + 1) (q + 1) (by omega) hq2
      go_enter Try.func46, Try.ntmps46
      go_wp2
      go_quiet (fail)
      clear k1 k2 k3 k4 k5 k6 k7
      go_wp2
      go_ret3
      exact ⟨rfl, _, rfl⟩
end Go.Proofs.Ytpgbfglfmmohdaa
