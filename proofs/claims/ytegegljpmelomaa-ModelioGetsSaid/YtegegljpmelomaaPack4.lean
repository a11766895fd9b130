/- More walks of package pack: what stands at any place, read as a number, by the package and by the reference. No condition but sizes that any memory has. -/
import Derived.Test.YtegegljpmelomaaPack3
set_option linter.unusedVariables false
set_option maxRecDepth 20000
namespace Go.Proofs.Ytegegljpmelomaa
open Go.RowKit Go.Deep

/-! What stands at any place, read as a number: the error, the number, the place behind. -/
def ruE (s : ByteArray) (p : Int) : Int := if p < 0 ∨ (s.size : Int) < p then 3 else if (s.size : Int) - p < 8 then 5 else 0
def ruN (s : ByteArray) (p : Int) : Int := if ruE s p = 0 then (rdN s p.toNat 8 : Nat) else 0
def ruP (s : ByteArray) (p : Int) : Int := if ruE s p = 0 then p + 8 else 0
def riN (s : ByteArray) (p : Int) : Int := if ruE s p = 0 then unI (rdN s p.toNat 8 : Nat) else 0

theorem ru_range {s : ByteArray} {p : Int} (h : p < 0 ∨ (s.size : Int) < p) : ruE s p = 3 ∧ ruN s p = 0 ∧ ruP s p = 0 ∧ riN s p = 0 := by
  have e : ruE s p = 3 := by unfold ruE; rw [if_pos h]
  exact ⟨e, by unfold ruN; rw [e]; rfl, by unfold ruP; rw [e]; rfl, by unfold riN; rw [e]; rfl⟩
theorem ru_short {s : ByteArray} {p : Int} (h : ¬ (p < 0 ∨ (s.size : Int) < p)) (h2 : (s.size : Int) - p < 8) : ruE s p = 5 ∧ ruN s p = 0 ∧ ruP s p = 0 ∧ riN s p = 0 := by
  have e : ruE s p = 5 := by unfold ruE; rw [if_neg h, if_pos h2]
  exact ⟨e, by unfold ruN; rw [e]; rfl, by unfold ruP; rw [e]; rfl, by unfold riN; rw [e]; rfl⟩
theorem ru_ok {s : ByteArray} {p : Nat} (h : p + 8 ≤ s.size) : ruE s p = 0 ∧ ruN s p = (rdN s p 8 : Nat) ∧ ruP s p = (p + 8 : Nat) ∧ riN s p = unI (rdN s p 8 : Nat) := by
  have e : ruE s p = 0 := by unfold ruE; rw [if_neg (by omega), if_neg (by omega)]
  exact ⟨e, by unfold ruN; rw [if_pos e]; rfl, by unfold ruP; rw [if_pos e]; rfl, by unfold riN; rw [if_pos e]; rfl⟩

theorem readu_all (s : ByteArray) (p : Int) (w : World) (hm : s.size ≤ 9223372036854775807) :
    Calls Try.prog 85 #[.string s, .int .i64 p] w fun e w' => e = .returned (.tuple #[.int .u64 (ruN s p), .int .i64 (ruP s p), .int .i64 (ruE s p)]) ∧ w = w' := by
  by_cases h : p < 0 ∨ (s.size : Int) < p
  · obtain ⟨h1, h2, h3, _⟩ := ru_range h
    rw [h1, h2, h3]
    exact readu_range s p w h hm
  · by_cases h2 : (s.size : Int) - p < 8
    · obtain ⟨h1, h3, h4, _⟩ := ru_short h h2
      rw [h1, h3, h4]
      exact readu_short s p w (by omega) (by omega) h2 hm
    · obtain ⟨q, rfl⟩ := Int.eq_ofNat_of_zero_le (show 0 ≤ p by omega)
      obtain ⟨h1, h3, h4, _⟩ := ru_ok (s := s) (p := q) (by omega)
      rw [h1, h3, h4]
      exact readu_any s q w (by omega) hm
theorem readi_all (s : ByteArray) (p : Int) (w : World) (hm : s.size ≤ 9223372036854775807) :
    Calls Try.prog 84 #[.string s, .int .i64 p] w fun e w' => e = .returned (.tuple #[.int .i64 (riN s p), .int .i64 (ruP s p), .int .i64 (ruE s p)]) ∧ w = w' := by
  by_cases h : p < 0 ∨ (s.size : Int) < p
  · obtain ⟨h1, _, h3, h2⟩ := ru_range h
    rw [h1, h2, h3]
    exact readi_range s p w h hm
  · by_cases h2 : (s.size : Int) - p < 8
    · obtain ⟨h1, _, h4, h3⟩ := ru_short h h2
      rw [h1, h3, h4]
      exact readi_short s p w (by omega) (by omega) h2 hm
    · obtain ⟨q, rfl⟩ := Int.eq_ofNat_of_zero_le (show 0 ≤ p by omega)
      obtain ⟨h1, _, h4, h3⟩ := ru_ok (s := s) (p := q) (by omega)
      rw [h1, h3, h4]
      exact readi_any s q w (by omega) hm

theorem rreadu_range (s : ByteArray) (p : Int) (w : World) (h : p < 0 ∨ (s.size : Int) < p) (hm : s.size ≤ 9223372036854775807) :
    Calls Try.prog 88 #[.string s, .int .i64 p] w fun e w' => e = .returned (.tuple #[.int .u64 0, .int .i64 0, .int .i64 3]) ∧ w = w' := by
  by_cases h0 : p < 0
  · go_enter Try.func88, Try.ntmps88
    go_wp2
    go_ret3
    exact ⟨rfl, rfl⟩
  · have h1 : (s.size : Int) < p := by omega
    clear h
    go_enter Try.func88, Try.ntmps88
    go_wp2
    go_ret3
    exact ⟨rfl, rfl⟩
theorem rreadu_short (s : ByteArray) (p : Int) (w : World) (h0 : 0 ≤ p) (h1 : p ≤ s.size) (h : (s.size : Int) - p < 8) (hm : s.size ≤ 9223372036854775807) :
    Calls Try.prog 88 #[.string s, .int .i64 p] w fun e w' => e = .returned (.tuple #[.int .u64 0, .int .i64 0, .int .i64 5]) ∧ w = w' := by
  go_enter Try.func88, Try.ntmps88
  go_wp2
  go_ret3
  exact ⟨rfl, rfl⟩
theorem rreadu_any (s : ByteArray) (p : Nat) (w : World) (h : p + 8 ≤ s.size) (hm : s.size ≤ 9223372036854775807) :
    Calls Try.prog 88 #[.string s, .int .i64 p] w fun e w' => e = .returned (.tuple #[.int .u64 (rdN s p 8 : Nat), .int .i64 (p + 8 : Nat), .int .i64 0]) ∧ w = w' := by
  have hd1 : decide (s.size < p) = false := by simp; omega
  have hd2 : decide ((p : Int) < 0) = false := by simp
  go_enter Try.func88, Try.ntmps88
  go_wp2
  go_loop [7, 8] (fun n i => ∃ k : Nat, k ≤ 8 ∧ i = .int .i64 k ∧ n = .int .u64 (rdN s p k : Nat)) (fun _ i => 8 - (intOf i).toNat)
  case atStart => exact ⟨0, Nat.zero_le _, rfl, by rw [rdN_zero]; rfl⟩
  case round =>
    obtain ⟨k, hk, rfl, rfl⟩ := hrel
    by_cases hlt : k < 8
    · have hps : p + k < s.size := by omega
      have Hs := hide (rdN_succ s p k hps)
      have hmm : rdN s p k ≤ 72057594037927935 := by
        have h1 := rdN_lt s p k
        have h2 : (256 : Nat) ^ k ≤ 256 ^ 7 := Nat.pow_le_pow_right (by decide) (by omega)
        omega
      have hb := s[p + k].toNat_lt
      generalize rdN s p k = m at *
      go_wp2
      go_round
      case rel => exact ⟨k + 1, by omega, by go_num, by rw [Hs.out]; simp⟩
      case measure => simp [intOf]; omega
    · obtain rfl : k = 8 := by omega
      go_wp2
      go_ret3
      exact ⟨rfl, rfl⟩
theorem rreadu_all (s : ByteArray) (p : Int) (w : World) (hm : s.size ≤ 9223372036854775807) :
    Calls Try.prog 88 #[.string s, .int .i64 p] w fun e w' => e = .returned (.tuple #[.int .u64 (ruN s p), .int .i64 (ruP s p), .int .i64 (ruE s p)]) ∧ w = w' := by
  by_cases h : p < 0 ∨ (s.size : Int) < p
  · obtain ⟨h1, h2, h3, _⟩ := ru_range h
    rw [h1, h2, h3]
    exact rreadu_range s p w h hm
  · by_cases h2 : (s.size : Int) - p < 8
    · obtain ⟨h1, h3, h4, _⟩ := ru_short h h2
      rw [h1, h3, h4]
      exact rreadu_short s p w (by omega) (by omega) h2 hm
    · obtain ⟨q, rfl⟩ := Int.eq_ofNat_of_zero_le (show 0 ≤ p by omega)
      obtain ⟨h1, h3, h4, _⟩ := ru_ok (s := s) (p := q) (by omega)
      rw [h1, h3, h4]
      exact rreadu_any s q w (by omega) hm
theorem unI_ref (m : Nat) : wrap64 (IntKind.u64.wrap ((m : Int) - 9223372036854775808)) = unI m := by
  unfold unI wrap64
  simp only [IntKind.wrap_u64]
  omega
theorem rreadi_all (s : ByteArray) (p : Int) (w : World) (hm : s.size ≤ 9223372036854775807) :
    Calls Try.prog 87 #[.string s, .int .i64 p] w fun e w' => e = .returned (.tuple #[.int .i64 (riN s p), .int .i64 (ruP s p), .int .i64 (ruE s p)]) ∧ w = w' := by
  by_cases h : p < 0 ∨ (s.size : Int) < p
  · obtain ⟨h1, _, h3, h2⟩ := ru_range h
    rw [h1, h2, h3]
    go_enter Try.func87, Try.ntmps87
    go_wp2_with fail
    refine (rreadu_range _ _ _ h hm).mono ?_
    rintro e w' ⟨rfl, rfl⟩
    go_wp2
    go_ret3
    exact ⟨rfl, rfl⟩
  · by_cases h2 : (s.size : Int) - p < 8
    · obtain ⟨h1, _, h4, h3⟩ := ru_short h h2
      rw [h1, h3, h4]
      have h5 : 0 ≤ p ∧ p ≤ s.size := by omega
      clear h1 h3 h4 h
      go_enter Try.func87, Try.ntmps87
      go_wp2_with fail
      refine (rreadu_short _ _ _ h5.1 h5.2 h2 hm).mono ?_
      rintro e w' ⟨rfl, rfl⟩
      go_wp2
      go_ret3
      exact ⟨rfl, rfl⟩
    · obtain ⟨q, rfl⟩ := Int.eq_ofNat_of_zero_le (show 0 ≤ p by omega)
      obtain ⟨h1, _, h4, h3⟩ := ru_ok (s := s) (p := q) (by omega)
      rw [h1, h3, h4]
      have h5 : q + 8 ≤ s.size := by omega
      have Hu := hide (unI_ref (rdN s q 8))
      clear h1 h3 h4 h h2
      go_enter Try.func87, Try.ntmps87
      go_wp2_with fail
      refine (rreadu_any _ _ _ h5 hm).mono ?_
      rintro e w' ⟨rfl, rfl⟩
      go_wp2
      go_ret3
      exact ⟨by rw [← Hu.out]; rfl, rfl⟩
end Go.Proofs.Ytegegljpmelomaa
