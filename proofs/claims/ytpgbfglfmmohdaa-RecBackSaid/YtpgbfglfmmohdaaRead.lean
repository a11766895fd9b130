/- The walks of package stamp: keys read. No condition but sizes that any memory has. -/
import Derived.Test.YtpgbfglfmmohdaaKeyPl
set_option linter.unusedVariables false
set_option maxRecDepth 20000
namespace Go.Proofs.Ytpgbfglfmmohdaa
open Go.RowKit Go.Deep

/-- The time's word that eight bytes are. -/
def unB (b : Nat) : Nat := if 9223372036854775808 ≤ b then b - 9223372036854775808 else 18446744073709551615 - b
theorem unB_lt (b : Nat) (h : b < 18446744073709551616) : unB b < 18446744073709551616 := by
  unfold unB
  split <;> omega
/-- No time: what is no number, and nought with a sign. -/
def badB (b : Nat) : Prop := isNan (unB b) ∨ unB b = 9223372036854775808
/-- What is wrong with a stamp that is read. -/
def rsE (s : ByteArray) (p : Int) : Int := if p < 0 ∨ (s.size : Int) < p then 3 else if (s.size : Int) - p < 24 then 5 else if isNan (unB (rdN s p.toNat 8)) ∨ unB (rdN s p.toNat 8) = 9223372036854775808 then 7 else 0
def rsP (s : ByteArray) (p : Int) : Int := if rsE s p = 0 then p + 24 else 0
def rsT (s : ByteArray) (p : Int) : Nat := if rsE s p = 0 then unB (rdN s p.toNat 8) else 0
def rsS (s : ByteArray) (p : Int) : Int := if rsE s p = 0 then unI (rdN s (p.toNat + 8) 8 : Nat) else 0
def rsN (s : ByteArray) (p : Int) : Int := if rsE s p = 0 then unI (rdN s (p.toNat + 16) 8 : Nat) else 0
def rsV (s : ByteArray) (p : Int) : Value := .tuple #[.agg #[.float .f64 (rsT s p), .int .i64 (rsS s p), .int .i64 (rsN s p)], .int .i64 (rsP s p), .int .i64 (rsE s p)]
theorem rs_no {s : ByteArray} {p e : Int} (h : rsE s p = e) (h0 : e ≠ 0) : rsV s p = .tuple #[.agg #[.float .f64 0, .int .i64 0, .int .i64 0], .int .i64 0, .int .i64 e] := by
  unfold rsV rsT rsS rsN rsP
  rw [h]
  simp only [if_neg h0]
theorem rs_yes {s : ByteArray} {q : Nat} (h : rsE s q = 0) : rsV s q = .tuple #[.agg #[.float .f64 (unB (rdN s q 8)), .int .i64 (unI (rdN s (q + 8) 8 : Nat)), .int .i64 (unI (rdN s (q + 16) 8 : Nat))], .int .i64 (q + 24 : Nat), .int .i64 0] := by
  unfold rsV rsT rsS rsN rsP
  rw [h]
  simp only [if_pos, Int.toNat_natCast]
  rfl
theorem rs_range {s : ByteArray} {p : Int} (h : p < 0 ∨ (s.size : Int) < p) : rsE s p = 3 := by unfold rsE; rw [if_pos h]
theorem rs_short {s : ByteArray} {p : Int} (h : ¬ (p < 0 ∨ (s.size : Int) < p)) (h2 : (s.size : Int) - p < 24) : rsE s p = 5 := by unfold rsE; rw [if_neg h, if_pos h2]
theorem rs_bad {s : ByteArray} {q : Nat} (h : q + 24 ≤ s.size) (h2 : badB (rdN s q 8)) : rsE s q = 7 := by
  unfold rsE
  rw [if_neg (by omega), if_neg (by omega), if_pos (by rw [Int.toNat_natCast]; exact h2)]
theorem rs_ok {s : ByteArray} {q : Nat} (h : q + 24 ≤ s.size) (h2 : ¬ badB (rdN s q 8)) : rsE s q = 0 := by
  unfold rsE
  rw [if_neg (by omega), if_neg (by omega), if_neg (by rw [Int.toNat_natCast]; exact h2)]
theorem unB_hi (b : Nat) (h : 9223372036854775808 ≤ b) (h2 : b < 18446744073709551616) : bits .andNot .u64 (b : Int) 9223372036854775808 = (unB b : Nat) := by
  have e := u64_andNot_nat b 9223372036854775808 h2 (by decide)
  rw [show (((9223372036854775808 : Nat)) : Int) = 9223372036854775808 from rfl] at e
  rw [e]
  have h3 := Nat.and_two_pow_sub_one_eq_mod b 63
  rw [show (2 ^ 63 - 1 : Nat) = 18446744073709551615 - 9223372036854775808 from rfl] at h3
  have h4 : (b &&& (18446744073709551615 - 9223372036854775808)) = unB b := by
    rw [h3]
    unfold unB
    rw [if_pos h]
    omega
  rw [h4]
theorem unB_lo (b : Nat) (h : b < 9223372036854775808) : bits .xor .u64 IntKind.u64.max (b : Int) = (unB b : Nat) := by
  have hb : b < 18446744073709551616 := by omega
  have e : IntKind.u64.max = ((18446744073709551615 : Nat) : Int) := rfl
  have h3 : (BitVec.allOnes 64 ^^^ BitVec.ofNat 64 b).toNat = 2 ^ 64 - 1 - (BitVec.ofNat 64 b).toNat := by
    rw [BitVec.allOnes_xor, BitVec.toNat_not]
  rw [BitVec.toNat_xor, BitVec.toNat_allOnes, BitVec.toNat_ofNat, Nat.mod_eq_of_lt (show b < 2 ^ 64 from hb)] at h3
  rw [e, bits_xor_u64_nat _ _ (by decide) hb]
  have h4 : 18446744073709551615 ^^^ b = unB b := by
    unfold unB
    rw [if_neg (by omega)]
    exact h3
  rw [h4]

attribute [local go_sem] run_store_float
theorem readi_at (s : ByteArray) (p : Int) (q : Nat) (w : World) (hp : p = (q : Int)) (h : q + 8 ≤ s.size) (hm : s.size ≤ 9223372036854775807) :
    Calls Try.prog 43 #[.string s, .int .i64 p] w fun e w' => e = .returned (.tuple #[.int .i64 (unI (rdN s q 8 : Nat)), .int .i64 (p + 8), .int .i64 0]) ∧ w = w' := by
  subst hp
  exact readi_any s q w h hm
theorem rreadi_at (s : ByteArray) (p : Int) (q : Nat) (w : World) (hp : p = (q : Int)) (h : q + 8 ≤ s.size) (hm : s.size ≤ 9223372036854775807) :
    Calls Try.prog 44 #[.string s, .int .i64 p] w fun e w' => e = .returned (.tuple #[.int .i64 (unI (rdN s q 8 : Nat)), .int .i64 (p + 8), .int .i64 0]) ∧ w = w' := by
  subst hp
  exact rreadi_any s q w h hm
theorem rreadi_short (s : ByteArray) (p : Int) (w : World) (h0 : 0 ≤ p) (h1 : p ≤ s.size) (h : (s.size : Int) - p < 8) (hm : s.size ≤ 9223372036854775807) :
    Calls Try.prog 44 #[.string s, .int .i64 p] w fun e w' => e = .returned (.tuple #[.int .i64 0, .int .i64 0, .int .i64 5]) ∧ w = w' := by
  obtain ⟨h2, _, h4, h3⟩ := ru_short (s := s) (p := p) (by omega) h
  have := rreadi_all s p w hm
  rw [h2, h3, h4] at this
  exact this
theorem stread_range (s : ByteArray) (p : Int) (w : World) (h : p < 0 ∨ (s.size : Int) < p) (hm : s.size ≤ 9223372036854775807) :
    Calls Try.prog 53 #[.string s, .int .i64 p] w fun e w' => e = .returned (rsV s p) ∧ Below w.heap.size w w' := by
  rw [rs_no (rs_range h) (by decide)]
  go_enter Try.func53, Try.ntmps53
  go_wp2_with fail
  refine (readu_range _ _ _ h hm).mono ?_
  rintro e w' ⟨rfl, rfl⟩
  go_wp2_with fail
  refine bodyPost_ret (v := .tuple #[.agg #[.float .f64 0, .int .i64 0, .int .i64 0], .int .i64 0, .int .i64 3]) (by simp [results, Try.results53, go_sem]) rfl ⟨rfl, ?_⟩
  go_grown
theorem stread_short (s : ByteArray) (q : Nat) (w : World) (h : q ≤ s.size) (h2 : s.size < q + 24) (hm : s.size ≤ 9223372036854775807) :
    Calls Try.prog 53 #[.string s, .int .i64 q] w fun e w' => e = .returned (rsV s q) ∧ Below w.heap.size w w' := by
  rw [rs_no (rs_short (by omega) (by omega)) (by decide)]
  by_cases h8 : s.size < q + 8
  · go_enter Try.func53, Try.ntmps53
    go_wp2_with fail
    refine (readu_short _ _ _ (by omega) (by omega) (by omega) hm).mono ?_
    rintro e w' ⟨rfl, rfl⟩
    go_wp2_with fail
    refine bodyPost_ret (v := .tuple #[.agg #[.float .f64 0, .int .i64 0, .int .i64 0], .int .i64 0, .int .i64 5]) (by simp [results, Try.results53, go_sem]) rfl ⟨rfl, ?_⟩
    go_grown
  · have hr := rdN_lt s q 8
    generalize hb : rdN s q 8 = b at hr
    have Hb := hide hb
    clear hb
    by_cases h16 : s.size < q + 16
    · go_enter Try.func53, Try.ntmps53
      go_wp2_with fail
      refine (readu_any s q _ (by omega) hm).mono ?_
      rintro e w' ⟨rfl, rfl⟩
      go_wp2_with fail
      refine (readi_short _ _ _ (by omega) (by omega) (by omega) hm).mono ?_
      rintro e w' ⟨rfl, rfl⟩
      go_wp2_with fail
      refine bodyPost_ret (v := .tuple #[.agg #[.float .f64 0, .int .i64 0, .int .i64 0], .int .i64 0, .int .i64 5]) (by simp [results, Try.results53, go_sem]) rfl ⟨rfl, ?_⟩
      go_grown
    · go_enter Try.func53, Try.ntmps53
      go_wp2_with fail
      refine (readu_any s q _ (by omega) hm).mono ?_
      rintro e w' ⟨rfl, rfl⟩
      go_wp2_with fail
      refine (readi_at s _ (q + 8) _ (by omega) (by omega) hm).mono ?_
      rintro e w' ⟨rfl, rfl⟩
      go_wp2_with fail
      refine (readi_short _ _ _ (by omega) (by omega) (by omega) hm).mono ?_
      rintro e w' ⟨rfl, rfl⟩
      go_wp2_with fail
      refine bodyPost_ret (v := .tuple #[.agg #[.float .f64 0, .int .i64 0, .int .i64 0], .int .i64 0, .int .i64 5]) (by simp [results, Try.results53, go_sem]) rfl ⟨rfl, ?_⟩
      go_grown
theorem rstread_range (s : ByteArray) (p : Int) (w : World) (h : p < 0 ∨ (s.size : Int) < p) (hm : s.size ≤ 9223372036854775807) :
    Calls Try.prog 54 #[.string s, .int .i64 p] w fun e w' => e = .returned (rsV s p) ∧ Below w.heap.size w w' := by
  rw [rs_no (rs_range h) (by decide)]
  go_enter Try.func54, Try.ntmps54
  go_wp2_with fail
  refine (rreadu_range _ _ _ h hm).mono ?_
  rintro e w' ⟨rfl, rfl⟩
  go_wp2_with fail
  refine bodyPost_ret (v := .tuple #[.agg #[.float .f64 0, .int .i64 0, .int .i64 0], .int .i64 0, .int .i64 3]) (by simp [results, Try.results54, go_sem]) rfl ⟨rfl, ?_⟩
  go_grown
theorem rstread_short (s : ByteArray) (q : Nat) (w : World) (h : q ≤ s.size) (h2 : s.size < q + 24) (hm : s.size ≤ 9223372036854775807) :
    Calls Try.prog 54 #[.string s, .int .i64 q] w fun e w' => e = .returned (rsV s q) ∧ Below w.heap.size w w' := by
  rw [rs_no (rs_short (by omega) (by omega)) (by decide)]
  by_cases h8 : s.size < q + 8
  · go_enter Try.func54, Try.ntmps54
    go_wp2_with fail
    refine (rreadu_short _ _ _ (by omega) (by omega) (by omega) hm).mono ?_
    rintro e w' ⟨rfl, rfl⟩
    go_wp2_with fail
    refine bodyPost_ret (v := .tuple #[.agg #[.float .f64 0, .int .i64 0, .int .i64 0], .int .i64 0, .int .i64 5]) (by simp [results, Try.results54, go_sem]) rfl ⟨rfl, ?_⟩
    go_grown
  · have hr := rdN_lt s q 8
    generalize hb : rdN s q 8 = b at hr
    have Hb := hide hb
    clear hb
    by_cases h16 : s.size < q + 16
    · go_enter Try.func54, Try.ntmps54
      go_wp2_with fail
      refine (rreadu_any s q _ (by omega) hm).mono ?_
      rintro e w' ⟨rfl, rfl⟩
      go_wp2_with fail
      refine (rreadi_short _ _ _ (by omega) (by omega) (by omega) hm).mono ?_
      rintro e w' ⟨rfl, rfl⟩
      go_wp2_with fail
      refine bodyPost_ret (v := .tuple #[.agg #[.float .f64 0, .int .i64 0, .int .i64 0], .int .i64 0, .int .i64 5]) (by simp [results, Try.results54, go_sem]) rfl ⟨rfl, ?_⟩
      go_grown
    · go_enter Try.func54, Try.ntmps54
      go_wp2_with fail
      refine (rreadu_any s q _ (by omega) hm).mono ?_
      rintro e w' ⟨rfl, rfl⟩
      go_wp2_with fail
      refine (rreadi_at s _ (q + 8) _ (by omega) (by omega) hm).mono ?_
      rintro e w' ⟨rfl, rfl⟩
      go_wp2_with fail
      refine (rreadi_short _ _ _ (by omega) (by omega) (by omega) hm).mono ?_
      rintro e w' ⟨rfl, rfl⟩
      go_wp2_with fail
      refine bodyPost_ret (v := .tuple #[.agg #[.float .f64 0, .int .i64 0, .int .i64 0], .int .i64 0, .int .i64 5]) (by simp [results, Try.results54, go_sem]) rfl ⟨rfl, ?_⟩
      go_grown

theorem stread_bad (s : ByteArray) (q b t : Nat) (w : World) (h : q + 24 ≤ s.size) (hm : s.size ≤ 9223372036854775807) (hb : rdN s q 8 = b) (ht : unB b = t) (hbad : isNan t ∨ t = 9223372036854775808) :
    Calls Try.prog 53 #[.string s, .int .i64 q] w fun e w' => e = .returned (.tuple #[.agg #[.float .f64 0, .int .i64 0, .int .i64 0], .int .i64 0, .int .i64 7]) ∧ Below w.heap.size w w' := by
  have ff := f64from_run
  have hr := rdN_lt s q 8
  rw [hb] at hr
  have Hb := hide hb
  clear hb
  by_cases hi : 9223372036854775808 ≤ b
  · have hx := unB_hi b hi hr
    have hbi : (9223372036854775808 : Int) ≤ (b : Int) := by omega
    have hbl : (b : Int) ≤ 18446744073709551615 := by omega
    clear hi hr
    rw [ht] at hx
    have Ht := hide ht
    clear ht
    by_cases hn : isNan t
    · go_enter Try.func53, Try.ntmps53
      go_wp2_with fail
      refine (readu_any s q _ (by omega) hm).mono ?_
      rw [Hb.out]
      rintro e w' ⟨rfl, rfl⟩
      go_wp2_with fail
      refine (readi_at s _ (q + 8) _ (by omega) (by omega) hm).mono ?_
      rintro e w' ⟨rfl, rfl⟩
      go_wp2_with fail
      refine (readi_at s _ (q + 16) _ (by omega) (by omega) hm).mono ?_
      rintro e w' ⟨rfl, rfl⟩
      go_wp2_with fail
      refine (isnan_any t _).mono ?_
      rw [decide_eq_true hn]
      rintro e w' ⟨rfl, rfl⟩
      go_wp2_with fail
      refine bodyPost_ret (v := .tuple #[.agg #[.float .f64 0, .int .i64 0, .int .i64 0], .int .i64 0, .int .i64 7]) (by simp [results, Try.results53, go_sem]) rfl ⟨rfl, ?_⟩
      go_grown
    · have ht : ((t : Nat) : Int) = 9223372036854775808 := by
        rcases hbad with h5 | h5
        · exact absurd h5 hn
        · omega
      have htb : ((t : Int) == 9223372036854775808) = true := by simpa using ht
      clear ht hbad
      go_enter Try.func53, Try.ntmps53
      go_wp2_with fail
      refine (readu_any s q _ (by omega) hm).mono ?_
      rw [Hb.out]
      rintro e w' ⟨rfl, rfl⟩
      go_wp2_with fail
      refine (readi_at s _ (q + 8) _ (by omega) (by omega) hm).mono ?_
      rintro e w' ⟨rfl, rfl⟩
      go_wp2_with fail
      refine (readi_at s _ (q + 16) _ (by omega) (by omega) hm).mono ?_
      rintro e w' ⟨rfl, rfl⟩
      go_wp2_with fail
      refine (isnan_any t _).mono ?_
      rw [decide_eq_false hn]
      rintro e w' ⟨rfl, rfl⟩
      go_wp2_with fail
      refine bodyPost_ret (v := .tuple #[.agg #[.float .f64 0, .int .i64 0, .int .i64 0], .int .i64 0, .int .i64 7]) (by simp [results, Try.results53, go_sem]) rfl ⟨rfl, ?_⟩
      go_grown
  · have hx := unB_lo b (by omega)
    have hbi : (b : Int) ≤ 9223372036854775807 := by omega
    have hd : decide ((9223372036854775808 : Int) ≤ (b : Int)) = false := by
      rw [decide_eq_false_iff_not]
      omega
    clear hi hr
    rw [ht] at hx
    have Ht := hide ht
    clear ht
    by_cases hn : isNan t
    · go_enter Try.func53, Try.ntmps53
      go_wp2_with fail
      refine (readu_any s q _ (by omega) hm).mono ?_
      rw [Hb.out]
      rintro e w' ⟨rfl, rfl⟩
      go_wp2_with fail
      refine (readi_at s _ (q + 8) _ (by omega) (by omega) hm).mono ?_
      rintro e w' ⟨rfl, rfl⟩
      go_wp2_with fail
      refine (readi_at s _ (q + 16) _ (by omega) (by omega) hm).mono ?_
      rintro e w' ⟨rfl, rfl⟩
      go_wp2_with fail
      refine (isnan_any t _).mono ?_
      rw [decide_eq_true hn]
      rintro e w' ⟨rfl, rfl⟩
      go_wp2_with fail
      refine bodyPost_ret (v := .tuple #[.agg #[.float .f64 0, .int .i64 0, .int .i64 0], .int .i64 0, .int .i64 7]) (by simp [results, Try.results53, go_sem]) rfl ⟨rfl, ?_⟩
      go_grown
    · have ht : ((t : Nat) : Int) = 9223372036854775808 := by
        rcases hbad with h5 | h5
        · exact absurd h5 hn
        · omega
      have htb : ((t : Int) == 9223372036854775808) = true := by simpa using ht
      clear ht hbad
      go_enter Try.func53, Try.ntmps53
      go_wp2_with fail
      refine (readu_any s q _ (by omega) hm).mono ?_
      rw [Hb.out]
      rintro e w' ⟨rfl, rfl⟩
      go_wp2_with fail
      refine (readi_at s _ (q + 8) _ (by omega) (by omega) hm).mono ?_
      rintro e w' ⟨rfl, rfl⟩
      go_wp2_with fail
      refine (readi_at s _ (q + 16) _ (by omega) (by omega) hm).mono ?_
      rintro e w' ⟨rfl, rfl⟩
      go_wp2_with fail
      refine (isnan_any t _).mono ?_
      rw [decide_eq_false hn]
      rintro e w' ⟨rfl, rfl⟩
      go_wp2_with fail
      refine bodyPost_ret (v := .tuple #[.agg #[.float .f64 0, .int .i64 0, .int .i64 0], .int .i64 0, .int .i64 7]) (by simp [results, Try.results53, go_sem]) rfl ⟨rfl, ?_⟩
      go_grown

theorem stread_good (s : ByteArray) (q b t : Nat) (w : World) (h : q + 24 ≤ s.size) (hm : s.size ≤ 9223372036854775807) (hb : rdN s q 8 = b) (ht : unB b = t) (hn : ¬ isNan t) (h0 : t ≠ 9223372036854775808) :
    Calls Try.prog 53 #[.string s, .int .i64 q] w fun e w' => e = .returned (.tuple #[.agg #[.float .f64 t, .int .i64 (unI (rdN s (q + 8) 8 : Nat)), .int .i64 (unI (rdN s (q + 16) 8 : Nat))], .int .i64 (q + 24 : Nat), .int .i64 0]) ∧ Below w.heap.size w w' := by
  have ff := f64from_run
  have hr := rdN_lt s q 8
  rw [hb] at hr
  have Hb := hide hb
  clear hb
  have htb : ((t : Int) == 9223372036854775808) = false := by
    rw [beq_eq_false_iff_ne]
    omega
  clear h0
  by_cases hi : 9223372036854775808 ≤ b
  · have hx := unB_hi b hi hr
    have hbi : (9223372036854775808 : Int) ≤ (b : Int) := by omega
    have hbl : (b : Int) ≤ 18446744073709551615 := by omega
    clear hi hr
    rw [ht] at hx
    have Ht := hide ht
    clear ht
    go_enter Try.func53, Try.ntmps53
    go_wp2_with fail
    refine (readu_any s q _ (by omega) hm).mono ?_
    rw [Hb.out]
    rintro e w' ⟨rfl, rfl⟩
    go_wp2_with fail
    refine (readi_at s _ (q + 8) _ (by omega) (by omega) hm).mono ?_
    rintro e w' ⟨rfl, rfl⟩
    go_wp2_with fail
    refine (readi_at s _ (q + 16) _ (by omega) (by omega) hm).mono ?_
    rintro e w' ⟨rfl, rfl⟩
    go_wp2_with fail
    refine (isnan_any t _).mono ?_
    rw [decide_eq_false hn]
    rintro e w' ⟨rfl, rfl⟩
    go_wp2_with fail
    refine bodyPost_ret (v := .tuple #[.agg #[.float .f64 t, .int .i64 (unI (rdN s (q + 8) 8 : Nat)), .int .i64 (unI (rdN s (q + 16) 8 : Nat))], .int .i64 ((q : Int) + 8 + 8 + 8), .int .i64 0]) (by simp [results, Try.results53, go_sem]) rfl ⟨?_, ?_⟩
    · rw [show ((q + 24 : Nat) : Int) = (q : Int) + 8 + 8 + 8 by omega]
    · go_grown
  · have hx := unB_lo b (by omega)
    have hbi : (b : Int) ≤ 9223372036854775807 := by omega
    have hd : decide ((9223372036854775808 : Int) ≤ (b : Int)) = false := by
      rw [decide_eq_false_iff_not]
      omega
    clear hi hr
    rw [ht] at hx
    have Ht := hide ht
    clear ht
    go_enter Try.func53, Try.ntmps53
    go_wp2_with fail
    refine (readu_any s q _ (by omega) hm).mono ?_
    rw [Hb.out]
    rintro e w' ⟨rfl, rfl⟩
    go_wp2_with fail
    refine (readi_at s _ (q + 8) _ (by omega) (by omega) hm).mono ?_
    rintro e w' ⟨rfl, rfl⟩
    go_wp2_with fail
    refine (readi_at s _ (q + 16) _ (by omega) (by omega) hm).mono ?_
    rintro e w' ⟨rfl, rfl⟩
    go_wp2_with fail
    refine (isnan_any t _).mono ?_
    rw [decide_eq_false hn]
    rintro e w' ⟨rfl, rfl⟩
    go_wp2_with fail
    refine bodyPost_ret (v := .tuple #[.agg #[.float .f64 t, .int .i64 (unI (rdN s (q + 8) 8 : Nat)), .int .i64 (unI (rdN s (q + 16) 8 : Nat))], .int .i64 ((q : Int) + 8 + 8 + 8), .int .i64 0]) (by simp [results, Try.results53, go_sem]) rfl ⟨?_, ?_⟩
    · rw [show ((q + 24 : Nat) : Int) = (q : Int) + 8 + 8 + 8 by omega]
    · go_grown

theorem stread_all (s : ByteArray) (p : Int) (w : World) (hm : s.size ≤ 9223372036854775807) :
    Calls Try.prog 53 #[.string s, .int .i64 p] w fun e w' => e = .returned (rsV s p) ∧ Below w.heap.size w w' := by
  by_cases h : p < 0 ∨ (s.size : Int) < p
  · exact stread_range s p w h hm
  · obtain ⟨q, rfl⟩ := Int.eq_ofNat_of_zero_le (show 0 ≤ p by omega)
    by_cases h24 : s.size < q + 24
    · exact stread_short s q w (by omega) h24 hm
    · by_cases hbad : badB (rdN s q 8)
      · rw [rs_no (rs_bad (by omega) hbad) (by decide)]
        exact stread_bad s q _ _ w (by omega) hm rfl rfl hbad
      · rw [rs_yes (rs_ok (by omega) hbad)]
        exact stread_good s q _ _ w (by omega) hm rfl rfl (fun h => hbad (.inl h)) (fun h => hbad (.inr h))
end Go.Proofs.Ytpgbfglfmmohdaa
