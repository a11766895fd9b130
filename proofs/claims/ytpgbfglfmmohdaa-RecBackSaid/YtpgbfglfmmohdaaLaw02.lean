/- More laws of package stamp: what comes later does; which of two comes first; it is an order. No condition. -/
import Derived.Test.YtpgbfglfmmohdaaStamp4
import Derived.Test.YtpgbfglfmmohdaaFloatPl3
set_option linter.unusedVariables false
set_option maxRecDepth 20000
namespace Go.Proofs.Ytpgbfglfmmohdaa
open Go.RowKit Go.Deep

theorem laterS_facts {t d s : Nat} (h : laterS t d = some s) : ¬ isNan t ∧ ¬ isNan d ∧ 0 < skey d ∧ FloatKind.f64.format.add t d = some s ∧ ¬ isNan s ∧ skey t < skey s := by
  by_cases h1 : isNan t ∨ isNan d ∨ skey d ≤ 0
  · rw [later_bad h1] at h
    cases h
  · rcases hs : FloatKind.f64.format.add t d with _ | z
    · rw [later_nan h1 hs] at h
      cases h
    · by_cases h4 : isNan z ∨ skey z ≤ skey t
      · rw [later_low h1 hs h4] at h
        cases h
      · rw [later_yes h1 hs h4] at h
        injection h with h
        subst h
        refine ⟨fun h => h1 (.inl h), fun h => h1 (.inr (.inl h)), ?_, rfl, fun h => h4 (.inl h), ?_⟩
        · rcases Int.lt_or_le 0 (skey d) with h5 | h5
          · exact h5
          · exact absurd (.inr (.inr h5)) h1
        · rcases Int.lt_or_le (skey t) (skey z) with h5 | h5
          · exact h5
          · exact absurd (.inr h5) h4
theorem normF_key {s : Nat} (h : ¬ isNan s) : ¬ isNan (normF s) ∧ skey (normF s) = skey s := by
  unfold normF
  by_cases h0 : skey s = 0
  · rw [if_pos (.inr h0)]
    exact ⟨zero_num, by rw [skey_zero, h0]⟩
  · rw [if_neg (by rintro (h1 | h1); exact h h1; exact h0 h1)]
    exact ⟨h, rfl⟩
theorem normE_num {s : Nat} (h : ¬ isNan s) : normE s = 0 := by unfold normE; rw [if_neg h]
theorem laterFE {t d s : Nat} (h : laterS t d = some s) : laterF t d = normF s ∧ laterE t d = 0 := by
  obtain ⟨h1, h2⟩ := later_some h
  exact ⟨h1, by rw [h2, normE_num (laterS_facts h).2.2.2.2.1]⟩

set_option maxHeartbeats 800000 in
theorem grows_walk (t u d : Nat) (w : World) : Calls Try.prog 9 #[.float .f64 t, .float .f64 u, .float .f64 d] w fun e w' => e = .returned (.bool true) ∧ Below w.heap.size w w' := by
  rcases h1 : laterS t d with _ | s1
  · obtain ⟨a1, a2⟩ := later_none h1
    have A1 := hide a1
    have A2 := hide a2
    clear a1 a2 h1
    go_enter Try.func9, Try.ntmps9
    go_wp2_with fail
    refine (later_any _ _ _).mono ?_
    rw [A1.out, A2.out]
    rintro e w1 ⟨rfl, hb1⟩
    go_wp2_with fail
    refine (later_any _ _ _).mono ?_
    rintro e w2 ⟨rfl, hb2⟩
    go_wp2_with fail
    refine (awake02 _).mono ?_
    rintro e w3 ⟨rfl, hb3⟩
    go_wp2
    go_ret
    exact ⟨rfl, below_after (below_after hb1 hb2) hb3⟩
  · obtain ⟨a1, a2⟩ := laterFE h1
    obtain ⟨f1, f2, f3, f4, f5, f6⟩ := laterS_facts h1
    obtain ⟨g1, g2⟩ := normF_key f5
    have o1 := fo_gt (normF s1) t g1 f1 (by rw [g2]; exact f6)
    have o2 := fo_self (normF s1) g1
    have A1 := hide a1
    have A2 := hide a2
    clear a1 a2 h1
    rcases h2 : laterS u d with _ | s2
    · obtain ⟨b1, b2⟩ := later_none h2
      have B1 := hide b1
      have B2 := hide b2
      have F4 := hide f4
      clear b1 b2 h2 f3 f4 f6 g2
      go_enter Try.func9, Try.ntmps9
      go_wp2_with fail
      refine (later_any _ _ _).mono ?_
      rw [A1.out, A2.out]
      rintro e w1 ⟨rfl, hb1⟩
      go_wp2_with fail
      refine (later_any _ _ _).mono ?_
      rw [B1.out, B2.out]
      rintro e w2 ⟨rfl, hb2⟩
      go_wp2_with fail
      refine (awake02 _).mono ?_
      rintro e w3 ⟨rfl, hb3⟩
      go_wp2
      go_ret
      exact ⟨rfl, below_after (below_after hb1 hb2) hb3⟩
    · obtain ⟨b1, b2⟩ := laterFE h2
      obtain ⟨k1, k2, k3, k4, k5, k6⟩ := laterS_facts h2
      obtain ⟨l1, l2⟩ := normF_key k5
      have B1 := hide b1
      have B2 := hide b2
      clear b1 b2 h2
      rcases fo_ways t u f1 k1 with ⟨m1, m2⟩ | ⟨m1, m2⟩ | ⟨m1, m2⟩
      · have hle := add_grows t u d s1 s2 f1 k1 f2 f3 (by omega) f4 k4 f6 k6 f5 k5
        rcases fo_ways (normF s1) (normF s2) g1 l1 with ⟨p1, p2⟩ | ⟨p1, p2⟩ | ⟨p1, p2⟩
        · have F4 := hide f4
          have K4 := hide k4
          clear hle m1 p1 f3 f4 f6 g2 k3 k4 k6 l2
          go_enter Try.func9, Try.ntmps9
          go_wp2_with fail
          refine (later_any _ _ _).mono ?_
          rw [A1.out, A2.out]
          rintro e w1 ⟨rfl, hb1⟩
          go_wp2_with fail
          refine (later_any _ _ _).mono ?_
          rw [B1.out, B2.out]
          rintro e w2 ⟨rfl, hb2⟩
          go_wp2_with fail
          refine (awake02 _).mono ?_
          rintro e w3 ⟨rfl, hb3⟩
          go_wp2
          go_ret
          exact ⟨rfl, below_after (below_after hb1 hb2) hb3⟩
        · have F4 := hide f4
          have K4 := hide k4
          clear hle m1 p1 f3 f4 f6 g2 k3 k4 k6 l2
          go_enter Try.func9, Try.ntmps9
          go_wp2_with fail
          refine (later_any _ _ _).mono ?_
          rw [A1.out, A2.out]
          rintro e w1 ⟨rfl, hb1⟩
          go_wp2_with fail
          refine (later_any _ _ _).mono ?_
          rw [B1.out, B2.out]
          rintro e w2 ⟨rfl, hb2⟩
          go_wp2_with fail
          refine (awake02 _).mono ?_
          rintro e w3 ⟨rfl, hb3⟩
          go_wp2
          go_ret
          exact ⟨rfl, below_after (below_after hb1 hb2) hb3⟩
        · omega
      · have hle := add_grows t u d s1 s2 f1 k1 f2 f3 (by omega) f4 k4 f6 k6 f5 k5
        rcases fo_ways (normF s1) (normF s2) g1 l1 with ⟨p1, p2⟩ | ⟨p1, p2⟩ | ⟨p1, p2⟩
        · have F4 := hide f4
          have K4 := hide k4
          clear hle m1 p1 f3 f4 f6 g2 k3 k4 k6 l2
          go_enter Try.func9, Try.ntmps9
          go_wp2_with fail
          refine (later_any _ _ _).mono ?_
          rw [A1.out, A2.out]
          rintro e w1 ⟨rfl, hb1⟩
          go_wp2_with fail
          refine (later_any _ _ _).mono ?_
          rw [B1.out, B2.out]
          rintro e w2 ⟨rfl, hb2⟩
          go_wp2_with fail
          refine (awake02 _).mono ?_
          rintro e w3 ⟨rfl, hb3⟩
          go_wp2
          go_ret
          exact ⟨rfl, below_after (below_after hb1 hb2) hb3⟩
        · have F4 := hide f4
          have K4 := hide k4
          clear hle m1 p1 f3 f4 f6 g2 k3 k4 k6 l2
          go_enter Try.func9, Try.ntmps9
          go_wp2_with fail
          refine (later_any _ _ _).mono ?_
          rw [A1.out, A2.out]
          rintro e w1 ⟨rfl, hb1⟩
          go_wp2_with fail
          refine (later_any _ _ _).mono ?_
          rw [B1.out, B2.out]
          rintro e w2 ⟨rfl, hb2⟩
          go_wp2_with fail
          refine (awake02 _).mono ?_
          rintro e w3 ⟨rfl, hb3⟩
          go_wp2
          go_ret
          exact ⟨rfl, below_after (below_after hb1 hb2) hb3⟩
        · omega
      · have F4 := hide f4
        have K4 := hide k4
        clear m1 f3 f4 f6 g2 k3 k4 k6 l2
        go_enter Try.func9, Try.ntmps9
        go_wp2_with fail
        refine (later_any _ _ _).mono ?_
        rw [A1.out, A2.out]
        rintro e w1 ⟨rfl, hb1⟩
        go_wp2_with fail
        refine (later_any _ _ _).mono ?_
        rw [B1.out, B2.out]
        rintro e w2 ⟨rfl, hb2⟩
        go_wp2_with fail
        refine (awake02 _).mono ?_
        rintro e w3 ⟨rfl, hb3⟩
        go_wp2
        go_ret
        exact ⟨rfl, below_after (below_after hb1 hb2) hb3⟩
end Go.Proofs.Ytpgbfglfmmohdaa
