/- Plain laws of stamps: how two stamps stand is an order. No program in sight. No condition. -/
import Derived.Test.YtpgbfglfmmohdaaLaw02
set_option linter.unusedVariables false
set_option maxRecDepth 20000
namespace Go.Proofs.Ytpgbfglfmmohdaa
open Go.RowKit Go.Deep

/-- A time's key: what is no number comes last. -/
def tk (t : Nat) : Int := if isNan t then 9223372036854775808 else skey t
theorem timesI_tk (t u : Nat) : timesI t u = ordI (tk t) (tk u) := by
  unfold timesI tk
  by_cases ht : isNan t <;> by_cases hu : isNan u
  · simp only [if_pos ht, if_pos hu]
    rfl
  · simp only [if_pos ht, if_neg hu]
    have := skey_bound u hu
    rw [ordI_gt (by omega)]
  · simp only [if_neg ht, if_pos hu]
    have := skey_bound t ht
    rw [ordI_lt (by omega)]
  · simp only [if_neg ht, if_neg hu]
theorem ordI_ways (a b : Int) : (a < b ∧ ordI a b = -1) ∨ (a = b ∧ ordI a b = 0) ∨ (b < a ∧ ordI a b = 1) := by
  rcases Int.lt_trichotomy a b with h | h | h
  · exact .inl ⟨h, ordI_lt h⟩
  · exact .inr (.inl ⟨h, ordI_eq h⟩)
  · exact .inr (.inr ⟨h, ordI_gt h⟩)
/-- The three ways two stamps stand. -/
theorem cmpS_ways (t u : Nat) (s n s' n' : Int) :
    ((tk t < tk u ∨ (tk t = tk u ∧ (s < s' ∨ (s = s' ∧ n < n')))) ∧ cmpS t s n u s' n' = -1) ∨
    ((tk t = tk u ∧ s = s' ∧ n = n') ∧ cmpS t s n u s' n' = 0) ∨
    ((tk u < tk t ∨ (tk t = tk u ∧ (s' < s ∨ (s = s' ∧ n' < n)))) ∧ cmpS t s n u s' n' = 1) := by
  have ht := timesI_tk t u
  rcases ordI_ways (tk t) (tk u) with ⟨h1, h2⟩ | ⟨h1, h2⟩ | ⟨h1, h2⟩
  · rw [cmpS_time (by rw [ht, h2]; decide), ht, h2]
    exact .inl ⟨.inl h1, rfl⟩
  · rw [h2] at ht
    rcases ordI_ways s s' with ⟨h3, h4⟩ | ⟨h3, h4⟩ | ⟨h3, h4⟩
    · rw [cmpS_src ht (by rw [h4]; decide), h4]
      exact .inl ⟨.inr ⟨h1, .inl h3⟩, rfl⟩
    · rw [cmpS_n ht h3]
      rcases ordI_ways n n' with ⟨h5, h6⟩ | ⟨h5, h6⟩ | ⟨h5, h6⟩
      · exact .inl ⟨.inr ⟨h1, .inr ⟨h3, h5⟩⟩, h6⟩
      · exact .inr (.inl ⟨⟨h1, h3, h5⟩, h6⟩)
      · exact .inr (.inr ⟨.inr ⟨h1, .inr ⟨h3, h5⟩⟩, h6⟩)
    · rw [cmpS_src ht (by rw [h4]; decide), h4]
      exact .inr (.inr ⟨.inr ⟨h1, .inl h3⟩, rfl⟩)
  · rw [cmpS_time (by rw [ht, h2]; decide), ht, h2]
    exact .inr (.inr ⟨.inl h1, rfl⟩)
theorem cmpS_self (t : Nat) (s n : Int) : cmpS t s n t s n = 0 := by
  rcases cmpS_ways t t s n s n with ⟨h, e⟩ | ⟨h, e⟩ | ⟨h, e⟩
  · omega
  · exact e
  · omega
theorem cmpS_back (t u : Nat) (s n s' n' : Int) : cmpS u s' n' t s n = -cmpS t s n u s' n' := by
  rcases cmpS_ways t u s n s' n' with ⟨h, e⟩ | ⟨h, e⟩ | ⟨h, e⟩ <;> rcases cmpS_ways u t s' n' s n with ⟨h', e'⟩ | ⟨h', e'⟩ | ⟨h', e'⟩ <;> rw [e, e'] <;> omega
theorem cmpS_trans (t u v : Nat) (s n s' n' s2 n2 : Int) :
    (cmpS t s n u s' n' ≤ 0 → cmpS u s' n' v s2 n2 ≤ 0 → cmpS t s n v s2 n2 ≤ 0) ∧ (cmpS t s n u s' n' < 0 → cmpS u s' n' v s2 n2 ≤ 0 → cmpS t s n v s2 n2 < 0) ∧ (cmpS t s n u s' n' ≤ 0 → cmpS u s' n' v s2 n2 < 0 → cmpS t s n v s2 n2 < 0) := by
  have h1 := cmpS_ways t u s n s' n'
  have h2 := cmpS_ways u v s' n' s2 n2
  have h3 := cmpS_ways t v s n s2 n2
  generalize cmpS t s n u s' n' = x at *
  generalize cmpS u s' n' v s2 n2 = y at *
  generalize cmpS t s n v s2 n2 = z at *
  generalize tk t = a at *
  generalize tk u = b at *
  generalize tk v = c at *
  refine ⟨fun h4 h5 => ?_, fun h4 h5 => ?_, fun h4 h5 => ?_⟩ <;> omega
theorem cmpS_rng (t u : Nat) (s n s' n' : Int) : cmpS t s n u s' n' = -1 ∨ cmpS t s n u s' n' = 0 ∨ cmpS t s n u s' n' = 1 := by
  rcases cmpS_ways t u s n s' n' with ⟨_, e⟩ | ⟨_, e⟩ | ⟨_, e⟩
  · exact .inl e
  · exact .inr (.inl e)
  · exact .inr (.inr e)
end Go.Proofs.Ytpgbfglfmmohdaa
