/- Plain laws of events' order. No program in sight but for the times' walks that they are read off. No condition. -/
import Derived.Test.YtpfcmfannkbipaaActPl
import Derived.Test.YtpfcmfannkbipaaFloatPl3
set_option linter.unusedVariables false
set_option maxRecDepth 20000
namespace Go.Proofs.Ytpfcmfannkbipaa
open Go.RowKit Go.Deep

/-- A time's key: what is no number comes last. -/
def tk8 (t : Nat) : Int := if isNan t then 9223372036854775808 else skey t
theorem timesI_tk8 (t u : Nat) : timesI t u = ordI (tk8 t) (tk8 u) := by
  unfold timesI tk8
  by_cases ht : isNan t <;> by_cases hu : isNan u
  · simp only [if_pos ht, if_pos hu]
    rfl
  · simp only [if_pos ht, if_neg hu]
    have := skey_bound u hu
    rw [ordI_gt (by omega)]
  · simp only [if_neg ht, if_pos hu]
    have := skey_bound t ht
    rw [ordI_lt (by omega)]
  · simp only [if_neg ht, if_neg hu]
theorem ordI_ways8 (a b : Int) : (a < b ∧ ordI a b = -1) ∨ (a = b ∧ ordI a b = 0) ∨ (b < a ∧ ordI a b = 1) := by
  rcases Int.lt_trichotomy a b with h | h | h
  · exact .inl ⟨h, ordI_lt h⟩
  · exact .inr (.inl ⟨h, ordI_eq h⟩)
  · exact .inr (.inr ⟨h, ordI_gt h⟩)
def cmpK : List Int → List Int → Int
  | a :: r, b :: q => if ordI a b = 0 then cmpK r q else ordI a b
  | _, _ => 0
theorem cmpK_self : ∀ a : List Int, cmpK a a = 0
  | [] => rfl
  | x :: r => by unfold cmpK; rw [ordI_eq rfl, if_pos rfl]; exact cmpK_self r
theorem cmpK_rng : ∀ a b : List Int, cmpK a b = -1 ∨ cmpK a b = 0 ∨ cmpK a b = 1
  | [], _ => .inr (.inl rfl)
  | _ :: _, [] => .inr (.inl rfl)
  | x :: r, y :: q => by
    unfold cmpK
    split
    · exact cmpK_rng r q
    · rcases ordI_ways8 x y with h | h | h <;> omega
theorem cmpK_neg : ∀ a b : List Int, cmpK b a = -cmpK a b
  | [], [] => rfl
  | [], _ :: _ => rfl
  | _ :: _, [] => rfl
  | x :: r, y :: q => by
    unfold cmpK
    have ih := cmpK_neg r q
    rcases ordI_ways8 x y with ⟨h, e⟩ | ⟨h, e⟩ | ⟨h, e⟩
    · rw [e, ordI_gt h, if_neg (by decide), if_neg (by decide)]
      decide
    · rw [e, ordI_eq h.symm, if_pos rfl, if_pos rfl, ih]
    · rw [e, ordI_lt h, if_neg (by decide), if_neg (by decide)]
theorem cmpK_trans : ∀ a b c : List Int, a.length = b.length → b.length = c.length → (cmpK a b ≤ 0 → cmpK b c ≤ 0 → cmpK a c ≤ 0) ∧ (cmpK a b < 0 → cmpK b c ≤ 0 → cmpK a c < 0) ∧ (cmpK a b ≤ 0 → cmpK b c < 0 → cmpK a c < 0)
  | [], [], [], _, _ => by simp [cmpK]
  | x :: r, y :: q, z :: u, h1, h2 => by
    have ih := cmpK_trans r q u (by simpa using h1) (by simpa using h2)
    unfold cmpK
    rcases ordI_ways8 x y with ⟨a1, e1⟩ | ⟨a1, e1⟩ | ⟨a1, e1⟩ <;> rcases ordI_ways8 y z with ⟨a2, e2⟩ | ⟨a2, e2⟩ | ⟨a2, e2⟩ <;> rcases ordI_ways8 x z with ⟨a3, e3⟩ | ⟨a3, e3⟩ | ⟨a3, e3⟩ <;>
      first
        | (exfalso; omega)
        | (simp only [e1, e2, e3]; first | exact ih | simp)
/-- An event's key. -/
def keyE (a : Ev) : List Int := [tk8 a.1, a.2.2.2.1, a.2.1, a.2.2.1, a.2.2.2.2]
theorem cmpE_key (a b : Ev) : cmpE a b = cmpK (keyE a) (keyE b) := by
  have h5 : ∀ x : Int, firstNz [x] = if x = 0 then 0 else x := fun x => rfl
  unfold cmpE evL keyE
  rw [timesI_tk8]
  simp only [firstNz, cmpK]
theorem cmpE_self (a : Ev) : cmpE a a = 0 := by rw [cmpE_key]; exact cmpK_self _
theorem cmpE_neg (a b : Ev) : cmpE b a = -cmpE a b := by rw [cmpE_key, cmpE_key]; exact cmpK_neg _ _
theorem cmpE_rng (a b : Ev) : cmpE a b = -1 ∨ cmpE a b = 0 ∨ cmpE a b = 1 := by rw [cmpE_key]; exact cmpK_rng _ _
theorem cmpE_trans (a b c : Ev) : (cmpE a b ≤ 0 → cmpE b c ≤ 0 → cmpE a c ≤ 0) ∧ (cmpE a b < 0 → cmpE b c ≤ 0 → cmpE a c < 0) ∧ (cmpE a b ≤ 0 → cmpE b c < 0 → cmpE a c < 0) := by
  rw [cmpE_key, cmpE_key, cmpE_key]
  exact cmpK_trans _ _ _ rfl rfl
end Go.Proofs.Ytpfcmfannkbipaa
