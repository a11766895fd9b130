/- More walks of package pack: texts read, by the package and by the reference. No condition but sizes that any memory has. -/
import Derived.Test.YtegegljpmelomaaPack4
set_option linter.unusedVariables false
set_option maxRecDepth 20000
namespace Go.Proofs.Ytegegljpmelomaa
open Go.RowKit Go.Deep

theorem rd2_le (s : ByteArray) (p : Nat) : rdN s p 2 ≤ 65535 := by
  have := rdN_lt s p 2
  omega

def rcE (most size : Nat) (s : ByteArray) (p : Int) : Int :=
  if p < 0 ∨ (s.size : Int) < p then 3 else if (s.size : Int) - p < 2 then 5 else if most < rdN s p.toNat 2 then 4 else if (s.size : Int) - p - 2 < (size * rdN s p.toNat 2 : Nat) then 5 else 0
def rcP (most size : Nat) (s : ByteArray) (p : Int) : Int := if rcE most size s p = 0 then p + 2 + (size * rdN s p.toNat 2 : Nat) else 0
def rtS (s : ByteArray) (p : Int) : ByteArray := if rcE 4096 1 s p = 0 then s.extract (p.toNat + 2) (p.toNat + 2 + rdN s p.toNat 2) else ⟨#[]⟩

theorem rc_range {most size : Nat} {s : ByteArray} {p : Int} (h : p < 0 ∨ (s.size : Int) < p) : rcE most size s p = 3 := by unfold rcE; rw [if_pos h]
theorem rc_short {most size : Nat} {s : ByteArray} {p : Int} (h : ¬ (p < 0 ∨ (s.size : Int) < p)) (h2 : (s.size : Int) - p < 2) : rcE most size s p = 5 := by unfold rcE; rw [if_neg h, if_pos h2]
theorem rc_big {most size : Nat} {s : ByteArray} {p : Nat} (h : p + 2 ≤ s.size) (h2 : most < rdN s p 2) : rcE most size s p = 4 := by
  unfold rcE; rw [if_neg (by omega), if_neg (by omega), if_pos (by simpa using h2)]
theorem rc_left {most size : Nat} {s : ByteArray} {p : Nat} (h : p + 2 ≤ s.size) (h2 : rdN s p 2 ≤ most) (h3 : s.size < p + 2 + size * rdN s p 2) : rcE most size s p = 5 := by
  unfold rcE; rw [if_neg (by omega), if_neg (by omega), Int.toNat_natCast, if_neg (by omega), if_pos (by omega)]
theorem rc_ok {most size : Nat} {s : ByteArray} {p : Nat} (h : p + 2 ≤ s.size) (h2 : rdN s p 2 ≤ most) (h3 : p + 2 + size * rdN s p 2 ≤ s.size) : rcE most size s p = 0 ∧ rcP most size s p = (p + 2 + size * rdN s p 2 : Nat) := by
  have e : rcE most size s p = 0 := by
    unfold rcE; rw [if_neg (by omega), if_neg (by omega), Int.toNat_natCast, if_neg (by omega), if_neg (by omega)]
  refine ⟨e, ?_⟩
  unfold rcP
  rw [if_pos e, Int.toNat_natCast]
  omega
theorem rc_no {most size : Nat} {s : ByteArray} {p : Int} (h : rcE most size s p ≠ 0) : rcP most size s p = 0 := by unfold rcP; rw [if_neg h]
theorem rt_no {s : ByteArray} {p : Int} (h : rcE 4096 1 s p ≠ 0) : rtS s p = ⟨#[]⟩ := by unfold rtS; rw [if_neg h]
theorem rt_ok {s : ByteArray} {p : Nat} (h : rcE 4096 1 s p = 0) : rtS s p = s.extract (p + 2) (p + 2 + rdN s p 2) := by unfold rtS; rw [if_pos h, Int.toNat_natCast]

/-- The five ways of a place at which a list is to be read. -/
theorem rc_ways (most size : Nat) (s : ByteArray) (p : Int) : (p < 0 ∨ (s.size : Int) < p) ∨ (0 ≤ p ∧ p ≤ s.size ∧ (s.size : Int) - p < 2) ∨
    ∃ q : Nat, p = q ∧ q + 2 ≤ s.size ∧ (most < rdN s q 2 ∨ rdN s q 2 ≤ most ∧ s.size < q + 2 + size * rdN s q 2 ∨ rdN s q 2 ≤ most ∧ q + 2 + size * rdN s q 2 ≤ s.size) := by
  by_cases h : p < 0 ∨ (s.size : Int) < p
  · exact .inl h
  · by_cases h2 : (s.size : Int) - p < 2
    · exact .inr (.inl ⟨by omega, by omega, h2⟩)
    · obtain ⟨q, rfl⟩ := Int.eq_ofNat_of_zero_le (show 0 ≤ p by omega)
      exact .inr (.inr ⟨q, rfl, by omega, by omega⟩)


theorem rd2_eq (s : ByteArray) (q : Nat) (h : q + 2 ≤ s.size) : s[q].toNat * 256 + s[q + 1].toNat = rdN s q 2 := by
  rw [rdN_succ s q 1 (by omega), rdN_succ s q 0 (by omega), rdN_zero]
  simp
end Go.Proofs.Ytegegljpmelomaa
