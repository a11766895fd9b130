/- The last walks of package pack: lists read by the reference; the same numbers? No condition but sizes that any memory has. -/
import Derived.Test.YtegegljpmelomaaPack7
set_option linter.unusedVariables false
set_option maxRecDepth 20000
namespace Go.Proofs.Ytegegljpmelomaa
open Go.RowKit Go.Deep

theorem rreadi_any (s : ByteArray) (p : Nat) (w : World) (h : p + 8 ≤ s.size) (hm : s.size ≤ 9223372036854775807) :
    Calls Try.prog 87 #[.string s, .int .i64 p] w fun e w' => e = .returned (.tuple #[.int .i64 (unI (rdN s p 8 : Nat)), .int .i64 (p + 8 : Nat), .int .i64 0]) ∧ w = w' := by
  obtain ⟨h1, _, h3, h4⟩ := ru_ok h
  rw [← h1, ← h3, ← h4]
  exact rreadi_all s p w hm


/-- Two slices that read as one list are the same. -/
theorem ints_same (A A' : Option Addr) (m c c' : Nat) (zs : List Int) (w : World) (B B' : Nat) (hm : m ≤ 9223372036854775807) (hl : zs.length = m) (hr : Reads w B 1 A m (zs.map (Value.int .i64))) (hr' : Reads w B' 1 A' m (zs.map (Value.int .i64))) :
    Calls Try.prog 44 #[.slice A m c, .slice A' m c'] w fun e w' => e = .returned (.bool true) ∧ ∃ k, w' = w.drewN k := by
  have Hl := hide hl
  clear hl
  go_enter Try.func44, Try.ntmps44
  go_wp2
  go_loopw [5] (fun i wr => ∃ k q : Nat, k ≤ m ∧ i = .int .i64 k ∧ wr = w.drewN q) (fun i _ => m - (intOf i).toNat)
  case atStart => exact ⟨0, 0, Nat.zero_le _, rfl, rfl⟩
  case round =>
    obtain ⟨k, q, hk, rfl, rfl⟩ := hrel
    by_cases hlt : k < m
    · obtain ⟨ad, u, rfl, _, hu, hc⟩ := hr.at_ hlt
      obtain ⟨ad', u', rfl, _, hu', hc'⟩ := hr'.at_ hlt
      rw [hu] at hu'
      injection hu' with hu'
      subst hu'
      rw [List.getElem?_map] at hu
      have hkl : k < zs.length := by rw [Hl.out]; exact hlt
      rw [List.getElem?_eq_getElem hkl] at hu
      generalize zs[k] = z at *
      simp only [Option.map_some, Option.some.injEq] at hu
      subst hu
      clear hkl hr hr'
      go_wp2
      go_quiet (fail)
      go_wp2
      go_roundw
      case rel => exact ⟨k + 1, _, by omega, by go_num, rfl⟩
      case measure => simp [intOf]; omega
    · obtain rfl : k = m := by omega
      go_wp2
      go_ret
      exact ⟨rfl, _, rfl⟩
end Go.Proofs.Ytegegljpmelomaa
