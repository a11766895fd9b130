/- The walk of law08's awake. No condition. -/
import Derived.Test.YtpfcmfannkbipaaAw8
import Derived.Test.YtpfcmfannkbipaaAct7
set_option linter.unusedVariables false
set_option linter.unusedSimpArgs false
set_option maxRecDepth 20000
namespace Go.Proofs.Ytpfcmfannkbipaa
open Go.RowKit Go.Deep

attribute [local go_sem] run_store_float
/-- An event's cells at a place. -/
def EvC (W : World) (g : Nat) (x : Ev) : Prop := W.cell? ⟨g, 0, none⟩ = some (.float .f64 x.1) ∧ W.cell? ⟨g, 1, none⟩ = some (.int .i64 x.2.1) ∧ W.cell? ⟨g, 2, none⟩ = some (.int .i64 x.2.2.1) ∧ W.cell? ⟨g, 3, none⟩ = some (.int .i64 x.2.2.2.1) ∧ W.cell? ⟨g, 4, none⟩ = some (.int .i64 x.2.2.2.2)
theorem EvC.keep {W W' : World} {g : Nat} {x : Ev} (h : EvC W g x) (hb : Below W.heap.size W W') : EvC W' g x := ⟨keepc hb h.1, keepc hb h.2.1, keepc hb h.2.2.1, keepc hb h.2.2.2.1, keepc hb h.2.2.2.2⟩
theorem own_one_ev {W : World} {B : Nat} {v : Value} {x : Ev} (h : OwnR 37 5 encEv W B v [x]) : ∃ g c, v = .slice (some ⟨g, 0, none⟩) 1 c ∧ 1 ≤ c ∧ c ≤ 9223372036854775807 ∧ EvC W g x := by
  obtain ⟨s, rfl, hL, hc, hf⟩ := h.form
  obtain ⟨g, hA, _, _, hcell⟩ := hf (by simp)
  obtain ⟨A, c, L⟩ := s
  simp only at hL hA hc
  subst hL hA
  exact ⟨g, c, rfl, hc.1, hc.2, hcell 0 _ rfl, hcell 1 _ rfl, hcell 2 _ rfl, hcell 3 _ rfl, hcell 4 _ rfl⟩
theorem own_one_int {W : World} {B : Nat} {v : Value} {x : Int} (h : OwnR 3 1 encInt W B v [x]) : ∃ g c, v = .slice (some ⟨g, 0, none⟩) 1 c ∧ 1 ≤ c ∧ c ≤ 9223372036854775807 ∧ W.cell? ⟨g, 0, none⟩ = some (.int .i64 x) := by
  obtain ⟨s, rfl, hL, hc, hf⟩ := h.form
  obtain ⟨g, hA, _, _, hcell⟩ := hf (by simp)
  obtain ⟨A, c, L⟩ := s
  simp only at hL hA hc
  subst hL hA
  exact ⟨g, c, rfl, hc.1, hc.2, hcell 0 _ rfl⟩
def SmB (w : World) (e : Ending) (w' : World) : Prop := ∃ g c : Nat, e = .returned (.tuple #[.slice (some ⟨g, 0, none⟩) 1 c, .int .i64 0]) ∧ 1 ≤ c ∧ c ≤ 9223372036854775807 ∧ EvC w' g smE ∧ Below w.heap.size w w'
theorem sm_begin (g : Nat) (w : World) (h : (smM g).At w) : Calls Try.prog 50 #[(smM g).val] w (SmB w) := by
  refine (begin8_any _ w h).mono ?_
  rintro e w' ⟨q, rfl, hL, ho, hb⟩
  rw [sm_beg] at hL
  rw [hL] at ho
  obtain ⟨g', c, hv, h1, h2, h3⟩ := own_one_ev ho
  exact ⟨g', c, by rw [hv, show chkE (smM g) = 0 from if_pos (sm_chk g)], h1, h2, h3, hb⟩
def SmF (w : World) (e : Ending) (w' : World) : Prop := ∃ g c : Nat, e = .returned (.tuple #[.agg #[.slice (some ⟨g, 0, none⟩) 1 c, .int .i64 0, .int .i64 0], .int .i64 0]) ∧ 1 ≤ c ∧ c ≤ 9223372036854775807 ∧ w'.cell? ⟨g, 0, none⟩ = some (.int .i64 1) ∧ Below w.heap.size w w'
theorem sm_fst (g : Nat) (w : World) (h : (smM g).At w) : Calls Try.prog 51 #[(smM g).val, .int .i64 0] w (SmF w) := by
  refine (first_any _ 0 w h).mono ?_
  rintro e w' ⟨A, k, rfl, ho, hb⟩
  rw [(sm_first g).2] at ho ⊢
  obtain ⟨g', c, hv, h1, h2, h3⟩ := own_one_int ho
  exact ⟨g', c, by simp only at hv ⊢; rw [hv, (sm_first g).1], h1, h2, h3, hb⟩
def SmH (w : World) (e : Ending) (w' : World) : Prop := ∃ g c g' c' : Nat, e = .returned (.tuple #[.agg #[.slice (some ⟨g, 0, none⟩) 1 c, .int .i64 1, .int .i64 0], .slice (some ⟨g', 0, none⟩) 1 c', .int .i64 0, .int .i64 0]) ∧
  (1 ≤ c ∧ c ≤ 9223372036854775807 ∧ w.heap.size ≤ g ∧ w'.cell? ⟨g, 0, none⟩ = some (.int .i64 3)) ∧ (1 ≤ c' ∧ c' ≤ 9223372036854775807 ∧ w.heap.size ≤ g' ∧ EvC w' g' smS) ∧ Below w.heap.size w w'
theorem sm_han (g gs cs : Nat) (w : World) (h : (smM g).At w) (h1 : 1 ≤ cs) (h2 : cs ≤ 9223372036854775807) (hc : w.cell? ⟨gs, 0, none⟩ = some (.int .i64 1)) :
    Calls Try.prog 41 #[(smM g).val, .int .i64 0, .agg #[.slice (some ⟨gs, 0, none⟩) 1 cs, .int .i64 0, .int .i64 0], .agg #[.float .f64 4607182418800017408, .int .i64 (-1), .int .i64 0, .int .i64 0, .int .i64 2]] w (SmH w) := by
  have hi : ∀ n : Int, -1 ≤ n → n ≤ 100 → I64 n := fun n h1 h2 => ⟨by omega, by omega⟩
  have hs : St.At w ⟨⟨some ⟨gs, 0, none⟩, cs, [1]⟩, 0, 0⟩ := by
    refine ⟨⟨fun i x hx => ⟨_, rfl, ?_⟩, h1, h2⟩, hi 0 (by decide) (by decide), hi 0 (by decide) (by decide)⟩
    rcases i with _ | i
    · have e : 1 = x := by simpa using hx
      subst e
      rw [add_lit]
      exact ⟨by simpa using hc, hi 1 (by decide) (by decide)⟩
    · simp at hx
  refine (handle_any (smM g) 0 ⟨⟨some ⟨gs, 0, none⟩, cs, [1]⟩, 0, 0⟩ smE w h hs ⟨(by decide : 4607182418800017408 < 18446744073709551616), hi (-1) (by decide) (by decide), hi 0 (by decide) (by decide), hi 0 (by decide) (by decide), hi 2 (by decide) (by decide)⟩).mono ?_
  rintro e w' ⟨c, q, rfl, hpl, hqL, ho1, ho2, hb⟩
  simp only [St.pl] at hpl hqL
  rw [show ((⟨⟨some ⟨gs, 0, none⟩, cs, [1]⟩, 0, 0⟩ : St).pl) = ([1], 0, 0) from rfl, sm_may, sm_handle]
  rw [sm_handle] at hpl hqL
  obtain ⟨wd, a, b⟩ := c
  simp only [Prod.mk.injEq] at hpl
  obtain ⟨p1, rfl, rfl⟩ := hpl
  simp only at hqL p1
  rw [p1] at ho1
  rw [hqL] at ho2
  have hk1 := fun k hk => ho1.base k hk
  have hk2 := fun k hk => ho2.base k hk
  obtain ⟨g1, c1, hv1, a1, a2, a3⟩ := own_one_int ho1
  obtain ⟨g2, c2, hv2, b1, b2, b3⟩ := own_one_ev ho2
  refine ⟨g1, c1, g2, c2, ?_, ⟨a1, a2, hk1 g1 (by rw [hv1]; rfl), a3⟩, ⟨b1, b2, hk2 g2 (by rw [hv2]; rfl), b3⟩, hb⟩
  simp only [St.val, hv1, hv2]
end Go.Proofs.Ytpfcmfannkbipaa
