/- The laws of pack: what must come at any rate, every number's bytes. No condition but sizes that any memory has. -/
import Derived.Test.YtpgbfglfmmohdaaPack8
set_option linter.unusedVariables false
set_option maxRecDepth 20000
namespace Go.Proofs.Ytpgbfglfmmohdaa
open Go.RowKit Go.Deep

theorem text_ab (w : World) : Calls Try.prog 27 #[.string ⟨#[97, 98]⟩] w fun e w' => e = .returned (.tuple #[.string ⟨#[0, 2, 97, 98]⟩, .int .i64 0]) ∧ Below w.heap.size w w' :=
  (text_any ⟨#[97, 98]⟩ w (by decide)).mono fun e w' ⟨h1, h2⟩ => ⟨by rw [h1]; rfl, h2⟩
theorem i_seven (w : World) : Calls Try.prog 25 #[.int .i64 (-7)] w fun e w' => e = .returned (.string ⟨#[127, 255, 255, 255, 255, 255, 255, 249]⟩) ∧ Below w.heap.size w w' :=
  (i_any (-7) w).mono fun e w' ⟨h1, h2⟩ => ⟨by rw [h1]; rfl, h2⟩
theorem u_258 (w : World) : Calls Try.prog 23 #[.int .u64 258] w fun e w' => e = .returned (.string ⟨#[0, 0, 0, 0, 0, 0, 1, 2]⟩) ∧ Below w.heap.size w w' :=
  (u_any 258 w (by decide) (by decide)).mono fun e w' ⟨h1, h2⟩ => ⟨by rw [h1]; rfl, h2⟩

theorem seven_at : unI (rdN (⟨#[120]⟩ ++ ⟨#[127, 255, 255, 255, 255, 255, 255, 249]⟩) 1 8 : Nat) = -7 := by decide +kernel
theorem readi_seven (w : World) : Calls Try.prog 43 #[.string (⟨#[120]⟩ ++ ⟨#[127, 255, 255, 255, 255, 255, 255, 249]⟩), .int .i64 1] w fun e w' => e = .returned (.tuple #[.int .i64 (-7), .int .i64 9, .int .i64 0]) ∧ w = w' := by
  have h9 : (⟨#[120]⟩ ++ ⟨#[127, 255, 255, 255, 255, 255, 255, 249]⟩ : ByteArray).size = 9 := by decide +kernel
  have hs := seven_at
  generalize (⟨#[120]⟩ ++ ⟨#[127, 255, 255, 255, 255, 255, 255, 249]⟩ : ByteArray) = S at *
  have h := readi_any S 1 w (by omega) (by omega)
  rw [hs, show ((1 + 8 : Nat) : Int) = 9 from rfl, show ((1 : Nat) : Int) = 1 from rfl] at h
  exact h

theorem awake01 (w : World) : Calls Try.prog 22 #[] w fun e w' => e = .returned (.bool true) ∧ Below w.heap.size w w' := by
  go_enter Try.func22, Try.ntmps22
  go_wp2_with fail
  refine (text_ab _).mono ?_
  rintro e w1 ⟨rfl, hb1⟩
  go_wp2_with fail
  refine (i_seven _).mono ?_
  rintro e w2 ⟨rfl, hb2⟩
  go_wp2_with fail
  refine (readi_seven _).mono ?_
  rintro e w' ⟨rfl, rfl⟩
  go_wp2_with fail
  refine (u_258 _).mono ?_
  rintro e w3 ⟨rfl, hb3⟩
  go_wp2
  go_ret
  exact ⟨rfl, below_after (below_after hb1 hb2) hb3⟩

theorem lays_walk (n m : Int) (w : World) (h0 : 0 ≤ n) (h1 : n ≤ 18446744073709551615) :
    Calls Try.prog 3 #[.int .u64 n, .int .i64 m] w fun e w' => e = .returned (.bool true) ∧ Below w.heap.size w w' := by
  go_enter Try.func3, Try.ntmps3
  go_wp2_with fail
  refine (awake01 _).mono ?_
  rintro e w1 ⟨rfl, hb1⟩
  go_wp2_with fail
  refine (u_any _ _ h0 h1).mono ?_
  rintro e w2 ⟨rfl, hb2⟩
  go_wp2_with fail
  refine (ru_any _ _ h0 h1).mono ?_
  rintro e w3 ⟨rfl, hb3⟩
  go_wp2_with fail
  refine (i_any _ _).mono ?_
  rintro e w4 ⟨rfl, hb4⟩
  go_wp2_with fail
  refine (ri_any _ _).mono ?_
  rintro e w5 ⟨rfl, hb5⟩
  go_wp2
  go_ret
  exact ⟨rfl, below_after (below_after (below_after (below_after hb1 hb2) hb3) hb4) hb5⟩

theorem texts_walk (s : ByteArray) (A : Option Addr) (m c : Nat) (zs : List Int) (w : World) (hs : s.size ≤ 9223372036854775807) (hl : zs.length = m) (hm : m ≤ 9223372036854775807) (hr : Reads w w.heap.size 1 A m (zs.map (Value.int .i64))) :
    Calls Try.prog 5 #[.string s, .slice A m c] w fun e w' => e = .returned (.bool true) ∧ Below w.heap.size w w' := by
  by_cases hs4 : s.size ≤ 4096
  · by_cases hm6 : 600 < m
    · go_enter Try.func5, Try.ntmps5
      go_wp2_with fail
      refine (text_any _ _ hs4).mono ?_
      rintro e w1 ⟨rfl, hb1⟩
      go_wp2_with fail
      refine (rtext_any _ _ hs4).mono ?_
      rintro e w2 ⟨rfl, hb2⟩
      go_wp2_with fail
      refine (awake01 _).mono ?_
      rintro e w3 ⟨rfl, hb3⟩
      go_wp2
      go_ret
      exact ⟨rfl, below_after (below_after hb1 hb2) hb3⟩
    · by_cases hm5 : m ≤ 512
      · go_enter Try.func5, Try.ntmps5
        go_wp2_with fail
        refine (text_any _ _ hs4).mono ?_
        rintro e w1 ⟨rfl, hb1⟩
        go_wp2_with fail
        refine (rtext_any _ _ hs4).mono ?_
        rintro e w2 ⟨rfl, hb2⟩
        go_wp2_with fail
        refine (awake01 _).mono ?_
        rintro e w3 ⟨rfl, hb3⟩
        have hb := below_after (below_after hb1 hb2) hb3
        clear hb1 hb2 hb3
        go_wp2_with fail
        refine (list_any _ _ _ zs _ hl hm5 ((hr.below hb).more hb.size)).mono ?_
        rintro e w4 ⟨rfl, hb4⟩
        have hb5 := below_after hb hb4
        clear hb hb4
        go_wp2_with fail
        refine (rlist_any _ _ _ zs _ hl hm5 ((hr.below hb5).more hb5.size)).mono ?_
        rintro e w5 ⟨rfl, hb6⟩
        go_wp2
        go_ret
        exact ⟨rfl, below_after hb5 hb6⟩
      · go_enter Try.func5, Try.ntmps5
        go_wp2_with fail
        refine (text_any _ _ hs4).mono ?_
        rintro e w1 ⟨rfl, hb1⟩
        go_wp2_with fail
        refine (rtext_any _ _ hs4).mono ?_
        rintro e w2 ⟨rfl, hb2⟩
        go_wp2_with fail
        refine (awake01 _).mono ?_
        rintro e w3 ⟨rfl, hb3⟩
        have hb := below_after (below_after hb1 hb2) hb3
        clear hb1 hb2 hb3
        go_wp2_with fail
        refine (list_big _ _ _ _ (by omega) hm).mono ?_
        rintro e w4 ⟨rfl, rfl⟩
        go_wp2_with fail
        refine (rlist_big _ _ _ _ (by omega) hm).mono ?_
        rintro e w5 ⟨rfl, rfl⟩
        go_wp2
        go_ret
        exact ⟨rfl, hb⟩
  · by_cases hm6 : 600 < m
    · go_enter Try.func5, Try.ntmps5
      go_wp2_with fail
      refine (text_big _ _ (by omega) hs).mono ?_
      rintro e w1 ⟨rfl, rfl⟩
      go_wp2_with fail
      refine (rtext_big _ _ (by omega) hs).mono ?_
      rintro e w2 ⟨rfl, rfl⟩
      go_wp2_with fail
      refine (awake01 _).mono ?_
      rintro e w3 ⟨rfl, hb3⟩
      go_wp2
      go_ret
      exact ⟨rfl, hb3⟩
    · by_cases hm5 : m ≤ 512
      · go_enter Try.func5, Try.ntmps5
        go_wp2_with fail
        refine (text_big _ _ (by omega) hs).mono ?_
        rintro e w1 ⟨rfl, rfl⟩
        go_wp2_with fail
        refine (rtext_big _ _ (by omega) hs).mono ?_
        rintro e w2 ⟨rfl, rfl⟩
        go_wp2_with fail
        refine (awake01 _).mono ?_
        rintro e w3 ⟨rfl, hb⟩
        go_wp2_with fail
        refine (list_any _ _ _ zs _ hl hm5 ((hr.below hb).more hb.size)).mono ?_
        rintro e w4 ⟨rfl, hb4⟩
        have hb5 := below_after hb hb4
        clear hb hb4
        go_wp2_with fail
        refine (rlist_any _ _ _ zs _ hl hm5 ((hr.below hb5).more hb5.size)).mono ?_
        rintro e w5 ⟨rfl, hb6⟩
        go_wp2
        go_ret
        exact ⟨rfl, below_after hb5 hb6⟩
      · go_enter Try.func5, Try.ntmps5
        go_wp2_with fail
        refine (text_big _ _ (by omega) hs).mono ?_
        rintro e w1 ⟨rfl, rfl⟩
        go_wp2_with fail
        refine (rtext_big _ _ (by omega) hs).mono ?_
        rintro e w2 ⟨rfl, rfl⟩
        go_wp2_with fail
        refine (awake01 _).mono ?_
        rintro e w3 ⟨rfl, hb⟩
        go_wp2_with fail
        refine (list_big _ _ _ _ (by omega) hm).mono ?_
        rintro e w4 ⟨rfl, rfl⟩
        go_wp2_with fail
        refine (rlist_big _ _ _ _ (by omega) hm).mono ?_
        rintro e w5 ⟨rfl, rfl⟩
        go_wp2
        go_ret
        exact ⟨rfl, hb⟩
end Go.Proofs.Ytpgbfglfmmohdaa
