/- The walk of rec's reader: its end. -/
import Derived.Test.YtpgbfglfmmohdaaRdr3
set_option linter.unusedVariables false
set_option maxRecDepth 20000
namespace Go.Proofs.Ytpgbfglfmmohdaa
open Go.RowKit Go.Deep

/-- What is wrong behind all that was read: 5 where bytes ended, 6 where bytes are left or the thing is no thing. -/
def endE (s : ByteArray) (k : Int) (sh ok : Bool) : Int := if sh = true then 5 else if k < (s.size : Int) ∨ ok = false then 6 else 0
set_option maxHeartbeats 4000000 in
theorem end_short (s : ByteArray) (k : Int) (ok : Bool) (g : Nat) (w : World) (h : RdAt w g s k true) :
    Calls Try.prog 102 #[.pointer (some ⟨g, 0, none⟩), .bool ok] w fun e w' => e = .returned (.int .i64 5) ∧ ∃ n, w' = w.drewN n := by
  obtain ⟨⟨c0, c1, c2⟩, f1, f2⟩ := h.cells
  go_enter Try.func102, Try.ntmps102
  go_wp2_with fail
  go_ret
  exact ⟨rfl, 0, rfl⟩
set_option maxHeartbeats 4000000 in
theorem end_left (s : ByteArray) (k : Int) (ok : Bool) (g : Nat) (w : World) (h : RdAt w g s k false) (hk : k < (s.size : Int)) :
    Calls Try.prog 102 #[.pointer (some ⟨g, 0, none⟩), .bool ok] w fun e w' => e = .returned (.int .i64 6) ∧ ∃ n, w' = w.drewN n := by
  obtain ⟨⟨c0, c1, c2⟩, f1, f2⟩ := h.cells
  have hd : decide (k < (s.size : Int)) = true := decide_eq_true hk
  go_enter Try.func102, Try.ntmps102
  go_wp2_with fail
  go_quiet (fail)
  go_wp2_with fail
  go_ret
  exact ⟨rfl, _, rfl⟩
set_option maxHeartbeats 4000000 in
theorem end_ok (s : ByteArray) (k : Int) (ok : Bool) (g : Nat) (w : World) (h : RdAt w g s k false) (hk : ¬ k < (s.size : Int)) :
    Calls Try.prog 102 #[.pointer (some ⟨g, 0, none⟩), .bool ok] w fun e w' => e = .returned (.int .i64 (if ok = false then 6 else 0)) ∧ ∃ n, w' = w.drewN n := by
  obtain ⟨⟨c0, c1, c2⟩, f1, f2⟩ := h.cells
  have hd : decide (k < (s.size : Int)) = false := decide_eq_false hk
  cases ok
  all_goals
    go_enter Try.func102, Try.ntmps102
    go_wp2_with fail
    go_quiet (fail)
    go_wp2_with fail
    go_ret
    exact ⟨rfl, _, rfl⟩
theorem end_any (s : ByteArray) (k : Int) (sh ok : Bool) (g : Nat) (w : World) (h : RdAt w g s k sh) :
    Calls Try.prog 102 #[.pointer (some ⟨g, 0, none⟩), .bool ok] w fun e w' => e = .returned (.int .i64 (endE s k sh ok)) ∧ ∃ n, w' = w.drewN n := by
  unfold endE
  cases sh
  · by_cases hk : k < (s.size : Int)
    · rw [if_neg (by decide), if_pos (.inl hk)]; exact end_left s k ok g w h hk
    · have e := end_ok s k ok g w h hk
      rw [if_neg (by decide)]
      cases ok
      · rw [if_pos (.inr rfl)]; exact e
      · rw [if_neg (fun h => h.elim hk (by decide))]; exact e
  · exact end_short s k ok g w h
end Go.Proofs.Ytpgbfglfmmohdaa
