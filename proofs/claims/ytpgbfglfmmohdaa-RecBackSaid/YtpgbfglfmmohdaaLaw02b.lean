/- More laws of package stamp: which of two comes first; it is an order. No condition. -/
import Derived.Test.YtpgbfglfmmohdaaLaw02
set_option linter.unusedVariables false
set_option maxRecDepth 20000
namespace Go.Proofs.Ytpgbfglfmmohdaa
open Go.RowKit Go.Deep

def StAt (w : World) (g : Nat) (t : Nat) (s n : Int) : Prop := Blk w g 42 #[.float .f64 t, .int .i64 s, .int .i64 n]
theorem StAt.cells {w : World} {g t : Nat} {s n : Int} (h : StAt w g t s n) : w.cell? ⟨g, 0, none⟩ = some (.float .f64 t) ∧ w.cell? ⟨g, 1, none⟩ = some (.int .i64 s) ∧ w.cell? ⟨g, 2, none⟩ = some (.int .i64 n) := ⟨h.cell 0, h.cell 1, h.cell 2⟩

/-- A cell that holds something holds it behind a call that only makes memory. -/
theorem keep1 {w w' : World} {p : Addr} {v : Value} (hb : Below w.heap.size w w') (h : w.cell? p = some v) : w'.cell? p = some v := (hb.cell (cell_lt h)).trans h
set_option maxHeartbeats 1600000 in
theorem compares_walk (t u : Nat) (s n s' n' : Int) (w : World) :
    Calls Try.prog 7 #[.agg #[.float .f64 t, .int .i64 s, .int .i64 n], .agg #[.float .f64 u, .int .i64 s', .int .i64 n']] w fun e w' => e = .returned (.bool true) ∧ Below w.heap.size w w' := by
  go_enter Try.func7, Try.ntmps7
  go_wp2_with fail
  have h1 : StAt ((w.alloc (.cells #[.float .f64 t, .int .i64 s, .int .i64 n] 42)).alloc (.cells #[.float .f64 u, .int .i64 s', .int .i64 n'] 42)) w.heap.size t s n := (Blk.new w _ _).alloc _
  have h2 : StAt ((w.alloc (.cells #[.float .f64 t, .int .i64 s, .int .i64 n] 42)).alloc (.cells #[.float .f64 u, .int .i64 s', .int .i64 n'] 42)) (w.heap.size + 1) u s' n' := by
    have := Blk.new (w.alloc (.cells #[.float .f64 t, .int .i64 s, .int .i64 n] 42)) 42 #[.float .f64 u, .int .i64 s', .int .i64 n']
    simpa [StAt] using this
  have hB : Below w.heap.size w ((w.alloc (.cells #[.float .f64 t, .int .i64 s, .int .i64 n] 42)).alloc (.cells #[.float .f64 u, .int .i64 s', .int .i64 n'] 42)) := ((Below.refl _ _).alloc (Nat.le_refl _) _).alloc (by simp) _
  have hz : w.heap.size + 1 < ((w.alloc (.cells #[.float .f64 t, .int .i64 s, .int .i64 n] 42)).alloc (.cells #[.float .f64 u, .int .i64 s', .int .i64 n'] 42)).heap.size := by simp
  generalize (w.alloc (.cells #[.float .f64 t, .int .i64 s, .int .i64 n] 42)).alloc (.cells #[.float .f64 u, .int .i64 s', .int .i64 n'] 42) = w1 at *
  obtain ⟨c0, c1, c2⟩ := h1.cells
  obtain ⟨d0, d1, d2⟩ := h2.cells
  have hz0 : w.heap.size < w1.heap.size := by omega
  have hB' : Below w.heap.size w w1.drew := hB.drew
  go_region_held3 (fun w' => w'.cell? ⟨w.heap.size, 0, none⟩ = some (.float .f64 t) ∧ w'.cell? ⟨w.heap.size, 1, none⟩ = some (.int .i64 s) ∧ w'.cell? ⟨w.heap.size, 2, none⟩ = some (.int .i64 n) ∧
      w'.cell? ⟨w.heap.size + 1, 0, none⟩ = some (.float .f64 u) ∧ w'.cell? ⟨w.heap.size + 1, 1, none⟩ = some (.int .i64 s') ∧ w'.cell? ⟨w.heap.size + 1, 2, none⟩ = some (.int .i64 n'))
    (first
      | go_keep
      | (go_split_ands; exact ⟨keep1 hb4 (by assumption), keep1 hb4 (by assumption), keep1 hb4 (by assumption), keep1 hb4 (by assumption), keep1 hb4 (by assumption), keep1 hb4 (by assumption)⟩)
      | (go_split_ands; exact ⟨keep1 hb3 (by assumption), keep1 hb3 (by assumption), keep1 hb3 (by assumption), keep1 hb3 (by assumption), keep1 hb3 (by assumption), keep1 hb3 (by assumption)⟩)
      | (go_split_ands; exact ⟨keep1 hb2 (by assumption), keep1 hb2 (by assumption), keep1 hb2 (by assumption), keep1 hb2 (by assumption), keep1 hb2 (by assumption), keep1 hb2 (by assumption)⟩))
    (first
      | (go_at_call 35; refine (awake02 _).mono ?_; rintro e w2 ⟨rfl, hb2⟩; obtain ⟨hc2, hf2⟩ := bcell hb2)
      | (go_at_call 37; refine (times_any _ _ _).mono ?_; rintro e w2 ⟨rfl, rfl⟩)
      | (go_at_call 38; refine (rtimes_any _ _ _).mono ?_; rintro e w2 ⟨rfl, rfl⟩)
      | (go_at_call 39; refine (compare_any _ _ _ _ _ _ _).mono ?_; rintro e w3 ⟨rfl, hb3⟩; obtain ⟨hc3, hf3⟩ := bcell hb3)
      | (go_at_call 40; refine (rcompare_any _ _ _ _ _ _ _).mono ?_; rintro e w4 ⟨rfl, hb4⟩; obtain ⟨hc4, hf4⟩ := bcell hb4))
  go_wp2
  go_ret
  exact ⟨rfl, below_after (below_after (below_after hB' hb2) hb3) hb4⟩
end Go.Proofs.Ytpgbfglfmmohdaa
