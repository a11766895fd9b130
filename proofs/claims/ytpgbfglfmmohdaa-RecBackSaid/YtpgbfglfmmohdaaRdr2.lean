/- The walk of rec's reader: a time. UNDER WAY. -/
import Derived.Test.YtpgbfglfmmohdaaRdr
set_option linter.unusedVariables false
set_option maxRecDepth 20000
namespace Go.Proofs.Ytpgbfglfmmohdaa
open Go.RowKit Go.Deep

attribute [local go_sem] run_store_float
theorem rd_all {W a : World} {g : Nat} {s : ByteArray} {k : Int} {sh : Bool} {row : Option Nat} (h : RdAt W g s k sh) (h2 : a.grownBy W row) : W.cell? ⟨g, 0, none⟩ = some (.string s) ∧ W.cell? ⟨g, 1, none⟩ = some (.int .i64 k) ∧ RdAt W g s k sh ∧ a.grownBy W row := ⟨h.1.1, h.1.2.1, h, h2⟩
/-- The new box of a stamp. -/
def BoxAt (W : World) (b : Nat) : Prop := (W.cell? ⟨b, 0, none⟩ = some (.float .f64 0) ∧ W.cell? ⟨b, 1, none⟩ = some (.int .i64 0) ∧ W.cell? ⟨b, 2, none⟩ = some (.int .i64 0)) ∧ (W.frozen? ⟨b, 0, none⟩ = false ∧ W.frozen? ⟨b, 1, none⟩ = false ∧ W.frozen? ⟨b, 2, none⟩ = false) ∧ b < W.heap.size
theorem box_new' (X : World) : BoxAt (X.alloc (.cells #[.float .f64 0, .int .i64 0, .int .i64 0] 42)) X.heap.size := by
  have hl : X.heap.size < (X.alloc (.cells #[.float .f64 0, .int .i64 0, .int .i64 0] 42)).heap.size := by show _ < (X.heap.push _).size; rw [Array.size_push]; omega
  have hc := fun (i : Nat) => (Blk.new X 42 #[.float .f64 0, .int .i64 0, .int .i64 0]).cell i
  have hf := fun (i : Nat) => (Blk.new X 42 #[.float .f64 0, .int .i64 0, .int .i64 0]).frozen i
  exact ⟨⟨hc 0, hc 1, hc 2⟩, ⟨hf 0, hf 1, hf 2⟩, hl⟩
theorem box_new (X : World) : BoxAt (X.alloc (.cells #[.float .f64 0, .int .i64 0, .int .i64 0] 42)).drew X.heap.size := box_new' X
theorem box_below {W W' : World} {b : Nat} (h : BoxAt W b) (hb : Below W.heap.size W W') : BoxAt W' b := by
  obtain ⟨⟨a0, a1, a2⟩, ⟨f0, f1, f2⟩, hl⟩ := h
  obtain ⟨hc, hf⟩ := bcell hb
  exact ⟨⟨(hc _ _ hl).trans a0, (hc _ _ hl).trans a1, (hc _ _ hl).trans a2⟩, ⟨(hf _ _ hl).trans f0, (hf _ _ hl).trans f1, (hf _ _ hl).trans f2⟩, Nat.lt_of_lt_of_le hl hb.size⟩
set_option maxHeartbeats 12000000 in
theorem time_in (s : ByteArray) (k : Nat) (sh : Bool) (g : Nat) (w : World) (h : RdAt w g s k sh) (hk : k + 8 ≤ s.size) (hm : s.size ≤ 9223372036854775807) (hbad : ¬ badB (rdN s k 8)) :
    Calls Try.prog 109 #[.pointer (some ⟨g, 0, none⟩)] w fun e w' => e = .returned (.float .f64 (unB (rdN s k 8))) ∧ RdTo w w' g s ((k : Int) + 8) sh := by
  obtain ⟨⟨c0, c1, c2⟩, f1, f2⟩ := h.cells
  have hd : decide ((s.size : Int) - (k : Int) < 8) = false := by rw [decide_eq_false_iff_not]; omega
  have hw0 : IntKind.i64.wrap ((s.size : Int) - (k : Int)) = (s.size : Int) - (k : Int) := IntWalk.i64_in _ (by omega)
  have hw1 : IntKind.i64.wrap ((k : Int) + 8) = (k : Int) + 8 := IntWalk.i64_in _ (by omega)
  have hv := rs_yes (s := timeX s k) (q := 0) (rs_ok (by rw [timeX_size s k hk]; omega) (by rw [timeX_rd s k hk]; exact hbad))
  rw [timeX_rd s k hk] at hv
  have hst := fun w => stread_all (timeX s k) 0 w (by rw [timeX_size s k hk]; omega)
  rw [show ((0 : Nat) : Int) = 0 from rfl] at hv
  simp only [hv] at hst
  have hsl := run_slice_str Try.underlying9 s .i64 .i64 (k : Int) ((k : Int) + 8) k (k + 8) rfl (by omega) (by omega) hk
  have e1 := fun w => run_cat (s.extract k (k + 8)) (iS 0) (by rw [is_size, ByteArray.size_extract]; omega) w
  have e2 := fun w => run_cat (s.extract k (k + 8) ++ iS 0) (iS 0) (by rw [ByteArray.size_append, is_size, ByteArray.size_extract]; omega) w
  have H := hide h
  clear hv hbad h
  unfold timeX at hst
  have HST := hide hst
  clear hst
  generalize rdN s k 8 = T at *
  go_enter Try.func109, Try.ntmps109
  go_wp2_with fail
  go_quiet (fail)
  go_wp2_with fail
  clear c0 c1 c2 f1 f2
  obtain ⟨⟨c0, c1, c2⟩, f1, f2⟩ : RdAt (w.drewN nq) g s k sh := H.out
  have hrd : RdAt (w.drewN nq).drew g s k sh := H.out
  have hgr : w.grownBy (w.drewN nq).drew (some g) := only_drew (only_drewN (World.grownBy.refl w _) nq)
  have hsz : w.heap.size ≤ (w.drewN nq).heap.size := Nat.le_refl _
  have hglt : g < (w.drewN nq).heap.size := H.out.lt
  clear H hd hw0 f1 f2 c2
  generalize w.drewN nq = wq at *
  have hsz2 : wq.drew.heap.size = wq.heap.size := rfl
  go_region_held3 (fun w' => w'.cell? ⟨g, 0, none⟩ = some (.string s) ∧ w'.cell? ⟨g, 1, none⟩ = some (.int .i64 (k : Int)) ∧ RdAt w' g s k sh ∧ w.grownBy w' (some g))
    (first
      | (go_split_ands; exact ⟨by assumption, by assumption, by assumption, by assumption⟩)
      | (go_split_ands; exact rd_all (RdAt.below (by assumption) hbR) (only_below (by assumption) hbR))
      | (go_split_ands; exact rd_all (RdAt.below (by assumption) hbI) (only_below (by assumption) hbI))
      | (go_split_ands; with_reducible exact rd_all (RdAt.below (by assumption) ((Below.refl _ _).alloc (Nat.le_refl _) _)) (only_alloc (by assumption) _))
      | (go_split_ands; with_reducible exact rd_all (RdAt.swap (by assumption) (by omega)) (only_swap (by assumption) (by omega)))
      | (go_split_ands; exact rd_all (RdAt.far (RdAt.far (RdAt.far (by assumption) (by simp only; omega) _) (by simp only; omega) _) (by simp only; omega) _) (only_setCell (only_setCell (only_setCell (by assumption) (.inr (by simp only; omega)) _) (.inr (by simp only; omega)) _) (.inr (by simp only; omega)) _)))
    (first
      | (go_at_call 25; refine (i_any _ _).mono ?_; rintro e wI ⟨rfl, hbI⟩; have hzI := hbI.size; (try simp at hzI); obtain ⟨hcI, hfI⟩ := bcell hbI; try (have hxI : BoxAt wI _ := box_below (by first | assumption | exact box_new _ | exact box_new' _) hbI; have hxJ := hxI; obtain ⟨⟨q0, q1, q2⟩, ⟨q3, q4, q5⟩, q6⟩ := hxJ))
      | (go_at_call 53; refine (HST.out _).mono ?_; rintro e wR ⟨rfl, hbR⟩; have hzR := hbR.size; (try simp at hzR); obtain ⟨hcR, hfR⟩ := bcell hbR; try (have hxI : BoxAt wR _ := box_below (by first | assumption | exact box_new _ | exact box_new' _) hbR; have hxJ := hxI; obtain ⟨⟨q0, q1, q2⟩, ⟨q3, q4, q5⟩, q6⟩ := hxJ)))
  all_goals
    go_split_ands
    obtain ⟨⟨z0, z1, z2⟩, z3, z4⟩ := RdAt.cells (s := s) (k := (k : Int)) (sh := sh) (g := g) (by assumption)
    go_wp2_with fail
    go_ret
    exact ⟨rfl, ⟨RdAt.set1 (by assumption), only_setCell (by assumption) (.inl rfl) _⟩⟩
end Go.Proofs.Ytpgbfglfmmohdaa
