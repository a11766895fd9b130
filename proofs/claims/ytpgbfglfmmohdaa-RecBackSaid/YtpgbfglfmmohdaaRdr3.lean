/- The walk of rec's reader: a time of the odd kind; a time. -/
import Derived.Test.YtpgbfglfmmohdaaRdr2
set_option linter.unusedVariables false
set_option maxRecDepth 20000
namespace Go.Proofs.Ytpgbfglfmmohdaa
open Go.RowKit Go.Deep

attribute [local go_sem] run_store_float
set_option maxHeartbeats 12000000 in
theorem time_bad (s : ByteArray) (k : Nat) (sh : Bool) (g : Nat) (w : World) (h : RdAt w g s k sh) (hk : k + 8 ≤ s.size) (hm : s.size ≤ 9223372036854775807) (hbad : badB (rdN s k 8)) :
    Calls Try.prog 109 #[.pointer (some ⟨g, 0, none⟩)] w fun e w' => e = .returned (.float .f64 nanB) ∧ RdTo w w' g s ((k : Int) + 8) sh := by
  obtain ⟨⟨c0, c1, c2⟩, f1, f2⟩ := h.cells
  have hd : decide ((s.size : Int) - (k : Int) < 8) = false := by rw [decide_eq_false_iff_not]; omega
  have hw0 : IntKind.i64.wrap ((s.size : Int) - (k : Int)) = (s.size : Int) - (k : Int) := IntWalk.i64_in _ (by omega)
  have hw1 : IntKind.i64.wrap ((k : Int) + 8) = (k : Int) + 8 := IntWalk.i64_in _ (by omega)
  have hv := rs_no (s := timeX s k) (p := ((0 : Nat) : Int)) (rs_bad (q := 0) (by rw [timeX_size s k hk]; omega) (by rw [timeX_rd s k hk]; exact hbad)) (by decide)
  have hst := fun w => stread_all (timeX s k) 0 w (by rw [timeX_size s k hk]; omega)
  rw [show ((0 : Nat) : Int) = 0 from rfl] at hv
  simp only [hv] at hst
  have hsl := run_slice_str Try.underlying9 s .i64 .i64 (k : Int) ((k : Int) + 8) k (k + 8) rfl (by omega) (by omega) hk
  have e1 := fun w => run_cat (s.extract k (k + 8)) (iS 0) (by rw [is_size, ByteArray.size_extract]; omega) w
  have e2 := fun w => run_cat (s.extract k (k + 8) ++ iS 0) (iS 0) (by rw [ByteArray.size_append, is_size, ByteArray.size_extract]; omega) w
  have H := hide h
  clear hv hbad h
  unfold timeX at hst
  have HST := hide hst
  clear hst
  generalize rdN s k 8 = T at *
  go_enter Try.func109, Try.ntmps109
  go_wp2_with fail
  go_quiet (fail)
  go_wp2_with fail
  clear c0 c1 c2 f1 f2
  obtain ⟨⟨c0, c1, c2⟩, f1, f2⟩ : RdAt (w.drewN nq) g s k sh := H.out
  have hrd : RdAt (w.drewN nq).drew g s k sh := H.out
  have hgr : w.grownBy (w.drewN nq).drew (some g) := only_drew (only_drewN (World.grownBy.refl w _) nq)
  have hsz : w.heap.size ≤ (w.drewN nq).heap.size := Nat.le_refl _
  have hglt : g < (w.drewN nq).heap.size := H.out.lt
  clear H hd hw0 f1 f2 c2
  generalize w.drewN nq = wq at *
  have hsz2 : wq.drew.heap.size = wq.heap.size := rfl
  go_region_held3 (fun w' => w'.cell? ⟨g, 0, none⟩ = some (.string s) ∧ w'.cell? ⟨g, 1, none⟩ = some (.int .i64 (k : Int)) ∧ RdAt w' g s k sh ∧ w.grownBy w' (some g))
    (first
      | (go_split_ands; exact ⟨by assumption, by assumption, by assumption, by assumption⟩)
      | (go_split_ands; exact rd_all (RdAt.below (by assumption) hbR) (only_below (by assumption) hbR))
      | (go_split_ands; exact rd_all (RdAt.below (by assumption) hbI) (only_below (by assumption) hbI))
      | (go_split_ands; with_reducible exact rd_all (RdAt.below (by assumption) ((Below.refl _ _).alloc (Nat.le_refl _) _)) (only_alloc (by assumption) _))
      | (go_split_ands; with_reducible exact rd_all (RdAt.swap (by assumption) (by omega)) (only_swap (by assumption) (by omega)))
      | (go_split_ands; exact rd_all (RdAt.far (RdAt.far (RdAt.far (by assumption) (by simp only; omega) _) (by simp only; omega) _) (by simp only; omega) _) (only_setCell (only_setCell (only_setCell (by assumption) (.inr (by simp only; omega)) _) (.inr (by simp only; omega)) _) (.inr (by simp only; omega)) _)))
    (first
      | (go_at_call 25; refine (i_any _ _).mono ?_; rintro e wI ⟨rfl, hbI⟩; have hzI := hbI.size; (try simp at hzI); obtain ⟨hcI, hfI⟩ := bcell hbI; try (have hxI : BoxAt wI _ := box_below (by first | assumption | exact box_new _ | exact box_new' _) hbI; have hxJ := hxI; obtain ⟨⟨q0, q1, q2⟩, ⟨q3, q4, q5⟩, q6⟩ := hxJ))
      | (go_at_call 53; refine (HST.out _).mono ?_; rintro e wR ⟨rfl, hbR⟩; have hzR := hbR.size; (try simp at hzR); obtain ⟨hcR, hfR⟩ := bcell hbR; try (have hxI : BoxAt wR _ := box_below (by first | assumption | exact box_new _ | exact box_new' _) hbR; have hxJ := hxI; obtain ⟨⟨q0, q1, q2⟩, ⟨q3, q4, q5⟩, q6⟩ := hxJ)))
  all_goals
    go_split_ands
    obtain ⟨⟨z0, z1, z2⟩, z3, z4⟩ := RdAt.cells (s := s) (k := (k : Int)) (sh := sh) (g := g) (by assumption)
    go_wp2_with (go_at_call 86; refine (mnan_any _).mono ?_; rintro e wN ⟨rfl, rfl⟩)
    go_ret
    exact ⟨rfl, ⟨RdAt.set1 (by assumption), only_setCell (by assumption) (.inl rfl) _⟩⟩
/-- The time that the reader tells at k. -/
instance badB_dec (b : Nat) : Decidable (badB b) := by unfold badB; exact inferInstanceAs (Decidable (_ ∨ _))
def timeB (s : ByteArray) (k : Nat) : Nat := if badB (rdN s k 8) then nanB else unB (rdN s k 8)
theorem time_go (s : ByteArray) (k : Nat) (sh : Bool) (g : Nat) (w : World) (h : RdAt w g s k sh) (hk : k + 8 ≤ s.size) (hm : s.size ≤ 9223372036854775807) :
    Calls Try.prog 109 #[.pointer (some ⟨g, 0, none⟩)] w fun e w' => e = .returned (.float .f64 (timeB s k)) ∧ RdTo w w' g s ((k : Int) + 8) sh := by
  unfold timeB
  by_cases hb : badB (rdN s k 8)
  · rw [if_pos hb]; exact time_bad s k sh g w h hk hm hb
  · rw [if_neg hb]; exact time_in s k sh g w h hk hm hb
end Go.Proofs.Ytpgbfglfmmohdaa
