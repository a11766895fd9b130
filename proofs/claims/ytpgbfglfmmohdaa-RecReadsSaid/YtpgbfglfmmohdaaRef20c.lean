/- The walk of R20's GetEvent, at every input. No condition but sizes that any memory has. -/
import Derived.Test.YtpgbfglfmmohdaaRef20b
set_option linter.unusedVariables false
set_option linter.unusedSimpArgs false
set_option maxRecDepth 20000
namespace Go.Proofs.Ytpgbfglfmmohdaa
open Go.RowKit Go.Deep

attribute [local go_sem] run_store_float
theorem run_slice_str_lo {P : Program} {t : TypeId} (ht : P.underlying t = some .string) (s : ByteArray) (k : IntKind) (l : Int) (a : Nat) (hl : l = a) (h2 : a ≤ s.size) (hm : s.size ≤ 9223372036854775807) (w : World) :
    (Instr.slice t (.string s) (some (.int k l)) none none).run P w = .ok (.string (s.extract a s.size)) w := by
  subst hl
  have e1 : (0 : Int) ≤ (a : Int) ∧ (a : Int) ≤ (s.size : Int) := by omega
  simp [Instr.slice, run_underlying ht, Instr.sliceBounds, Instr.sliceBound, asIntOf, e1, h2]
def gev2 (s : ByteArray) : ByteArray := s.extract 0 17 ++ s.extract 18 s.size
set_option maxHeartbeats 40000000 in
theorem rgev26 (s : ByteArray) (w : World) (hz : s.size = 26) (hE : ofE (gev2 s) (s[17].toNat : Int) = gevE s) (t : Nat) (a b c d : Int) (hV : ofV (gev2 s) (s[17].toNat : Int) = .agg #[.float .f64 t, .int .i64 a, .int .i64 b, .int .i64 c, .int .i64 d]) (hVV : gevV s = .agg #[.float .f64 t, .int .i64 a, .int .i64 b, .int .i64 c, .int .i64 d]) :
    Calls Try.prog 67 #[.string s] w fun e w' => e = .returned (.tuple #[gevV s, .int .i64 (gevE s)]) ∧ Below w.heap.size w w' := by
  have hcut := fun w => cut20_any s 26 w
  rw [show cutE s 26 = 0 by unfold cutE; rw [if_neg (by omega), if_neg (by omega)]] at hcut
  have hof := fun w => rof_any (gev2 s) (s[17].toNat : Int) w
  rw [hE, hV] at hof
  unfold gev2 at hof
  rw [hVV]
  clear hE hV hVV
  generalize gevE s = E at *
  have HOF := hide hof
  clear hof
  have hs1 := run_slice_str0 Try.underlying9 s .i64 17 17 rfl (by omega)
  have hs2 := run_slice_str_lo Try.underlying9 s .i64 18 18 rfl (by omega) (by omega)
  have e1 := fun w => run_cat (s.extract 0 17) (s.extract 18 s.size) (by rw [ByteArray.size_extract, ByteArray.size_extract]; omega) w
  have hbyte := run_index_str Try.underlying9 s .i64 17 17 rfl (by omega)
  have hlt := s[17].toNat_lt
  have hw2 : IntKind.i64.wrap (s[17].toNat : Int) = (s[17].toNat : Int) := IntWalk.i64_in _ (by omega)
  generalize s.extract 0 17 ++ s.extract 18 s.size = C at *
  generalize s.extract 0 17 = A at *
  generalize s.extract 18 s.size = B at *
  generalize (s[17].toNat : Int) = x at *
  clear hlt hz
  have hR := Blk.new w 70 evZ
  have hb : Below w.heap.size w (w.alloc (.cells evZ 70)) := (Below.refl _ _).alloc (Nat.le_refl _) _
  unfold evZ at hR hb
  go_enter Try.func67, Try.ntmps67
  go_upto_region 1 with fail
  generalize w.alloc _ = W0 at *
  go_wp2_with fail
  refine (hcut _).mono ?_
  rintro e w1 ⟨rfl, rfl⟩
  go_upto_region 4 with fail
  clear hcut
  replace hR := hR.drew
  replace hb := hb.drew
  have HR := hide hR
  have HB := hide hb
  clear hR hb
  have hb := HB.out
  have hf := HR.out.frozen 0
  go_region_held3 (fun w' => Below w.heap.size w w' ∧ w'.frozen? ⟨w.heap.size, 0, none⟩ = false)
    (first
      | (go_split_ands; with_reducible exact ⟨hb2, f0⟩)
      | (go_split_ands; with_reducible exact ⟨hb, hf⟩)
      | (go_split_ands; exact ⟨Below.setCell (Below.setCell (Below.setCell (Below.setCell (Below.setCell hb2 (by simp only; omega) _) (by simp only; omega) _) (by simp only; omega) _) (by simp only; omega) _) (by simp only; omega) _, by simp only [World.frozen?_setCell]; exact f0⟩))
    (first
      | (go_at_call 69; refine (HOF.out _).mono ?_; rintro e w1 ⟨rfl, h1⟩; have hR := HR.out.below h1 HR.out.lt; have hb2 := below_after HB.out h1; have r0 := hR.cell 0; have r1 := hR.cell 1; have r2 := hR.cell 2; have r3 := hR.cell 3; have r4 := hR.cell 4; have f0 := hR.frozen 0; have f1 := hR.frozen 1; have f2 := hR.frozen 2; have f3 := hR.frozen 3; have f4 := hR.frozen 4; simp only [List.getElem?_toArray, List.getElem?_cons_zero, List.getElem?_cons_succ] at r0 r1 r2 r3 r4))
  all_goals (try go_wp2_with fail)
  have hZ := (((((hR.set_ 0 (.float .f64 t)).set_ 1 (.int .i64 a)).set_ 2 (.int .i64 b)).set_ 3 (.int .i64 c)).set_ 4 (.int .i64 d))
  have bZ := (((((hb2.setCell (p := ⟨w.heap.size, 0, none⟩) (Nat.le_refl _) (.float .f64 t)).setCell (p := ⟨w.heap.size, 1, none⟩) (Nat.le_refl _) (.int .i64 a)).setCell (p := ⟨w.heap.size, 2, none⟩) (Nat.le_refl _) (.int .i64 b)).setCell (p := ⟨w.heap.size, 3, none⟩) (Nat.le_refl _) (.int .i64 c)).setCell (p := ⟨w.heap.size, 4, none⟩) (Nat.le_refl _) (.int .i64 d))
  clear r0 r1 r2 r3 r4 f0 f1 f2 f3 f4
  generalize (((((w1.setCell ⟨w.heap.size, 0, none⟩ (.float .f64 t)).setCell ⟨w.heap.size, 1, none⟩ (.int .i64 a)).setCell ⟨w.heap.size, 2, none⟩ (.int .i64 b)).setCell ⟨w.heap.size, 3, none⟩ (.int .i64 c)).setCell ⟨w.heap.size, 4, none⟩ (.int .i64 d)) = wZ at *
  have q0 := hZ.cell 0
  have q1 := hZ.cell 1
  have q2 := hZ.cell 2
  have q3 := hZ.cell 3
  have q4 := hZ.cell 4
  simp only [List.setIfInBounds_toArray, List.set_cons_zero, List.set_cons_succ, List.getElem?_toArray, List.getElem?_cons_zero, List.getElem?_cons_succ] at q0 q1 q2 q3 q4
  refine bodyPost_ret (v := .tuple #[.agg #[.float .f64 t, .int .i64 a, .int .i64 b, .int .i64 c, .int .i64 d], .int .i64 E]) (by simp [results, Try.results67, go_sem, q0, q1, q2, q3, q4]) rfl ⟨rfl, bZ⟩
end Go.Proofs.Ytpgbfglfmmohdaa
