/- The walk of R20's Event. No condition but that the event may be. -/
import Derived.Test.YtpgbfglfmmohdaaRec3
set_option linter.unusedVariables false
set_option linter.unusedSimpArgs false
set_option maxRecDepth 20000
namespace Go.Proofs.Ytpgbfglfmmohdaa
open Go.RowKit Go.Deep

attribute [local go_sem] run_store_float
theorem run_slice_str_up {P : Program} {t : TypeId} (ht : P.underlying t = some .string) (s : ByteArray) (k : IntKind) (l : Int) (a : Nat) (hl : l = a) (h2 : a ≤ s.size) (hm : s.size ≤ 9223372036854775807) (w : World) :
    (Instr.slice t (.string s) (some (.int k l)) none none).run P w = .ok (.string (s.extract a s.size)) w := by
  subst hl
  have e1 : (0 : Int) ≤ (a : Int) ∧ (a : Int) ≤ (s.size : Int) := by omega
  simp [Instr.slice, run_underlying ht, Instr.sliceBounds, Instr.sliceBound, asIntOf, e1, h2]
theorem key_head (t : Nat) (s n p : Int) : (keyR t s n p).extract 0 17 = (uS (keyB (normF t)) ++ oneS (s + 1)) ++ iS n := by
  unfold keyR
  exact extract_first _ _ 17 (by simp only [ByteArray.size_append, us_size, one_size, is_size])
theorem key_tail (t : Nat) (s n p : Int) : (keyR t s n p).extract 17 (keyR t s n p).size = iS p := by
  have hz : ((uS (keyB (normF t)) ++ oneS (s + 1)) ++ iS n).size = 17 := by simp only [ByteArray.size_append, us_size, one_size, is_size]
  have hk := keyR_size t s n p
  rw [hk]
  apply ByteArray.ext
  apply Array.toList_inj.1
  unfold keyR
  rw [ByteArray.data_extract, Array.toList_extract, app_data]
  have hl : ((uS (keyB (normF t)) ++ oneS (s + 1)) ++ iS n).data.toList.length = 17 := by rw [dlen, hz]
  rw [List.extract_eq_take_drop, List.drop_left' hl]
  exact List.take_of_length_le (by rw [dlen, is_size]; exact Nat.le_refl _)
set_option maxHeartbeats 4000000 in
theorem revent20_any (t : Nat) (s n d p : Int) (w : World) (ht : t < 18446744073709551616) (hr : rightE t s n d = true) : Calls Try.prog 65 #[.agg #[.float .f64 t, .int .i64 s, .int .i64 n, .int .i64 d, .int .i64 p]] w fun e w' => e = .returned (.string (evS t s n d p)) ∧ Below w.heap.size w w' := by
  obtain ⟨hn, _, _, hd0, hd1⟩ := right_facts hr
  have hX := Blk.new w 70 #[.float .f64 t, .int .i64 s, .int .i64 n, .int .i64 d, .int .i64 p]
  have hb : Below w.heap.size w (w.alloc (.cells #[.float .f64 t, .int .i64 s, .int .i64 n, .int .i64 d, .int .i64 p] 70)) := (Below.refl _ _).alloc (Nat.le_refl _) _
  have HK := fun W => rkey20_any t s n d p W ht hr
  have hz := keyR_size t s n p
  have s1 := run_slice_str0 Try.underlying9 (keyR t s n p) .i64 17 17 rfl (by omega)
  have s2 := run_slice_str_up Try.underlying9 (keyR t s n p) .i64 17 17 rfl (by omega) (by omega)
  rw [key_head] at s1
  rw [key_tail] at s2
  have c1 := fun w => run_cat ((uS (keyB (normF t)) ++ oneS (s + 1)) ++ iS n) (oneS d) (by simp only [ByteArray.size_append, us_size, one_size, is_size]; omega) w
  have c2 := fun w => run_cat (((uS (keyB (normF t)) ++ oneS (s + 1)) ++ iS n) ++ oneS d) (iS p) (by simp only [ByteArray.size_append, us_size, one_size, is_size]; omega) w
  have hw2 : IntKind.u8.wrap d = d := by rw [IntKind.wrap_u8]; omega
  have cv := conv_one d (by omega) (by omega)
  unfold evS
  clear hz ht hr hn hd0 hd1
  generalize (((uS (keyB (normF t)) ++ oneS (s + 1)) ++ iS n) ++ oneS d) ++ iS p = R3 at *
  generalize ((uS (keyB (normF t)) ++ oneS (s + 1)) ++ iS n) ++ oneS d = R2 at *
  generalize (uS (keyB (normF t)) ++ oneS (s + 1)) ++ iS n = R1 at *
  generalize oneS d = O1 at *
  generalize iS p = P1 at *
  generalize keyR t s n p = K1 at *
  replace HK := hide HK
  go_enter Try.func65, Try.ntmps65
  go_upto_region 1 with fail
  generalize w.alloc _ = W0 at *
  have x0 := hX.cell 0
  have x1 := hX.cell 1
  have x2 := hX.cell 2
  have x3 := hX.cell 3
  have x4 := hX.cell 4
  simp only [List.getElem?_toArray, List.getElem?_cons_zero, List.getElem?_cons_succ] at x0 x1 x2 x3 x4
  go_wp2_with fail
  clear x0 x1 x2 x3 x4
  refine (HK.out _).mono ?_
  rintro e w1 ⟨rfl, h1⟩
  replace hX := hX.below h1 hX.lt
  replace hb := below_after hb h1
  clear h1
  go_upto_region 2 with fail
  have x3 := hX.cell 3
  simp only [List.getElem?_toArray, List.getElem?_cons_zero, List.getElem?_cons_succ] at x3
  have cva : (convert 82 9 (.slice (some ⟨w1.heap.size, 0, none⟩) 1 1)).run Try.prog (w1.alloc (.cells #[.int .u8 d] 5)) = .ok (.string O1) _ := cv _ _ (byte_new w1 d)
  have cvb : (convert 82 9 (.slice (some ⟨w1.heap.size, 0, none⟩) 1 1)).run Try.prog (w1.alloc (.cells #[.int .u8 d] 5)).drew = .ok (.string O1) _ := cv _ _ (byte_new' w1 d)
  replace hb := (hb.alloc hb.size (.cells #[.int .u8 d] 5)).drew
  clear cv hX
  go_region
  all_goals go_wp2
  all_goals go_ret
  all_goals exact ⟨rfl, hb⟩
end Go.Proofs.Ytpgbfglfmmohdaa
