/- The walk of rec's reader: a key's event, where the Dst is said. -/
import Derived.Test.YtpgbfglfmmohdaaRdr6
set_option linter.unusedVariables false
set_option maxRecDepth 20000
namespace Go.Proofs.Ytpgbfglfmmohdaa
open Go.RowKit Go.Deep

attribute [local go_sem] run_store_float
theorem of1_any (D : Int) (d : Nat) (w : World) (h : w.cell? ⟨d, 0, none⟩ = some (.int .i64 D)) : Calls Try.prog 104 #[.pointer (some ⟨d, 0, none⟩)] w fun e w' => e = .returned (.int .i64 D) ∧ w = w' := by
  go_enter Try.func104, Try.ntmps104
  go_wp2_with fail
  go_ret
  exact ⟨rfl, rfl⟩
set_option maxHeartbeats 1000000 in
theorem event_of (s : ByteArray) (k : Nat) (sh : Bool) (g d : Nat) (D : Int) (w : World) (h : RdAt w g s k sh) (hv : Blk w d 3 #[.int .i64 D]) (hne : d ≠ g) (hk : k ≤ s.size) (hm : s.size ≤ 9223372036854775807) :
    Calls Try.prog 100 #[.pointer (some ⟨g, 0, none⟩), .func (.func 104) #[] #[.pointer (some ⟨d, 0, none⟩)]] w fun e w' => e = .returned (.agg #[.float .f64 (timeN s k), .int .i64 (wrap64 (byteN s (wordK s k) - 1)), .int .i64 (wordN s (byteK s (wordK s k))), .int .i64 D, .int .i64 (wordN s (wordK s (byteK s (wordK s k))))]) ∧ RdTo w w' g s (wordK s (wordK s (byteK s (wordK s k))) : Nat) (wordS s (wordK s (byteK s (wordK s k))) ((wordS s (byteK s (wordK s k)) (byteS s (wordK s k) (wordS s k sh))))) := by
  have hA := (Blk.new w 70 evZ).alloc (.cells evZ 70)
  have hB := Blk.new (w.alloc (.cells evZ 70)) 70 evZ
  have hb2 : Below w.heap.size w ((w.alloc (.cells evZ 70)).alloc (.cells evZ 70)) := (Below.alloc (Below.alloc (Below.refl _ _) (Nat.le_refl _) _) (Nat.le_of_lt (Blk.new w 70 evZ).lt) _)
  have hr := h.below hb2
  have hlt := h.lt
  have hvl := hv.lt
  have hv0 := hv.below hb2 hv.lt
  have hz : (w.alloc (.cells evZ 70)).heap.size = w.heap.size + 1 := Array.size_push ..
  rw [hz] at hB
  clear hz
  unfold evZ at hA hB hr hb2 hv0
  go_enter Try.func100, Try.ntmps100
  go_wp2_with fail
  generalize hW : (w.alloc (.cells evZ 70)).alloc (.cells evZ 70) = W0
  unfold evZ at hW
  simp only [hW] at hA hB hr hb2 hv0 ⊢
  clear hW
  have t0 : RdTo w W0 g s k sh := ⟨hr, only_of_below hb2 _⟩
  refine (rtime_any s k sh g _ hr hk hm).mono ?_
  rintro e w1 ⟨rfl, h1⟩
  have t1 := t0.trans h1
  have hA1 := h1.blk hA (by omega)
  have hB1 := h1.blk hB (by omega)
  have hv1 := h1.blk hv0 hne
  have hc1 := hB1.cell 0
  have hf1 := hB1.frozen 0
  go_wp2_with fail
  have hB2 := hB1.set_ 0 (.float .f64 (timeN s k))
  have hr2 := h1.1.far (p := ⟨w.heap.size + 1, 0, none⟩) (by simp only; omega) (.float .f64 (timeN s k))
  have hA2 := hA1.far (p := ⟨w.heap.size + 1, 0, none⟩) (by simp only; omega) (.float .f64 (timeN s k))
  have hv2 := hv1.far (p := ⟨w.heap.size + 1, 0, none⟩) (by simp only; omega) (.float .f64 (timeN s k))
  have t2 := t1.far (p := ⟨w.heap.size + 1, 0, none⟩) (by simp only; omega) (by simp only; omega) (.float .f64 (timeN s k))
  generalize w1.setCell ⟨w.heap.size + 1, 0, none⟩ (.float .f64 (timeN s k)) = w2 at *
  refine (rbyte_any s (wordK s k) _ g _ hr2 (wordK_le hk) hm).mono ?_
  rintro e w3 ⟨rfl, h3⟩
  have t3 := t2.trans h3
  have hA3 := h3.blk hA2 (by omega)
  have hB3 := h3.blk hB2 (by omega)
  have hv3 := h3.blk hv2 hne
  have hc3 := hB3.cell 1
  have hf3 := hB3.frozen 1
  go_wp2_with fail
  have hB4 := hB3.set_ 1 (.int .i64 (wrap64 (byteN s (wordK s k) - 1)))
  have hr4 := h3.1.far (p := ⟨w.heap.size + 1, 1, none⟩) (by simp only; omega) (.int .i64 (wrap64 (byteN s (wordK s k) - 1)))
  have hA4 := hA3.far (p := ⟨w.heap.size + 1, 1, none⟩) (by simp only; omega) (.int .i64 (wrap64 (byteN s (wordK s k) - 1)))
  have hv4 := hv3.far (p := ⟨w.heap.size + 1, 1, none⟩) (by simp only; omega) (.int .i64 (wrap64 (byteN s (wordK s k) - 1)))
  have t4 := t3.far (p := ⟨w.heap.size + 1, 1, none⟩) (by simp only; omega) (by simp only; omega) (.int .i64 (wrap64 (byteN s (wordK s k) - 1)))
  generalize w3.setCell ⟨w.heap.size + 1, 1, none⟩ (.int .i64 (wrap64 (byteN s (wordK s k) - 1))) = w4 at *
  refine (rint_any s (byteK s (wordK s k)) _ g _ hr4 (byteK_le (wordK_le hk)) hm).mono ?_
  rintro e w5 ⟨rfl, h5⟩
  have t5 := t4.trans h5
  have hA5 := h5.blk hA4 (by omega)
  have hB5 := h5.blk hB4 (by omega)
  have hv5 := h5.blk hv4 hne
  have hc5 := hB5.cell 2
  have hf5 := hB5.frozen 2
  go_wp2_with fail
  have hB6 := hB5.set_ 2 (.int .i64 (wordN s (byteK s (wordK s k))))
  have hr6 := h5.1.far (p := ⟨w.heap.size + 1, 2, none⟩) (by simp only; omega) (.int .i64 (wordN s (byteK s (wordK s k))))
  have hA6 := hA5.far (p := ⟨w.heap.size + 1, 2, none⟩) (by simp only; omega) (.int .i64 (wordN s (byteK s (wordK s k))))
  have hv6 := hv5.far (p := ⟨w.heap.size + 1, 2, none⟩) (by simp only; omega) (.int .i64 (wordN s (byteK s (wordK s k))))
  have t6 := t5.far (p := ⟨w.heap.size + 1, 2, none⟩) (by simp only; omega) (by simp only; omega) (.int .i64 (wordN s (byteK s (wordK s k))))
  generalize w5.setCell ⟨w.heap.size + 1, 2, none⟩ (.int .i64 (wordN s (byteK s (wordK s k)))) = w6 at *
  refine (of1_any D d _ (hv6.cell 0)).mono ?_
  rintro e w7 ⟨rfl, hw7⟩
  subst hw7
  have hc7 := hB6.cell 3
  have hf7 := hB6.frozen 3
  go_wp2_with fail
  have hB8 := hB6.set_ 3 (.int .i64 D)
  have hr8 := hr6.far (p := ⟨w.heap.size + 1, 3, none⟩) (by simp only; omega) (.int .i64 D)
  have hA8 := hA6.far (p := ⟨w.heap.size + 1, 3, none⟩) (by simp only; omega) (.int .i64 D)
  have t8 := t6.far (p := ⟨w.heap.size + 1, 3, none⟩) (by simp only; omega) (by simp only; omega) (.int .i64 D)
  generalize w6.setCell ⟨w.heap.size + 1, 3, none⟩ (.int .i64 D) = w8 at *
  refine (rint_any s (wordK s (byteK s (wordK s k))) _ g _ hr8 (wordK_le (byteK_le (wordK_le hk))) hm).mono ?_
  rintro e w9 ⟨rfl, h9⟩
  have t9 := t8.trans h9
  have hA9 := h9.blk hA8 (by omega)
  have hB9 := h9.blk hB8 (by omega)
  have hD := ((wordK_le (byteK_le (wordK_le hk))) : wordK s (byteK s (wordK s k)) ≤ s.size)
  have hc9 := hB9.cell
  have hf9 := hB9.frozen
  have ha9 := hA9.cell
  have haf9 := hA9.frozen
  have q0 := hc9 0
  have q1 := hc9 1
  have q2 := hc9 2
  have q3 := hc9 3
  have q4 := hc9 4
  simp only [List.setIfInBounds_toArray, List.set_cons_zero, List.set_cons_succ, List.getElem?_toArray, List.getElem?_cons_zero, List.getElem?_cons_succ] at q0 q1 q2 q3 q4
  have y0 := hf9 4
  have z0 := ha9 0
  have z1 := ha9 1
  have z2 := ha9 2
  have z3 := ha9 3
  have z4 := ha9 4
  have x0 := haf9 0
  have x1 := haf9 1
  have x2 := haf9 2
  have x3 := haf9 3
  have x4 := haf9 4
  simp only [List.getElem?_toArray, List.getElem?_cons_zero, List.getElem?_cons_succ] at z0 z1 z2 z3 z4
  clear hc9 hf9 ha9 haf9
  go_wp2_with fail
  have hZ := (((((hA9.far (p := ⟨w.heap.size + 1, 4, none⟩) (by simp only; omega) (.int .i64 (wordN s (wordK s (byteK s (wordK s k)))))).set_ 0 (.float .f64 (timeN s k))).set_ 1 (.int .i64 (wrap64 (byteN s (wordK s k) - 1)))).set_ 2 (.int .i64 (wordN s (byteK s (wordK s k))))).set_ 3 (.int .i64 D)).set_ 4 (.int .i64 (wordN s (wordK s (byteK s (wordK s k)))))
  have tZ := (((((t9.far (p := ⟨w.heap.size + 1, 4, none⟩) (by simp only; omega) (by simp only; omega) (.int .i64 (wordN s (wordK s (byteK s (wordK s k)))))).far (p := ⟨w.heap.size, 0, none⟩) (by simp only; omega) (by simp only; omega) (.float .f64 (timeN s k))).far (p := ⟨w.heap.size, 1, none⟩) (by simp only; omega) (by simp only; omega) (.int .i64 (wrap64 (byteN s (wordK s k) - 1)))).far (p := ⟨w.heap.size, 2, none⟩) (by simp only; omega) (by simp only; omega) (.int .i64 (wordN s (byteK s (wordK s k))))).far (p := ⟨w.heap.size, 3, none⟩) (by simp only; omega) (by simp only; omega) (.int .i64 D)).far (p := ⟨w.heap.size, 4, none⟩) (by simp only; omega) (by simp only; omega) (.int .i64 (wordN s (wordK s (byteK s (wordK s k)))))
  clear q0 q1 q2 q3 q4 z0 z1 z2 z3 z4 x0 x1 x2 x3 x4 y0
  generalize (((((w9.setCell ⟨w.heap.size + 1, 4, none⟩ (.int .i64 (wordN s (wordK s (byteK s (wordK s k)))))).setCell ⟨w.heap.size, 0, none⟩ (.float .f64 (timeN s k))).setCell ⟨w.heap.size, 1, none⟩ (.int .i64 (wrap64 (byteN s (wordK s k) - 1)))).setCell ⟨w.heap.size, 2, none⟩ (.int .i64 (wordN s (byteK s (wordK s k))))).setCell ⟨w.heap.size, 3, none⟩ (.int .i64 D)).setCell ⟨w.heap.size, 4, none⟩ (.int .i64 (wordN s (wordK s (byteK s (wordK s k))))) = wZ at *
  have q0 := hZ.cell 0
  have q1 := hZ.cell 1
  have q2 := hZ.cell 2
  have q3 := hZ.cell 3
  have q4 := hZ.cell 4
  simp only [List.setIfInBounds_toArray, List.set_cons_zero, List.set_cons_succ, List.getElem?_toArray, List.getElem?_cons_zero, List.getElem?_cons_succ] at q0 q1 q2 q3 q4
  refine bodyPost_ret (v := .agg #[.float .f64 (timeN s k), .int .i64 (wrap64 (byteN s (wordK s k) - 1)), .int .i64 (wordN s (byteK s (wordK s k))), .int .i64 D, .int .i64 (wordN s (wordK s (byteK s (wordK s k))))]) (by simp [results, Try.results100, go_sem, q0, q1, q2, q3, q4]) rfl ⟨rfl, tZ⟩
end Go.Proofs.Ytpgbfglfmmohdaa
