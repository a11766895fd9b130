/- The walk of rec's reader: an event, where the Dst is read by the method value r.byte. -/
import Derived.Test.YtpgbfglfmmohdaaRdr5
set_option linter.unusedVariables false
set_option maxRecDepth 20000
namespace Go.Proofs.Ytpgbfglfmmohdaa
open Go.RowKit Go.Deep

attribute [local go_sem] run_store_float
theorem RdTo.blk {w w' : World} {g b : Nat} {s : ByteArray} {k : Int} {sh : Bool} {t : TypeId} {cs : Array Value} (h : RdTo w w' g s k sh) (hb : Blk w b t cs) (hn : b ≠ g) : Blk w' b t cs :=
  (h.2.block b hb.lt (by intro e; simp at e; omega)).trans hb
theorem RdTo.far {w w' : World} {g : Nat} {s : ByteArray} {k : Int} {sh : Bool} (h : RdTo w w' g s k sh) {p : Addr} (hp : p.block ≠ g) (h2 : w.heap.size ≤ p.block) (u : Value) : RdTo w (w'.setCell p u) g s k sh :=
  ⟨h.1.far hp u, only_setCell h.2 (.inr h2) u⟩
def evZ : Array Value := #[.float .f64 0, .int .i64 0, .int .i64 0, .int .i64 0, .int .i64 0]
set_option maxHeartbeats 1000000 in
theorem event_raw (s : ByteArray) (k : Nat) (sh : Bool) (g : Nat) (w : World) (ca : Array Value) (h : RdAt w g s k sh) (hk : k ≤ s.size) (hm : s.size ≤ 9223372036854775807) :
    Calls Try.prog 100 #[.pointer (some ⟨g, 0, none⟩), .func (.func 101) #[.pointer (some ⟨g, 0, none⟩)] #[]] w fun e w' => e = .returned (.agg #[.float .f64 (timeN s k), .int .i64 (wrap64 (byteN s (wordK s k) - 1)), .int .i64 (wordN s (byteK s (wordK s k))), .int .i64 (byteN s (wordK s (byteK s (wordK s k)))), .int .i64 (wordN s (byteK s (wordK s (byteK s (wordK s k)))))]) ∧ RdTo w w' g s (wordK s (byteK s (wordK s (byteK s (wordK s k)))) : Nat) (wordS s (byteK s (wordK s (byteK s (wordK s k)))) (byteS s (wordK s (byteK s (wordK s k))) (wordS s (byteK s (wordK s k)) (byteS s (wordK s k) (wordS s k sh))))) := by
  have hA := (Blk.new w 70 evZ).alloc (.cells evZ 70)
  have hB := Blk.new (w.alloc (.cells evZ 70)) 70 evZ
  have hb2 : Below w.heap.size w ((w.alloc (.cells evZ 70)).alloc (.cells evZ 70)) := (Below.alloc (Below.alloc (Below.refl _ _) (Nat.le_refl _) _) (Nat.le_of_lt (Blk.new w 70 evZ).lt) _)
  have hr := h.below hb2
  have hlt := h.lt
  have hz : (w.alloc (.cells evZ 70)).heap.size = w.heap.size + 1 := Array.size_push ..
  rw [hz] at hB
  clear hz
  unfold evZ at hA hB hr hb2
  go_enter Try.func100, Try.ntmps100
  go_wp2_with fail
  generalize hW : (w.alloc (.cells evZ 70)).alloc (.cells evZ 70) = W0
  unfold evZ at hW
  simp only [hW] at hA hB hr hb2 ⊢
  clear hW
  have t0 : RdTo w W0 g s k sh := ⟨hr, only_of_below hb2 _⟩
  refine (rtime_any s k sh g _ hr hk hm).mono ?_
  rintro e w1 ⟨rfl, h1⟩
  have t1 := t0.trans h1
  have hA1 := h1.blk hA (by omega)
  have hB1 := h1.blk hB (by omega)
  have hc1 := hB1.cell 0
  have hf1 := hB1.frozen 0
  go_wp2_with fail
  have hB2 := hB1.set_ 0 (.float .f64 (timeN s k))
  have hr2 := h1.1.far (p := ⟨w.heap.size + 1, 0, none⟩) (by simp only; omega) (.float .f64 (timeN s k))
  have hA2 := hA1.far (p := ⟨w.heap.size + 1, 0, none⟩) (by simp only; omega) (.float .f64 (timeN s k))
  have t2 := t1.far (p := ⟨w.heap.size + 1, 0, none⟩) (by simp only; omega) (by simp only; omega) (.float .f64 (timeN s k))
  generalize w1.setCell ⟨w.heap.size + 1, 0, none⟩ (.float .f64 (timeN s k)) = w2 at *
  refine (rbyte_any s (wordK s k) _ g _ hr2 (wordK_le hk) hm).mono ?_
  rintro e w3 ⟨rfl, h3⟩
  have t3 := t2.trans h3
  have hA3 := h3.blk hA2 (by omega)
  have hB3 := h3.blk hB2 (by omega)
  have hc3 := hB3.cell 1
  have hf3 := hB3.frozen 1
  go_wp2_with fail
  have hB4 := hB3.set_ 1 (.int .i64 (wrap64 (byteN s (wordK s k) - 1)))
  have hr4 := h3.1.far (p := ⟨w.heap.size + 1, 1, none⟩) (by simp only; omega) (.int .i64 (wrap64 (byteN s (wordK s k) - 1)))
  have hA4 := hA3.far (p := ⟨w.heap.size + 1, 1, none⟩) (by simp only; omega) (.int .i64 (wrap64 (byteN s (wordK s k) - 1)))
  have t4 := t3.far (p := ⟨w.heap.size + 1, 1, none⟩) (by simp only; omega) (by simp only; omega) (.int .i64 (wrap64 (byteN s (wordK s k) - 1)))
  generalize w3.setCell ⟨w.heap.size + 1, 1, none⟩ (.int .i64 (wrap64 (byteN s (wordK s k) - 1))) = w4 at *
  refine (rint_any s (byteK s (wordK s k)) _ g _ hr4 (byteK_le (wordK_le hk)) hm).mono ?_
  rintro e w5 ⟨rfl, h5⟩
  have t5 := t4.trans h5
  have hA5 := h5.blk hA4 (by omega)
  have hB5 := h5.blk hB4 (by omega)
  have hc5 := hB5.cell 2
  have hf5 := hB5.frozen 2
  go_wp2_with fail
  have hB6 := hB5.set_ 2 (.int .i64 (wordN s (byteK s (wordK s k))))
  have hr6 := h5.1.far (p := ⟨w.heap.size + 1, 2, none⟩) (by simp only; omega) (.int .i64 (wordN s (byteK s (wordK s k))))
  have hA6 := hA5.far (p := ⟨w.heap.size + 1, 2, none⟩) (by simp only; omega) (.int .i64 (wordN s (byteK s (wordK s k))))
  have t6 := t5.far (p := ⟨w.heap.size + 1, 2, none⟩) (by simp only; omega) (by simp only; omega) (.int .i64 (wordN s (byteK s (wordK s k))))
  generalize w5.setCell ⟨w.heap.size + 1, 2, none⟩ (.int .i64 (wordN s (byteK s (wordK s k)))) = w6 at *
  refine (rbyte_any s (wordK s (byteK s (wordK s k))) _ g _ hr6 (wordK_le (byteK_le (wordK_le hk))) hm).mono ?_
  rintro e w7 ⟨rfl, h7⟩
  have t7 := t6.trans h7
  have hA7 := h7.blk hA6 (by omega)
  have hB7 := h7.blk hB6 (by omega)
  have hc7 := hB7.cell 3
  have hf7 := hB7.frozen 3
  go_wp2_with fail
  have hB8 := hB7.set_ 3 (.int .i64 (byteN s (wordK s (byteK s (wordK s k)))))
  have hr8 := h7.1.far (p := ⟨w.heap.size + 1, 3, none⟩) (by simp only; omega) (.int .i64 (byteN s (wordK s (byteK s (wordK s k)))))
  have hA8 := hA7.far (p := ⟨w.heap.size + 1, 3, none⟩) (by simp only; omega) (.int .i64 (byteN s (wordK s (byteK s (wordK s k)))))
  have t8 := t7.far (p := ⟨w.heap.size + 1, 3, none⟩) (by simp only; omega) (by simp only; omega) (.int .i64 (byteN s (wordK s (byteK s (wordK s k)))))
  generalize w7.setCell ⟨w.heap.size + 1, 3, none⟩ (.int .i64 (byteN s (wordK s (byteK s (wordK s k))))) = w8 at *
  refine (rint_any s (byteK s (wordK s (byteK s (wordK s k)))) _ g _ hr8 (byteK_le (wordK_le (byteK_le (wordK_le hk)))) hm).mono ?_
  rintro e w9 ⟨rfl, h9⟩
  have t9 := t8.trans h9
  have hA9 := h9.blk hA8 (by omega)
  have hB9 := h9.blk hB8 (by omega)
  have hD := ((byteK_le (wordK_le (byteK_le (wordK_le hk)))) : byteK s (wordK s (byteK s (wordK s k))) ≤ s.size)
  have hc9 := hB9.cell
  have hf9 := hB9.frozen
  have ha9 := hA9.cell
  have haf9 := hA9.frozen
  have q0 := hc9 0
  have q1 := hc9 1
  have q2 := hc9 2
  have q3 := hc9 3
  have q4 := hc9 4
  simp only [List.setIfInBounds_toArray, List.set_cons_zero, List.set_cons_succ, List.getElem?_toArray, List.getElem?_cons_zero, List.getElem?_cons_succ] at q0 q1 q2 q3 q4
  have y0 := hf9 4
  have z0 := ha9 0
  have z1 := ha9 1
  have z2 := ha9 2
  have z3 := ha9 3
  have z4 := ha9 4
  have x0 := haf9 0
  have x1 := haf9 1
  have x2 := haf9 2
  have x3 := haf9 3
  have x4 := haf9 4
  simp only [List.getElem?_toArray, List.getElem?_cons_zero, List.getElem?_cons_succ] at z0 z1 z2 z3 z4
  clear hc9 hf9 ha9 haf9
  go_wp2_with fail
  have hZ := (((((hA9.far (p := ⟨w.heap.size + 1, 4, none⟩) (by simp only; omega) (.int .i64 (wordN s (byteK s (wordK s (byteK s (wordK s k))))))).set_ 0 (.float .f64 (timeN s k))).set_ 1 (.int .i64 (wrap64 (byteN s (wordK s k) - 1)))).set_ 2 (.int .i64 (wordN s (byteK s (wordK s k))))).set_ 3 (.int .i64 (byteN s (wordK s (byteK s (wordK s k)))))).set_ 4 (.int .i64 (wordN s (byteK s (wordK s (byteK s (wordK s k))))))
  have tZ := (((((t9.far (p := ⟨w.heap.size + 1, 4, none⟩) (by simp only; omega) (by simp only; omega) (.int .i64 (wordN s (byteK s (wordK s (byteK s (wordK s k))))))).far (p := ⟨w.heap.size, 0, none⟩) (by simp only; omega) (by simp only; omega) (.float .f64 (timeN s k))).far (p := ⟨w.heap.size, 1, none⟩) (by simp only; omega) (by simp only; omega) (.int .i64 (wrap64 (byteN s (wordK s k) - 1)))).far (p := ⟨w.heap.size, 2, none⟩) (by simp only; omega) (by simp only; omega) (.int .i64 (wordN s (byteK s (wordK s k))))).far (p := ⟨w.heap.size, 3, none⟩) (by simp only; omega) (by simp only; omega) (.int .i64 (byteN s (wordK s (byteK s (wordK s k)))))).far (p := ⟨w.heap.size, 4, none⟩) (by simp only; omega) (by simp only; omega) (.int .i64 (wordN s (byteK s (wordK s (byteK s (wordK s k))))))
  clear q0 q1 q2 q3 q4 z0 z1 z2 z3 z4 x0 x1 x2 x3 x4 y0
  generalize (((((w9.setCell ⟨w.heap.size + 1, 4, none⟩ (.int .i64 (wordN s (byteK s (wordK s (byteK s (wordK s k))))))).setCell ⟨w.heap.size, 0, none⟩ (.float .f64 (timeN s k))).setCell ⟨w.heap.size, 1, none⟩ (.int .i64 (wrap64 (byteN s (wordK s k) - 1)))).setCell ⟨w.heap.size, 2, none⟩ (.int .i64 (wordN s (byteK s (wordK s k))))).setCell ⟨w.heap.size, 3, none⟩ (.int .i64 (byteN s (wordK s (byteK s (wordK s k)))))).setCell ⟨w.heap.size, 4, none⟩ (.int .i64 (wordN s (byteK s (wordK s (byteK s (wordK s k)))))) = wZ at *
  have q0 := hZ.cell 0
  have q1 := hZ.cell 1
  have q2 := hZ.cell 2
  have q3 := hZ.cell 3
  have q4 := hZ.cell 4
  simp only [List.setIfInBounds_toArray, List.set_cons_zero, List.set_cons_succ, List.getElem?_toArray, List.getElem?_cons_zero, List.getElem?_cons_succ] at q0 q1 q2 q3 q4
  refine bodyPost_ret (v := .agg #[.float .f64 (timeN s k), .int .i64 (wrap64 (byteN s (wordK s k) - 1)), .int .i64 (wordN s (byteK s (wordK s k))), .int .i64 (byteN s (wordK s (byteK s (wordK s k)))), .int .i64 (wordN s (byteK s (wordK s (byteK s (wordK s k)))))]) (by simp [results, Try.results100, go_sem, q0, q1, q2, q3, q4]) rfl ⟨rfl, tZ⟩
end Go.Proofs.Ytpgbfglfmmohdaa
