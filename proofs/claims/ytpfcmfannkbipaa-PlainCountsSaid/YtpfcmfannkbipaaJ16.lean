/- Texts of this claim in one. No condition. -/
import Derived.Test.YtpfcmfannkbipaaJ15
import Derived.StillTailTactics
section
set_option linter.unusedVariables false
set_option linter.unusedSimpArgs false
set_option maxRecDepth 20000
namespace Go.Proofs.Ytpfcmfannkbipaa
open Go.RowKit Go.Deep

set_option maxHeartbeats 1000000 in
theorem one_set (w0 w : World) (b gb : Nat) (wv sv : Value) (t : VS) (f : Int) (i : Inp) (h : RefS w0 w b gb wv sv t f) (h8 : t.g.length = 8) (x : Nat) (hx8 : x < 8) (v xc : Int) :
    Calls Try.prog 118 #[.pointer (some ⟨b, 0, none⟩), .agg #[.int .i64 1, .int .i64 x, .int .i64 v, .int .i64 xc], i.val] w fun e w' => e = .returned (.int .i64 0) ∧ RefS w0 w' b gb wv sv (t.put x v) f := by
  have hXB := (Blk.new w 142 #[.int .i64 1, .int .i64 x, .int .i64 v, .int .i64 xc]).alloc (.cells i.cells 112)
  have hIB := Blk.new (w.alloc (.cells #[.int .i64 1, .int .i64 x, .int .i64 v, .int .i64 xc] 142)) 112 i.cells
  have hz : (w.alloc (.cells #[.int .i64 1, .int .i64 x, .int .i64 v, .int .i64 xc] 142)).heap.size = w.heap.size + 1 := Array.size_push ..
  rw [hz] at hIB
  clear hz
  have H := hide ((h.alloc (.cells #[.int .i64 1, .int .i64 x, .int .i64 v, .int .i64 xc] 142)).alloc (.cells i.cells 112))
  have H8 := hide h8
  have HB := hide hXB
  have HI := hide hIB
  clear h h8 hXB hIB
  unfold Inp.val
  unfold Inp.cells Sl.val at *
  go_enter Try.func118, Try.ntmps118
  go_upto_region 1 with fail
  generalize (w.alloc _).alloc _ = w4 at *
  generalize w.heap.size + 1 = ix at *
  generalize w.heap.size = bx at *
  have b0 := HB.out.cell 0
  have b1 := HB.out.cell 1
  have b2 := HB.out.cell 2
  have b3 := HB.out.cell 3
  have i2 := HI.out.cell 2
  have i3 := HI.out.cell 3
  have i4 := HI.out.cell 4
  simp only [List.getElem?_toArray, List.getElem?_cons_zero, List.getElem?_cons_succ] at b0 b1 b2 b3 i2 i3 i4
  have c0 := H.out.cells.1
  have xI0 : (0 : Int) ≤ (x : Int) := by omega
  have xI1 : (x : Int) < 8 := by omega
  go_upto_region 7 with fail
  refine wp_region_reads (fun w' => w'.cell? ⟨b, 0, none⟩ = some (.slice (some ⟨gb, 0, none⟩) 8 8) ∧ w'.cell? ⟨bx, 1, none⟩ = some (.int .i64 x) ∧ w'.cell? ⟨bx, 2, none⟩ = some (.int .i64 v))
    (.pointer (some ⟨b, 0, none⟩)) 8 0 (by kernel_rfl) (by kernel_rfl) (Or.inl ⟨by rfl, fun w => by rfl⟩) (fun _ _ _ h => h) ⟨c0, b1, b2⟩ ?_
  simp only [Act.put, List.setIfInBounds_toArray, List.set_cons_zero, List.set_cons_succ, List.take_succ_cons, List.take_zero, List.drop_succ_cons, List.drop_zero]
  repeat (refine head_step ?_ (by rfl) ?_ (fun _ _ _ h => h) ?_; rotate_left; (intro w' hs; obtain ⟨zc0, zb1, zb2⟩ := hs; go_simp; (try with_reducible rfl)); (try simp only [Act.put, List.setIfInBounds_toArray, List.set_cons_zero, List.set_cons_succ]))
  refine head_nil ?_
  refine mid_nil ?_
  try simp only [Act.put, List.setIfInBounds_toArray, List.set_cons_zero, List.set_cons_succ]
  clear b0 b1 b2 b3 i2 i3 i4 c0
  have cx := H.out.drew.regC H8.out hx8
  have fx := H.out.drew.grow.frozen x
  go_wp2_with fail
  go_ret
  exact ⟨rfl, H.out.drew.put x v⟩
set_option maxHeartbeats 1000000 in
theorem one_move (w0 w : World) (b gb : Nat) (wv sv : Value) (t : VS) (f : Int) (i : Inp) (h : RefS w0 w b gb wv sv t f) (h8 : t.g.length = 8) (x y : Nat) (hx8 : x < 8) (hy8 : y < 8) (xc v : Int) (hv : t.reg y = v) :
    Calls Try.prog 118 #[.pointer (some ⟨b, 0, none⟩), .agg #[.int .i64 2, .int .i64 x, .int .i64 y, .int .i64 xc], i.val] w fun e w' => e = .returned (.int .i64 0) ∧ RefS w0 w' b gb wv sv (t.put x v) f := by
  have hXB := (Blk.new w 142 #[.int .i64 2, .int .i64 x, .int .i64 y, .int .i64 xc]).alloc (.cells i.cells 112)
  have hIB := Blk.new (w.alloc (.cells #[.int .i64 2, .int .i64 x, .int .i64 y, .int .i64 xc] 142)) 112 i.cells
  have hz : (w.alloc (.cells #[.int .i64 2, .int .i64 x, .int .i64 y, .int .i64 xc] 142)).heap.size = w.heap.size + 1 := Array.size_push ..
  rw [hz] at hIB
  clear hz
  have H := hide ((h.alloc (.cells #[.int .i64 2, .int .i64 x, .int .i64 y, .int .i64 xc] 142)).alloc (.cells i.cells 112))
  have H8 := hide h8
  have HB := hide hXB
  have HI := hide hIB
  clear h h8 hXB hIB
  unfold Inp.val
  unfold Inp.cells Sl.val at *
  go_enter Try.func118, Try.ntmps118
  go_upto_region 1 with fail
  generalize (w.alloc _).alloc _ = w4 at *
  generalize w.heap.size + 1 = ix at *
  generalize w.heap.size = bx at *
  have b0 := HB.out.cell 0
  have b1 := HB.out.cell 1
  have b2 := HB.out.cell 2
  have b3 := HB.out.cell 3
  have i2 := HI.out.cell 2
  have i3 := HI.out.cell 3
  have i4 := HI.out.cell 4
  simp only [List.getElem?_toArray, List.getElem?_cons_zero, List.getElem?_cons_succ] at b0 b1 b2 b3 i2 i3 i4
  have c0 := H.out.cells.1
  have xI0 : (0 : Int) ≤ (x : Int) := by omega
  have xI1 : (x : Int) < 8 := by omega
  have yI0 : (0 : Int) ≤ (y : Int) := by omega
  have yI1 : (y : Int) < 8 := by omega
  have cy := H.out.regC H8.out hy8
  rw [hv] at cy
  go_upto_region 9 with fail
  refine wp_region_reads (fun w' => w'.cell? ⟨b, 0, none⟩ = some (.slice (some ⟨gb, 0, none⟩) 8 8) ∧ w'.cell? ⟨bx, 1, none⟩ = some (.int .i64 x) ∧ w'.cell? ⟨bx, 2, none⟩ = some (.int .i64 y) ∧ w'.cell? ⟨gb, y, none⟩ = some (.int .i64 v))
    (.pointer (some ⟨b, 0, none⟩)) 14 0 (by kernel_rfl) (by kernel_rfl) (Or.inl ⟨by rfl, fun w => by rfl⟩) (fun _ _ _ h => h) ⟨c0, b1, b2, cy⟩ ?_
  simp only [Act.put, List.setIfInBounds_toArray, List.set_cons_zero, List.set_cons_succ, List.take_succ_cons, List.take_zero, List.drop_succ_cons, List.drop_zero]
  repeat (refine head_step ?_ (by rfl) ?_ (fun _ _ _ h => h) ?_; rotate_left; (intro w' hs; obtain ⟨zc0, zb1, zb2, zcy⟩ := hs; go_simp; (try with_reducible rfl)); (try simp only [Act.put, List.setIfInBounds_toArray, List.set_cons_zero, List.set_cons_succ]))
  refine head_nil ?_
  refine mid_nil ?_
  try simp only [Act.put, List.setIfInBounds_toArray, List.set_cons_zero, List.set_cons_succ]
  clear b0 b1 b2 b3 i2 i3 i4 c0 cy
  have cx := H.out.drew.regC H8.out hx8
  have fx := H.out.drew.grow.frozen x
  go_wp2_with fail
  go_ret
  exact ⟨rfl, H.out.drew.put x v⟩
set_option maxHeartbeats 1000000 in
theorem one_jump (w0 w : World) (b gb : Nat) (wv sv : Value) (t : VS) (f : Int) (i : Inp) (h : RefS w0 w b gb wv sv t f) (h8 : t.g.length = 8) (x : Nat) (xb xc : Int) :
    Calls Try.prog 118 #[.pointer (some ⟨b, 0, none⟩), .agg #[.int .i64 9, .int .i64 x, .int .i64 xb, .int .i64 xc], i.val] w fun e w' => e = .returned (.int .i64 0) ∧ RefS w0 w' b gb wv sv { t with at_ := x } f := by
  have hXB := (Blk.new w 142 #[.int .i64 9, .int .i64 x, .int .i64 xb, .int .i64 xc]).alloc (.cells i.cells 112)
  have hIB := Blk.new (w.alloc (.cells #[.int .i64 9, .int .i64 x, .int .i64 xb, .int .i64 xc] 142)) 112 i.cells
  have hz : (w.alloc (.cells #[.int .i64 9, .int .i64 x, .int .i64 xb, .int .i64 xc] 142)).heap.size = w.heap.size + 1 := Array.size_push ..
  rw [hz] at hIB
  clear hz
  have H := hide ((h.alloc (.cells #[.int .i64 9, .int .i64 x, .int .i64 xb, .int .i64 xc] 142)).alloc (.cells i.cells 112))
  have H8 := hide h8
  have HB := hide hXB
  have HI := hide hIB
  clear h h8 hXB hIB
  unfold Inp.val
  unfold Inp.cells Sl.val at *
  go_enter Try.func118, Try.ntmps118
  go_upto_region 1 with fail
  generalize (w.alloc _).alloc _ = w4 at *
  generalize w.heap.size + 1 = ix at *
  generalize w.heap.size = bx at *
  have b0 := HB.out.cell 0
  have b1 := HB.out.cell 1
  have b2 := HB.out.cell 2
  have b3 := HB.out.cell 3
  have i2 := HI.out.cell 2
  have i3 := HI.out.cell 3
  have i4 := HI.out.cell 4
  simp only [List.getElem?_toArray, List.getElem?_cons_zero, List.getElem?_cons_succ] at b0 b1 b2 b3 i2 i3 i4
  have c0 := H.out.cells.1
  have c4 := H.out.cells.2.2.2.2.1
  have f4 := H.out.blk.frozen 4
  go_wp2_with fail
  go_ret
  exact ⟨rfl, H.out.setAt x⟩
set_option maxHeartbeats 1000000 in
theorem one_zero (w0 w : World) (b gb : Nat) (wv sv : Value) (t : VS) (f : Int) (i : Inp) (h : RefS w0 w b gb wv sv t f) (h8 : t.g.length = 8) (x y : Nat) (hx8 : x < 8) (xc : Int) (hz : t.reg x = 0) :
    Calls Try.prog 118 #[.pointer (some ⟨b, 0, none⟩), .agg #[.int .i64 10, .int .i64 x, .int .i64 y, .int .i64 xc], i.val] w fun e w' => e = .returned (.int .i64 0) ∧ RefS w0 w' b gb wv sv { t with at_ := y } f := by
  have hXB := (Blk.new w 142 #[.int .i64 10, .int .i64 x, .int .i64 y, .int .i64 xc]).alloc (.cells i.cells 112)
  have hIB := Blk.new (w.alloc (.cells #[.int .i64 10, .int .i64 x, .int .i64 y, .int .i64 xc] 142)) 112 i.cells
  have hz : (w.alloc (.cells #[.int .i64 10, .int .i64 x, .int .i64 y, .int .i64 xc] 142)).heap.size = w.heap.size + 1 := Array.size_push ..
  rw [hz] at hIB
  clear hz
  have H := hide ((h.alloc (.cells #[.int .i64 10, .int .i64 x, .int .i64 y, .int .i64 xc] 142)).alloc (.cells i.cells 112))
  have H8 := hide h8
  have HB := hide hXB
  have HI := hide hIB
  clear h h8 hXB hIB
  unfold Inp.val
  unfold Inp.cells Sl.val at *
  go_enter Try.func118, Try.ntmps118
  go_upto_region 1 with fail
  generalize (w.alloc _).alloc _ = w4 at *
  generalize w.heap.size + 1 = ix at *
  generalize w.heap.size = bx at *
  have b0 := HB.out.cell 0
  have b1 := HB.out.cell 1
  have b2 := HB.out.cell 2
  have b3 := HB.out.cell 3
  have i2 := HI.out.cell 2
  have i3 := HI.out.cell 3
  have i4 := HI.out.cell 4
  simp only [List.getElem?_toArray, List.getElem?_cons_zero, List.getElem?_cons_succ] at b0 b1 b2 b3 i2 i3 i4
  have c0 := H.out.cells.1
  have xI0 : (0 : Int) ≤ (x : Int) := by omega
  have xI1 : (x : Int) < 8 := by omega
  have cx := H.out.regC H8.out hx8
  rw [hz] at cx
  go_upto_region 13 with fail
  go_quiet (fail)
  replace H := hide (H.out.drewN nq)
  replace HB := hide (HB.out.drewN nq)
  replace HI := hide (HI.out.drewN nq)
  clear b0 b1 b2 b3 i2 i3 i4 c0 cx
  generalize w4.drewN nq = w5 at *
  clear nq
  have b2 := HB.out.cell 2
  simp only [List.getElem?_toArray, List.getElem?_cons_zero, List.getElem?_cons_succ] at b2
  have c4 := H.out.cells.2.2.2.2.1
  have f4 := H.out.blk.frozen 4
  go_wp2_with fail
  go_ret
  exact ⟨rfl, H.out.setAt y⟩
set_option maxHeartbeats 1000000 in
theorem one_nonz (w0 w : World) (b gb : Nat) (wv sv : Value) (t : VS) (f : Int) (i : Inp) (h : RefS w0 w b gb wv sv t f) (h8 : t.g.length = 8) (x y : Nat) (hx8 : x < 8) (xc : Int) (hz : t.reg x ≠ 0) :
    Calls Try.prog 118 #[.pointer (some ⟨b, 0, none⟩), .agg #[.int .i64 10, .int .i64 x, .int .i64 y, .int .i64 xc], i.val] w fun e w' => e = .returned (.int .i64 0) ∧ RefS w0 w' b gb wv sv t f := by
  have hXB := (Blk.new w 142 #[.int .i64 10, .int .i64 x, .int .i64 y, .int .i64 xc]).alloc (.cells i.cells 112)
  have hIB := Blk.new (w.alloc (.cells #[.int .i64 10, .int .i64 x, .int .i64 y, .int .i64 xc] 142)) 112 i.cells
  have hz : (w.alloc (.cells #[.int .i64 10, .int .i64 x, .int .i64 y, .int .i64 xc] 142)).heap.size = w.heap.size + 1 := Array.size_push ..
  rw [hz] at hIB
  clear hz
  have H := hide ((h.alloc (.cells #[.int .i64 10, .int .i64 x, .int .i64 y, .int .i64 xc] 142)).alloc (.cells i.cells 112))
  have H8 := hide h8
  have HB := hide hXB
  have HI := hide hIB
  clear h h8 hXB hIB
  unfold Inp.val
  unfold Inp.cells Sl.val at *
  go_enter Try.func118, Try.ntmps118
  go_upto_region 1 with fail
  generalize (w.alloc _).alloc _ = w4 at *
  generalize w.heap.size + 1 = ix at *
  generalize w.heap.size = bx at *
  have b0 := HB.out.cell 0
  have b1 := HB.out.cell 1
  have b2 := HB.out.cell 2
  have b3 := HB.out.cell 3
  have i2 := HI.out.cell 2
  have i3 := HI.out.cell 3
  have i4 := HI.out.cell 4
  simp only [List.getElem?_toArray, List.getElem?_cons_zero, List.getElem?_cons_succ] at b0 b1 b2 b3 i2 i3 i4
  have c0 := H.out.cells.1
  have xI0 : (0 : Int) ≤ (x : Int) := by omega
  have xI1 : (x : Int) < 8 := by omega
  have cx := H.out.regC H8.out hx8
  have dz : (t.reg x == 0) = false := by rw [beq_eq_false_iff_ne]; exact hz
  generalize t.reg x = r at *
  go_upto_region 13 with fail
  go_quiet (fail)
  replace H := hide (H.out.drewN nq)
  replace HB := hide (HB.out.drewN nq)
  replace HI := hide (HI.out.drewN nq)
  clear b0 b1 b2 b3 i2 i3 i4 c0 cx
  generalize w4.drewN nq = w5 at *
  clear nq
  have b2 := HB.out.cell 2
  simp only [List.getElem?_toArray, List.getElem?_cons_zero, List.getElem?_cons_succ] at b2
  have c4 := H.out.cells.2.2.2.2.1
  have f4 := H.out.blk.frozen 4
  go_wp2_with fail
  go_ret
  exact ⟨rfl, H.out⟩
set_option maxHeartbeats 1000000 in
theorem one_noroll (w0 w : World) (b gb : Nat) (wv sv : Value) (t : VS) (f : Int) (i : Inp) (h : RefS w0 w b gb wv sv t f) (h8 : t.g.length = 8) (x y : Nat) (hy8 : y < 8) (xc n : Int) (hv : t.reg y = n) (hn1 : n < 1) :
    Calls Try.prog 118 #[.pointer (some ⟨b, 0, none⟩), .agg #[.int .i64 11, .int .i64 x, .int .i64 y, .int .i64 xc], i.val] w fun e w' => e = .returned (.int .i64 4) ∧ RefS w0 w' b gb wv sv t f := by
  have hXB := (Blk.new w 142 #[.int .i64 11, .int .i64 x, .int .i64 y, .int .i64 xc]).alloc (.cells i.cells 112)
  have hIB := Blk.new (w.alloc (.cells #[.int .i64 11, .int .i64 x, .int .i64 y, .int .i64 xc] 142)) 112 i.cells
  have hz : (w.alloc (.cells #[.int .i64 11, .int .i64 x, .int .i64 y, .int .i64 xc] 142)).heap.size = w.heap.size + 1 := Array.size_push ..
  rw [hz] at hIB
  clear hz
  have H := hide ((h.alloc (.cells #[.int .i64 11, .int .i64 x, .int .i64 y, .int .i64 xc] 142)).alloc (.cells i.cells 112))
  have H8 := hide h8
  have HB := hide hXB
  have HI := hide hIB
  clear h h8 hXB hIB
  unfold Inp.val
  unfold Inp.cells Sl.val at *
  go_enter Try.func118, Try.ntmps118
  go_upto_region 1 with fail
  generalize (w.alloc _).alloc _ = w4 at *
  generalize w.heap.size + 1 = ix at *
  generalize w.heap.size = bx at *
  have b0 := HB.out.cell 0
  have b1 := HB.out.cell 1
  have b2 := HB.out.cell 2
  have b3 := HB.out.cell 3
  have i2 := HI.out.cell 2
  have i3 := HI.out.cell 3
  have i4 := HI.out.cell 4
  simp only [List.getElem?_toArray, List.getElem?_cons_zero, List.getElem?_cons_succ] at b0 b1 b2 b3 i2 i3 i4
  have c0 := H.out.cells.1
  have yI0 : (0 : Int) ≤ (y : Int) := by omega
  have yI1 : (y : Int) < 8 := by omega
  have cy := H.out.regC H8.out hy8
  rw [hv] at cy
  go_upto_region 16 with fail
  go_quiet (fail)
  replace H := hide (H.out.drewN nq)
  replace HB := hide (HB.out.drewN nq)
  replace HI := hide (HI.out.drewN nq)
  clear b0 b1 b2 b3 i2 i3 i4 c0 cy
  generalize w4.drewN nq = w5 at *
  clear nq
  go_wp2_with fail
  go_ret
  exact ⟨rfl, H.out⟩
set_option maxHeartbeats 2000000 in
theorem one_roll (w0 w : World) (b gb : Nat) (wv sv : Value) (t : VS) (f : Int) (i : Inp) (h : RefS w0 w b gb wv sv t f) (h8 : t.g.length = 8) (x y : Nat) (hx8 : x < 8) (hy8 : y < 8) (xc n : Int) (hv : t.reg y = n) (hn1 : 1 ≤ n) (hn2 : n ≤ 9223372036854775807) (W : Int) (hW : wordI i.seed i.me = W) :
    Calls Try.prog 118 #[.pointer (some ⟨b, 0, none⟩), .agg #[.int .i64 11, .int .i64 x, .int .i64 y, .int .i64 xc], i.val] w fun e w' => e = .returned (.int .i64 0) ∧ RefS w0 w' b gb wv sv { t.put x (belowI (stepI W t.d) n) with d := wrap64 (t.d + 1) } f := by
  have hXB := (Blk.new w 142 #[.int .i64 11, .int .i64 x, .int .i64 y, .int .i64 xc]).alloc (.cells i.cells 112)
  have hIB := Blk.new (w.alloc (.cells #[.int .i64 11, .int .i64 x, .int .i64 y, .int .i64 xc] 142)) 112 i.cells
  have hz : (w.alloc (.cells #[.int .i64 11, .int .i64 x, .int .i64 y, .int .i64 xc] 142)).heap.size = w.heap.size + 1 := Array.size_push ..
  rw [hz] at hIB
  clear hz
  have H := hide ((h.alloc (.cells #[.int .i64 11, .int .i64 x, .int .i64 y, .int .i64 xc] 142)).alloc (.cells i.cells 112))
  have H8 := hide h8
  have HB := hide hXB
  have HI := hide hIB
  clear h h8 hXB hIB
  unfold Inp.val
  unfold Inp.cells Sl.val at *
  go_enter Try.func118, Try.ntmps118
  go_upto_region 1 with fail
  generalize (w.alloc _).alloc _ = w4 at *
  generalize w.heap.size + 1 = ix at *
  generalize w.heap.size = bx at *
  have b0 := HB.out.cell 0
  have b1 := HB.out.cell 1
  have b2 := HB.out.cell 2
  have b3 := HB.out.cell 3
  have i2 := HI.out.cell 2
  have i3 := HI.out.cell 3
  have i4 := HI.out.cell 4
  simp only [List.getElem?_toArray, List.getElem?_cons_zero, List.getElem?_cons_succ] at b0 b1 b2 b3 i2 i3 i4
  have c0 := H.out.cells.1
  have xI0 : (0 : Int) ≤ (x : Int) := by omega
  have xI1 : (x : Int) < 8 := by omega
  have yI0 : (0 : Int) ≤ (y : Int) := by omega
  have yI1 : (y : Int) < 8 := by omega
  have cy := H.out.regC H8.out hy8
  rw [hv] at cy
  go_upto_region 16 with fail
  go_quiet (fail)
  replace H := hide (H.out.drewN nq)
  replace HB := hide (HB.out.drewN nq)
  replace HI := hide (HI.out.drewN nq)
  clear b0 b1 b2 b3 i2 i3 i4 c0 cy
  generalize w4.drewN nq = w5 at *
  clear nq
  have c0 := H.out.cells.1
  have b1 := HB.out.cell 1
  simp only [List.getElem?_toArray, List.getElem?_cons_zero, List.getElem?_cons_succ] at b1
  have i2 := HI.out.cell 2
  have i4 := HI.out.cell 4
  simp only [List.getElem?_toArray, List.getElem?_cons_zero, List.getElem?_cons_succ] at i2 i4
  have dn : decide (n < 1) = false := decide_eq_false (by omega)
  go_upto_region 19 with fail
  clear dn
  refine wp_region_still_tail 18 (by kernel_rfl) (by kernel_rfl) ?_
  change wpStill _ _ w5.drew _ _ _
  change wpStill _ _ _ (fun a' => wpList Try.prog _ _ _ a' w5.drew) _ _
  replace H := hide H.out.drew
  replace HB := hide HB.out.drew
  replace HI := hide HI.out.drew
  have RA := hide ((rroll_any i.seed i.me t.d w5.drew).mono fun e w' (h : _ ∧ _) => And.intro h.1 h.2.symm)
  have BA := hide ((rbelow_any (stepI (wordI i.seed i.me) t.d) n w5.drew (stepI_nn _ _) (stepI_lt _ _) hn2).mono fun e w' (h : _ ∧ _) => And.intro h.1 h.2.symm)
  rw [hW] at RA BA
  have HW := hide hW
  clear c0 b1 i2 i4 hv hn1 hn2 hW
  generalize w5.drew = w6 at *
  have c0 := H.out.cells.1
  have c3 := H.out.cells.2.2.2.1
  have b1 := HB.out.cell 1
  have i2 := HI.out.cell 2
  have i4 := HI.out.cell 4
  simp only [List.getElem?_toArray, List.getElem?_cons_zero, List.getElem?_cons_succ] at b1 i2 i4
  simp only [List.take_succ_cons, List.take_zero, List.drop_succ_cons, List.drop_zero]
  repeat (first
    | still_step
    | (still_call (RA.out))
    | (still_call (BA.out)))
  refine wpStill_nil ?_
  clear c0 c3 b1 i2 i4
  have cx := H.out.regC H8.out hx8
  have fx := H.out.grow.frozen x
  generalize hV : belowI (stepI W t.d) n = V at *
  have HV := hide hV
  clear hV
  go_upto_region 20 with fail
  have HP := hide (H.out.put x V)
  clear cx fx
  generalize w6.setCell _ _ = w7 at *
  have c3 := HP.out.cells.2.2.2.1
  have f3 := HP.out.blk.frozen 3
  go_wp2_with fail
  go_ret
  exact ⟨rfl, by rw [HV.out]; exact HP.out.setD (wrap64 (t.d + 1))⟩
set_option maxHeartbeats 1000000 in
theorem one_noload (w0 w : World) (b gb : Nat) (n c : Nat) (A : Option Addr) (sv : Value) (t : VS) (f : Int) (i : Inp) (h : RefS w0 w b gb (.slice A n c) sv t f) (h8 : t.g.length = 8) (x y : Nat) (hy8 : y < 8) (xc k : Int) (hk : t.reg y = k) (hbad : k < 0 ∨ (n : Int) ≤ k) :
    Calls Try.prog 118 #[.pointer (some ⟨b, 0, none⟩), .agg #[.int .i64 13, .int .i64 x, .int .i64 y, .int .i64 xc], i.val] w fun e w' => e = .returned (.int .i64 3) ∧ RefS w0 w' b gb (.slice A n c) sv t f := by
  have hXB := (Blk.new w 142 #[.int .i64 13, .int .i64 x, .int .i64 y, .int .i64 xc]).alloc (.cells i.cells 112)
  have hIB := Blk.new (w.alloc (.cells #[.int .i64 13, .int .i64 x, .int .i64 y, .int .i64 xc] 142)) 112 i.cells
  have hz : (w.alloc (.cells #[.int .i64 13, .int .i64 x, .int .i64 y, .int .i64 xc] 142)).heap.size = w.heap.size + 1 := Array.size_push ..
  rw [hz] at hIB
  clear hz
  have H := hide ((h.alloc (.cells #[.int .i64 13, .int .i64 x, .int .i64 y, .int .i64 xc] 142)).alloc (.cells i.cells 112))
  have H8 := hide h8
  have HB := hide hXB
  have HI := hide hIB
  clear h h8 hXB hIB
  unfold Inp.val
  unfold Inp.cells Sl.val at *
  go_enter Try.func118, Try.ntmps118
  go_upto_region 1 with fail
  generalize (w.alloc _).alloc _ = w4 at *
  generalize w.heap.size + 1 = ix at *
  generalize w.heap.size = bx at *
  have b0 := HB.out.cell 0
  have b1 := HB.out.cell 1
  have b2 := HB.out.cell 2
  have b3 := HB.out.cell 3
  have i2 := HI.out.cell 2
  have i3 := HI.out.cell 3
  have i4 := HI.out.cell 4
  simp only [List.getElem?_toArray, List.getElem?_cons_zero, List.getElem?_cons_succ] at b0 b1 b2 b3 i2 i3 i4
  have c0 := H.out.cells.1
  have yI0 : (0 : Int) ≤ (y : Int) := by omega
  have yI1 : (y : Int) < 8 := by omega
  have cr := H.out.regC H8.out hy8
  rw [hk] at cr
  go_upto_region 24 with fail
  go_quiet (fail)
  replace H := hide (H.out.drewN nq)
  replace HB := hide (HB.out.drewN nq)
  replace HI := hide (HI.out.drewN nq)
  clear b0 b1 b2 b3 i2 i3 i4 c0 cr
  generalize w4.drewN nq = w5 at *
  clear nq
  have c1 := H.out.cells.2.1
  rcases hbad with hb | hb
  · have d0 : decide (k < 0) = true := decide_eq_true hb
    go_wp2_with fail
    go_ret
    exact ⟨rfl, H.out⟩
  · by_cases h0 : k < 0
    · have d0 : decide (k < 0) = true := decide_eq_true h0
      go_wp2_with fail
      go_ret
      exact ⟨rfl, H.out⟩
    · have d0 : decide (k < 0) = false := decide_eq_false h0
      have d1 : decide ((n : Int) ≤ k) = true := decide_eq_true hb
      go_wp2_with fail
      go_ret
      exact ⟨rfl, H.out⟩
set_option maxHeartbeats 1000000 in
theorem one_load (w0 w : World) (b gb : Nat) (g n c : Nat) (sv : Value) (t : VS) (f : Int) (i : Inp) (h : RefS w0 w b gb (.slice (some ⟨g, 0, none⟩) n c) sv t f) (h8 : t.g.length = 8) (x y k : Nat) (hx8 : x < 8) (hy8 : y < 8) (xc v : Int) (hk : t.reg y = k) (hkn : k < n) (hnw : n = t.w.length) (hv : t.w.getD k 0 = v) :
    Calls Try.prog 118 #[.pointer (some ⟨b, 0, none⟩), .agg #[.int .i64 13, .int .i64 x, .int .i64 y, .int .i64 xc], i.val] w fun e w' => e = .returned (.int .i64 0) ∧ RefS w0 w' b gb (.slice (some ⟨g, 0, none⟩) n c) sv (t.put x v) f := by
  have hXB := (Blk.new w 142 #[.int .i64 13, .int .i64 x, .int .i64 y, .int .i64 xc]).alloc (.cells i.cells 112)
  have hIB := Blk.new (w.alloc (.cells #[.int .i64 13, .int .i64 x, .int .i64 y, .int .i64 xc] 142)) 112 i.cells
  have hz : (w.alloc (.cells #[.int .i64 13, .int .i64 x, .int .i64 y, .int .i64 xc] 142)).heap.size = w.heap.size + 1 := Array.size_push ..
  rw [hz] at hIB
  clear hz
  have H := hide ((h.alloc (.cells #[.int .i64 13, .int .i64 x, .int .i64 y, .int .i64 xc] 142)).alloc (.cells i.cells 112))
  have H8 := hide h8
  have HB := hide hXB
  have HI := hide hIB
  clear h h8 hXB hIB
  unfold Inp.val
  unfold Inp.cells Sl.val at *
  go_enter Try.func118, Try.ntmps118
  go_upto_region 1 with fail
  generalize (w.alloc _).alloc _ = w4 at *
  generalize w.heap.size + 1 = ix at *
  generalize w.heap.size = bx at *
  have b0 := HB.out.cell 0
  have b1 := HB.out.cell 1
  have b2 := HB.out.cell 2
  have b3 := HB.out.cell 3
  have i2 := HI.out.cell 2
  have i3 := HI.out.cell 3
  have i4 := HI.out.cell 4
  simp only [List.getElem?_toArray, List.getElem?_cons_zero, List.getElem?_cons_succ] at b0 b1 b2 b3 i2 i3 i4
  have c0 := H.out.cells.1
  have xI0 : (0 : Int) ≤ (x : Int) := by omega
  have xI1 : (x : Int) < 8 := by omega
  have yI0 : (0 : Int) ≤ (y : Int) := by omega
  have yI1 : (y : Int) < 8 := by omega
  have cr := H.out.regC H8.out hy8
  rw [hk] at cr
  go_upto_region 24 with fail
  go_quiet (fail)
  replace H := hide (H.out.drewN nq)
  replace HB := hide (HB.out.drewN nq)
  replace HI := hide (HI.out.drewN nq)
  clear b0 b1 b2 b3 i2 i3 i4 c0 cr
  generalize w4.drewN nq = w5 at *
  clear nq
  have c0 := H.out.cells.1
  have b1 := HB.out.cell 1
  have b2 := HB.out.cell 2
  simp only [List.getElem?_toArray, List.getElem?_cons_zero, List.getElem?_cons_succ] at b1 b2
  have c1 := H.out.cells.2.1
  have kI0 : (0 : Int) ≤ (k : Int) := by omega
  have kI1 : (k : Int) < (n : Int) := by omega
  have cw := (H.out.wordC hnw hkn).1
  have fw := (H.out.drew.wordC hnw hkn).2
  rw [hv] at cw
  have HN := hide hnw
  clear hk hkn hnw hv
  go_upto_region 27 with fail
  refine wp_region_reads (fun w' => w'.cell? ⟨b, 0, none⟩ = some (.slice (some ⟨gb, 0, none⟩) 8 8) ∧ w'.cell? ⟨bx, 1, none⟩ = some (.int .i64 x) ∧ w'.cell? ⟨b, 1, none⟩ = some (.slice (some ⟨g, 0, none⟩) n c) ∧ w'.cell? ⟨g, k, none⟩ = some (.int .i64 v))
    (.pointer (some ⟨b, 0, none⟩)) 13 0 (by kernel_rfl) (by kernel_rfl) (Or.inl ⟨by rfl, fun w => by rfl⟩) (fun _ _ _ h => h) ⟨c0, b1, c1, cw⟩ ?_
  simp only [Act.put, List.setIfInBounds_toArray, List.set_cons_zero, List.set_cons_succ, List.take_succ_cons, List.take_zero, List.drop_succ_cons, List.drop_zero]
  repeat (refine head_step ?_ (by rfl) ?_ (fun _ _ _ h => h) ?_; rotate_left; (intro w' hs; obtain ⟨zc0, zb1, zc1, zcw⟩ := hs; go_simp; (try with_reducible rfl)); (try simp only [Act.put, List.setIfInBounds_toArray, List.set_cons_zero, List.set_cons_succ]))
  refine head_nil ?_
  refine mid_nil ?_
  try simp only [Act.put, List.setIfInBounds_toArray, List.set_cons_zero, List.set_cons_succ]
  clear c0 b1 b2 c1 cw fw
  have cx := H.out.drew.regC H8.out hx8
  have fx := H.out.drew.grow.frozen x
  go_wp2_with fail
  go_ret
  exact ⟨rfl, H.out.drew.put x v⟩
set_option maxHeartbeats 1000000 in
theorem one_nostore (w0 w : World) (b gb : Nat) (n c : Nat) (A : Option Addr) (sv : Value) (t : VS) (f : Int) (i : Inp) (h : RefS w0 w b gb (.slice A n c) sv t f) (h8 : t.g.length = 8) (x y : Nat) (hx8 : x < 8) (xc k : Int) (hk : t.reg x = k) (hbad : k < 0 ∨ (n : Int) ≤ k) :
    Calls Try.prog 118 #[.pointer (some ⟨b, 0, none⟩), .agg #[.int .i64 14, .int .i64 x, .int .i64 y, .int .i64 xc], i.val] w fun e w' => e = .returned (.int .i64 3) ∧ RefS w0 w' b gb (.slice A n c) sv t f := by
  have hXB := (Blk.new w 142 #[.int .i64 14, .int .i64 x, .int .i64 y, .int .i64 xc]).alloc (.cells i.cells 112)
  have hIB := Blk.new (w.alloc (.cells #[.int .i64 14, .int .i64 x, .int .i64 y, .int .i64 xc] 142)) 112 i.cells
  have hz : (w.alloc (.cells #[.int .i64 14, .int .i64 x, .int .i64 y, .int .i64 xc] 142)).heap.size = w.heap.size + 1 := Array.size_push ..
  rw [hz] at hIB
  clear hz
  have H := hide ((h.alloc (.cells #[.int .i64 14, .int .i64 x, .int .i64 y, .int .i64 xc] 142)).alloc (.cells i.cells 112))
  have H8 := hide h8
  have HB := hide hXB
  have HI := hide hIB
  clear h h8 hXB hIB
  unfold Inp.val
  unfold Inp.cells Sl.val at *
  go_enter Try.func118, Try.ntmps118
  go_upto_region 1 with fail
  generalize (w.alloc _).alloc _ = w4 at *
  generalize w.heap.size + 1 = ix at *
  generalize w.heap.size = bx at *
  have b0 := HB.out.cell 0
  have b1 := HB.out.cell 1
  have b2 := HB.out.cell 2
  have b3 := HB.out.cell 3
  have i2 := HI.out.cell 2
  have i3 := HI.out.cell 3
  have i4 := HI.out.cell 4
  simp only [List.getElem?_toArray, List.getElem?_cons_zero, List.getElem?_cons_succ] at b0 b1 b2 b3 i2 i3 i4
  have c0 := H.out.cells.1
  have xI0 : (0 : Int) ≤ (x : Int) := by omega
  have xI1 : (x : Int) < 8 := by omega
  have cr := H.out.regC H8.out hx8
  rw [hk] at cr
  go_upto_region 29 with fail
  go_quiet (fail)
  replace H := hide (H.out.drewN nq)
  replace HB := hide (HB.out.drewN nq)
  replace HI := hide (HI.out.drewN nq)
  clear b0 b1 b2 b3 i2 i3 i4 c0 cr
  generalize w4.drewN nq = w5 at *
  clear nq
  have c1 := H.out.cells.2.1
  rcases hbad with hb | hb
  · have d0 : decide (k < 0) = true := decide_eq_true hb
    go_wp2_with fail
    go_ret
    exact ⟨rfl, H.out⟩
  · by_cases h0 : k < 0
    · have d0 : decide (k < 0) = true := decide_eq_true h0
      go_wp2_with fail
      go_ret
      exact ⟨rfl, H.out⟩
    · have d0 : decide (k < 0) = false := decide_eq_false h0
      have d1 : decide ((n : Int) ≤ k) = true := decide_eq_true hb
      go_wp2_with fail
      go_ret
      exact ⟨rfl, H.out⟩
set_option maxHeartbeats 1000000 in
theorem one_store (w0 w : World) (b gb : Nat) (g n c : Nat) (sv : Value) (t : VS) (f : Int) (i : Inp) (h : RefS w0 w b gb (.slice (some ⟨g, 0, none⟩) n c) sv t f) (h8 : t.g.length = 8) (x y k : Nat) (hx8 : x < 8) (hy8 : y < 8) (xc v : Int) (hk : t.reg x = k) (hkn : k < n) (hnw : n = t.w.length) (hv : t.reg y = v) :
    Calls Try.prog 118 #[.pointer (some ⟨b, 0, none⟩), .agg #[.int .i64 14, .int .i64 x, .int .i64 y, .int .i64 xc], i.val] w fun e w' => e = .returned (.int .i64 0) ∧ RefS w0 w' b gb (.slice (some ⟨g, 0, none⟩) n c) sv { t with w := t.w.set k v } f := by
  have hXB := (Blk.new w 142 #[.int .i64 14, .int .i64 x, .int .i64 y, .int .i64 xc]).alloc (.cells i.cells 112)
  have hIB := Blk.new (w.alloc (.cells #[.int .i64 14, .int .i64 x, .int .i64 y, .int .i64 xc] 142)) 112 i.cells
  have hz : (w.alloc (.cells #[.int .i64 14, .int .i64 x, .int .i64 y, .int .i64 xc] 142)).heap.size = w.heap.size + 1 := Array.size_push ..
  rw [hz] at hIB
  clear hz
  have H := hide ((h.alloc (.cells #[.int .i64 14, .int .i64 x, .int .i64 y, .int .i64 xc] 142)).alloc (.cells i.cells 112))
  have H8 := hide h8
  have HB := hide hXB
  have HI := hide hIB
  clear h h8 hXB hIB
  unfold Inp.val
  unfold Inp.cells Sl.val at *
  go_enter Try.func118, Try.ntmps118
  go_upto_region 1 with fail
  generalize (w.alloc _).alloc _ = w4 at *
  generalize w.heap.size + 1 = ix at *
  generalize w.heap.size = bx at *
  have b0 := HB.out.cell 0
  have b1 := HB.out.cell 1
  have b2 := HB.out.cell 2
  have b3 := HB.out.cell 3
  have i2 := HI.out.cell 2
  have i3 := HI.out.cell 3
  have i4 := HI.out.cell 4
  simp only [List.getElem?_toArray, List.getElem?_cons_zero, List.getElem?_cons_succ] at b0 b1 b2 b3 i2 i3 i4
  have c0 := H.out.cells.1
  have xI0 : (0 : Int) ≤ (x : Int) := by omega
  have xI1 : (x : Int) < 8 := by omega
  have yI0 : (0 : Int) ≤ (y : Int) := by omega
  have yI1 : (y : Int) < 8 := by omega
  have cr := H.out.regC H8.out hx8
  rw [hk] at cr
  go_upto_region 29 with fail
  go_quiet (fail)
  replace H := hide (H.out.drewN nq)
  replace HB := hide (HB.out.drewN nq)
  replace HI := hide (HI.out.drewN nq)
  clear b0 b1 b2 b3 i2 i3 i4 c0 cr
  generalize w4.drewN nq = w5 at *
  clear nq
  have c0 := H.out.cells.1
  have b1 := HB.out.cell 1
  have b2 := HB.out.cell 2
  simp only [List.getElem?_toArray, List.getElem?_cons_zero, List.getElem?_cons_succ] at b1 b2
  have c1 := H.out.cells.2.1
  have kI0 : (0 : Int) ≤ (k : Int) := by omega
  have kI1 : (k : Int) < (n : Int) := by omega
  have cw := (H.out.wordC hnw hkn).1
  have fw := (H.out.drew.wordC hnw hkn).2
  have cwd := (H.out.drew.wordC hnw hkn).1
  have cy := H.out.regC H8.out hy8
  rw [hv] at cy
  have HN := hide hnw
  clear hk hkn hnw hv
  go_upto_region 32 with fail
  refine wp_region_reads (fun w' => w'.cell? ⟨b, 0, none⟩ = some (.slice (some ⟨gb, 0, none⟩) 8 8) ∧ w'.cell? ⟨bx, 2, none⟩ = some (.int .i64 y) ∧ w'.cell? ⟨b, 1, none⟩ = some (.slice (some ⟨g, 0, none⟩) n c) ∧ w'.cell? ⟨gb, y, none⟩ = some (.int .i64 v))
    (.pointer (some ⟨b, 0, none⟩)) 13 0 (by kernel_rfl) (by kernel_rfl) (Or.inl ⟨by rfl, fun w => by rfl⟩) (fun _ _ _ h => h) ⟨c0, b2, c1, cy⟩ ?_
  simp only [Act.put, List.setIfInBounds_toArray, List.set_cons_zero, List.set_cons_succ, List.take_succ_cons, List.take_zero, List.drop_succ_cons, List.drop_zero]
  repeat (refine head_step ?_ (by rfl) ?_ (fun _ _ _ h => h) ?_; rotate_left; (intro w' hs; obtain ⟨zc0, zb2, zc1, zcy⟩ := hs; go_simp; (try with_reducible rfl)); (try simp only [Act.put, List.setIfInBounds_toArray, List.set_cons_zero, List.set_cons_succ]))
  refine head_nil ?_
  refine mid_nil ?_
  try simp only [Act.put, List.setIfInBounds_toArray, List.set_cons_zero, List.set_cons_succ]
  clear c0 b1 b2 c1 cy cw
  go_wp2_with fail
  go_ret
  exact ⟨rfl, H.out.drew.setW HN.out k v⟩
set_option maxHeartbeats 1000000 in
theorem one_comp (w0 w : World) (b gb : Nat) (wv sv : Value) (t : VS) (f : Int) (i : Inp) (h : RefS w0 w b gb wv sv t f) (h8 : t.g.length = 8) (op : Int) (hop : 3 ≤ op ∧ op ≤ 8) (x y z : Nat) (hx8 : x < 8) (hy8 : y < 8) (hz8 : z < 8) (u v : Int) (hu : t.reg y = u) (hv : t.reg z = v) (hI : I64 u) (hf : twoF op v = 0) (V : Int) (hV : twoI op u v = V) :
    Calls Try.prog 118 #[.pointer (some ⟨b, 0, none⟩), .agg #[.int .i64 op, .int .i64 x, .int .i64 y, .int .i64 z], i.val] w fun e w' => e = .returned (.int .i64 0) ∧ RefS w0 w' b gb wv sv (t.put x V) f := by
  have hXB := (Blk.new w 142 #[.int .i64 op, .int .i64 x, .int .i64 y, .int .i64 z]).alloc (.cells i.cells 112)
  have hIB := Blk.new (w.alloc (.cells #[.int .i64 op, .int .i64 x, .int .i64 y, .int .i64 z] 142)) 112 i.cells
  have hz : (w.alloc (.cells #[.int .i64 op, .int .i64 x, .int .i64 y, .int .i64 z] 142)).heap.size = w.heap.size + 1 := Array.size_push ..
  rw [hz] at hIB
  clear hz
  have H := hide ((h.alloc (.cells #[.int .i64 op, .int .i64 x, .int .i64 y, .int .i64 z] 142)).alloc (.cells i.cells 112))
  have H8 := hide h8
  have HB := hide hXB
  have HI := hide hIB
  clear h h8 hXB hIB
  unfold Inp.val
  unfold Inp.cells Sl.val at *
  go_enter Try.func118, Try.ntmps118
  go_upto_region 1 with fail
  generalize (w.alloc _).alloc _ = w4 at *
  generalize w.heap.size + 1 = ix at *
  generalize w.heap.size = bx at *
  have b0 := HB.out.cell 0
  have b1 := HB.out.cell 1
  have b2 := HB.out.cell 2
  have b3 := HB.out.cell 3
  have i2 := HI.out.cell 2
  have i3 := HI.out.cell 3
  have i4 := HI.out.cell 4
  simp only [List.getElem?_toArray, List.getElem?_cons_zero, List.getElem?_cons_succ] at b0 b1 b2 b3 i2 i3 i4
  have c0 := H.out.cells.1
  have xI0 : (0 : Int) ≤ (x : Int) := by omega
  have xI1 : (x : Int) < 8 := by omega
  have yI0 : (0 : Int) ≤ (y : Int) := by omega
  have yI1 : (y : Int) < 8 := by omega
  have zI0 : (0 : Int) ≤ (z : Int) := by omega
  have zI1 : (z : Int) < 8 := by omega
  have TA := fun w => two_any op u v w hop hI
  rw [hf, if_pos rfl, hV] at TA
  have HT := hide TA
  obtain ⟨o1, o2⟩ := hop
  clear hf hI TA hV
  have cy := H.out.regC H8.out hy8
  have cz := H.out.regC H8.out hz8
  rw [hu] at cy
  rw [hv] at cz
  clear hu hv
  go_upto_region 2 with fail
  go_quiet (((go_at_call 130; first | exact Calls.quiet_of (HT.out _) | exact quiet_add (HT.out _))))
  replace H := hide (H.out.drewN nq)
  replace HB := hide (HB.out.drewN nq)
  replace HI := hide (HI.out.drewN nq)
  clear b0 b1 b2 b3 i2 i3 i4 c0 cy cz HT
  generalize w4.drewN nq = w5 at *
  clear nq
  have c0 := H.out.cells.1
  have b1 := HB.out.cell 1
  simp only [List.getElem?_toArray, List.getElem?_cons_zero, List.getElem?_cons_succ] at b1
  go_upto_region 5 with fail
  refine wp_region_reads (fun w' => w'.cell? ⟨b, 0, none⟩ = some (.slice (some ⟨gb, 0, none⟩) 8 8) ∧ w'.cell? ⟨bx, 1, none⟩ = some (.int .i64 x))
    (.pointer (some ⟨b, 0, none⟩)) 7 0 (by kernel_rfl) (by kernel_rfl) (Or.inl ⟨by rfl, fun w => by rfl⟩) (fun _ _ _ h => h) ⟨c0, b1⟩ ?_
  simp only [Act.put, List.setIfInBounds_toArray, List.set_cons_zero, List.set_cons_succ, List.take_succ_cons, List.take_zero, List.drop_succ_cons, List.drop_zero]
  repeat (refine head_step ?_ (by rfl) ?_ (fun _ _ _ h => h) ?_; rotate_left; (intro w' hs; obtain ⟨zc0, zb1⟩ := hs; go_simp; (try with_reducible rfl)); (try simp only [Act.put, List.setIfInBounds_toArray, List.set_cons_zero, List.set_cons_succ]))
  refine head_nil ?_
  refine mid_nil ?_
  try simp only [Act.put, List.setIfInBounds_toArray, List.set_cons_zero, List.set_cons_succ]
  clear c0 b1
  have cx := H.out.drew.regC H8.out hx8
  have fx := H.out.drew.grow.frozen x
  go_wp2_with fail
  go_ret
  exact ⟨rfl, H.out.drew.put x V⟩
set_option maxHeartbeats 1000000 in
theorem one_nodiv (w0 w : World) (b gb : Nat) (wv sv : Value) (t : VS) (f : Int) (i : Inp) (h : RefS w0 w b gb wv sv t f) (h8 : t.g.length = 8) (op : Int) (hop : op = 6 ∨ op = 7) (x y z : Nat) (hy8 : y < 8) (hz8 : z < 8) (u : Int) (hu : t.reg y = u) (hv : t.reg z = 0) (hI : I64 u) :
    Calls Try.prog 118 #[.pointer (some ⟨b, 0, none⟩), .agg #[.int .i64 op, .int .i64 x, .int .i64 y, .int .i64 z], i.val] w fun e w' => e = .returned (.int .i64 2) ∧ RefS w0 w' b gb wv sv t f := by
  have hXB := (Blk.new w 142 #[.int .i64 op, .int .i64 x, .int .i64 y, .int .i64 z]).alloc (.cells i.cells 112)
  have hIB := Blk.new (w.alloc (.cells #[.int .i64 op, .int .i64 x, .int .i64 y, .int .i64 z] 142)) 112 i.cells
  have hz : (w.alloc (.cells #[.int .i64 op, .int .i64 x, .int .i64 y, .int .i64 z] 142)).heap.size = w.heap.size + 1 := Array.size_push ..
  rw [hz] at hIB
  clear hz
  have H := hide ((h.alloc (.cells #[.int .i64 op, .int .i64 x, .int .i64 y, .int .i64 z] 142)).alloc (.cells i.cells 112))
  have H8 := hide h8
  have HB := hide hXB
  have HI := hide hIB
  clear h h8 hXB hIB
  unfold Inp.val
  unfold Inp.cells Sl.val at *
  go_enter Try.func118, Try.ntmps118
  go_upto_region 1 with fail
  generalize (w.alloc _).alloc _ = w4 at *
  generalize w.heap.size + 1 = ix at *
  generalize w.heap.size = bx at *
  have b0 := HB.out.cell 0
  have b1 := HB.out.cell 1
  have b2 := HB.out.cell 2
  have b3 := HB.out.cell 3
  have i2 := HI.out.cell 2
  have i3 := HI.out.cell 3
  have i4 := HI.out.cell 4
  simp only [List.getElem?_toArray, List.getElem?_cons_zero, List.getElem?_cons_succ] at b0 b1 b2 b3 i2 i3 i4
  have c0 := H.out.cells.1
  have yI0 : (0 : Int) ≤ (y : Int) := by omega
  have yI1 : (y : Int) < 8 := by omega
  have zI0 : (0 : Int) ≤ (z : Int) := by omega
  have zI1 : (z : Int) < 8 := by omega
  have TA := fun w => two_any op u 0 w (by omega) hI
  have e0 : twoF op 0 = 2 := if_pos ⟨hop, rfl⟩
  rw [e0, if_neg (by decide)] at TA
  have HT := hide TA
  have o1 : 6 ≤ op := by omega
  have o2 : op ≤ 7 := by omega
  clear hop hI TA e0
  have cy := H.out.regC H8.out hy8
  have cz := H.out.regC H8.out hz8
  rw [hu] at cy
  rw [hv] at cz
  clear hu hv
  go_upto_region 2 with fail
  go_quiet (((go_at_call 130; first | exact Calls.quiet_of (HT.out _) | exact quiet_add (HT.out _))))
  replace H := hide (H.out.drewN nq)
  replace HB := hide (HB.out.drewN nq)
  replace HI := hide (HI.out.drewN nq)
  clear b0 b1 b2 b3 i2 i3 i4 c0 cy cz HT
  generalize w4.drewN nq = w5 at *
  clear nq
  go_wp2_with fail
  go_ret
  exact ⟨rfl, H.out⟩
end Go.Proofs.Ytpfcmfannkbipaa
end
