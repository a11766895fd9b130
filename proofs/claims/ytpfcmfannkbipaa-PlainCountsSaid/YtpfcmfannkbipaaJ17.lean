/- Texts of this claim in one. No condition. -/
import Derived.Test.YtpfcmfannkbipaaJ16
import Derived.StillTailTactics
section
set_option linter.unusedVariables false
set_option linter.unusedSimpArgs false
set_option maxRecDepth 20000
namespace Go.Proofs.Ytpfcmfannkbipaa
open Go.RowKit Go.Deep

set_option maxHeartbeats 2000000 in
theorem sends_dst (w0 w : World) (b gb x y z : Nat)  (wv sv : Value) (t : VS) (f lps : Int) (h : RefS w0 w b gb wv sv t f) (h8 : t.g.length = 8) (hx8 : x < 8) (d : Int) (hd : t.reg x = d) (hbad : d < 0 ∨ lps ≤ d) :
    Calls Try.prog 129 #[.pointer (some ⟨b, 0, none⟩), .agg #[.int .i64 12, .int .i64 x, .int .i64 y, .int .i64 z], .int .i64 lps] w fun e w' => e = .returned (.int .i64 6) ∧ RefS w0 w' b gb wv sv t f := by
  have hXB := Blk.new w 142 #[.int .i64 12, .int .i64 x, .int .i64 y, .int .i64 z]
  have H := hide (h.alloc (.cells #[.int .i64 12, .int .i64 x, .int .i64 y, .int .i64 z] 142))
  have H8 := hide h8
  have HB := hide hXB
  clear h h8 hXB
  go_enter Try.func129, Try.ntmps129
  go_upto_region 1 with fail
  generalize w.alloc _ = w4 at *
  generalize w.heap.size = bx at *
  have b1 := HB.out.cell 1
  simp only [List.getElem?_toArray, List.getElem?_cons_zero, List.getElem?_cons_succ] at b1
  have c0 := H.out.cells.1
  have xI0 : (0 : Int) ≤ (x : Int) := by omega
  have xI1 : (x : Int) < 8 := by omega
  have cx := H.out.regC H8.out hx8
  rw [hd] at cx
  go_quiet (fail)
  replace H := hide (H.out.drewN nq)
  replace HB := hide (HB.out.drewN nq)
  clear b1 c0 cx
  generalize w4.drewN nq = w5 at *
  clear nq
  rcases hbad with hb | hb
  · have d0 : decide (d < 0) = true := decide_eq_true hb
    go_wp2_with fail
    go_ret
    exact ⟨rfl, H.out⟩
  · by_cases h0 : d < 0
    · have d0 : decide (d < 0) = true := decide_eq_true h0
      go_wp2_with fail
      go_ret
      exact ⟨rfl, H.out⟩
    · have d0 : decide (d < 0) = false := decide_eq_false h0
      have d1 : decide (lps ≤ d) = true := decide_eq_true hb
      go_wp2_with fail
      go_ret
      exact ⟨rfl, H.out⟩
set_option maxHeartbeats 2000000 in
theorem sends_full (w0 w : World) (b gb x y z : Nat) (n c : Nat) (A : Option Addr) (wv : Value) (t : VS) (f lps : Int) (h : RefS w0 w b gb wv (.slice A n c) t f) (h8 : t.g.length = 8) (hx8 : x < 8) (d : Int) (hd : t.reg x = d) (hok : 0 ≤ d ∧ d < lps) (hn : 4 ≤ n) :
    Calls Try.prog 129 #[.pointer (some ⟨b, 0, none⟩), .agg #[.int .i64 12, .int .i64 x, .int .i64 y, .int .i64 z], .int .i64 lps] w fun e w' => e = .returned (.int .i64 5) ∧ RefS w0 w' b gb wv (.slice A n c) t f := by
  have hXB := Blk.new w 142 #[.int .i64 12, .int .i64 x, .int .i64 y, .int .i64 z]
  have H := hide (h.alloc (.cells #[.int .i64 12, .int .i64 x, .int .i64 y, .int .i64 z] 142))
  have H8 := hide h8
  have HB := hide hXB
  clear h h8 hXB
  go_enter Try.func129, Try.ntmps129
  go_upto_region 1 with fail
  generalize w.alloc _ = w4 at *
  generalize w.heap.size = bx at *
  have b1 := HB.out.cell 1
  simp only [List.getElem?_toArray, List.getElem?_cons_zero, List.getElem?_cons_succ] at b1
  have c0 := H.out.cells.1
  have xI0 : (0 : Int) ≤ (x : Int) := by omega
  have xI1 : (x : Int) < 8 := by omega
  have cx := H.out.regC H8.out hx8
  rw [hd] at cx
  go_quiet (fail)
  replace H := hide (H.out.drewN nq)
  replace HB := hide (HB.out.drewN nq)
  clear b1 c0 cx
  generalize w4.drewN nq = w5 at *
  clear nq
  have d0 : decide (d < 0) = false := decide_eq_false (by omega)
  have d1 : decide (lps ≤ d) = false := decide_eq_false (by omega)
  have c2 := H.out.cells.2.2.1
  have d2 : decide ((4 : Int) ≤ (n : Int)) = true := decide_eq_true (by omega)
  clear hok
  go_wp2_with fail
  go_ret
  exact ⟨rfl, H.out⟩
set_option maxHeartbeats 2000000 in
theorem sends_ok (w0 w : World) (b gb x y z : Nat) (n c : Nat) (A : Option Addr) (wv : Value) (t : VS) (f lps : Int) (h : RefS w0 w b gb wv (.slice A n c) t f) (h8 : t.g.length = 8) (hx8 : x < 8) (hy8 : y < 8) (hz8 : z < 8) (d u v : Int) (hd : t.reg x = d) (hu : t.reg y = u) (hv : t.reg z = v) (hok : 0 ≤ d ∧ d < lps) (hn : n < 4) (hl : t.s.length ≤ 4) :
    Calls Try.prog 129 #[.pointer (some ⟨b, 0, none⟩), .agg #[.int .i64 12, .int .i64 x, .int .i64 y, .int .i64 z], .int .i64 lps] w fun e w' => e = .returned (.int .i64 0) ∧ ∃ A' c', RefS w0 w' b gb wv (.slice A' (t.s.length + 1) c') { t with s := t.s ++ [(d, u, v)] } f := by
  have hXB := Blk.new w 142 #[.int .i64 12, .int .i64 x, .int .i64 y, .int .i64 z]
  have H := hide (h.alloc (.cells #[.int .i64 12, .int .i64 x, .int .i64 y, .int .i64 z] 142))
  have H8 := hide h8
  have HB := hide hXB
  clear h h8 hXB
  go_enter Try.func129, Try.ntmps129
  go_upto_region 1 with fail
  generalize w.alloc _ = w4 at *
  generalize w.heap.size = bx at *
  have b1 := HB.out.cell 1
  simp only [List.getElem?_toArray, List.getElem?_cons_zero, List.getElem?_cons_succ] at b1
  have c0 := H.out.cells.1
  have xI0 : (0 : Int) ≤ (x : Int) := by omega
  have xI1 : (x : Int) < 8 := by omega
  have cx := H.out.regC H8.out hx8
  rw [hd] at cx
  go_quiet (fail)
  replace H := hide (H.out.drewN nq)
  replace HB := hide (HB.out.drewN nq)
  clear b1 c0 cx
  generalize w4.drewN nq = w5 at *
  clear nq
  have d0 : decide (d < 0) = false := decide_eq_false (by omega)
  have d1 : decide (lps ≤ d) = false := decide_eq_false (by omega)
  have c2 := H.out.cells.2.2.1
  have d2 : decide ((4 : Int) ≤ (n : Int)) = false := decide_eq_false (by omega)
  go_upto_region 6 with fail
  clear hok d0 d1 d2
  obtain ⟨sA, sc, w7, hrun, a2, f2, hS⟩ := H.out.drew.send hl (d, u, v) 113
  have HS := hide hS
  have yI0 : (0 : Int) ≤ (y : Int) := by omega
  have yI1 : (y : Int) < 8 := by omega
  have zI0 : (0 : Int) ≤ (z : Int) := by omega
  have zI1 : (z : Int) < 8 := by omega
  have c0 := H.out.cells.1
  have b2 := HB.out.cell 2
  have b3 := HB.out.cell 3
  have cy := H.out.regC H8.out hy8
  have cz := H.out.regC H8.out hz8
  rw [hu] at cy
  rw [hv] at cz
  simp only [List.getElem?_toArray, List.getElem?_cons_zero, List.getElem?_cons_succ] at b2 b3
  have CD := hide (fun o => (show ∀ v pp, w5.cell? pp = some v → (w5.drew.alloc o).cell? pp = some v from fun v pp h => (World.cell?_alloc_lt w5.drew o _ (cell_lt h)).trans h))
  replace CD := hide (fun o => And.intro (CD.out o _ _ c0) (And.intro (CD.out o _ _ c2) (And.intro (CD.out o _ _ b2) (And.intro (CD.out o _ _ b3) (And.intro (CD.out o _ _ cy) (CD.out o _ _ cz))))))
  clear hS hu hv hl hn
  refine wp_region_reads (fun w' => w'.cell? ⟨b, 0, none⟩ = some (.slice (some ⟨gb, 0, none⟩) 8 8) ∧ w'.cell? ⟨b, 2, none⟩ = some (.slice A n c) ∧ w'.cell? ⟨bx, 2, none⟩ = some (.int .i64 y) ∧ w'.cell? ⟨bx, 3, none⟩ = some (.int .i64 z) ∧ w'.cell? ⟨gb, y, none⟩ = some (.int .i64 u) ∧ w'.cell? ⟨gb, z, none⟩ = some (.int .i64 v))
    (.pointer (some ⟨b, 0, none⟩)) 22 1 (by kernel_rfl) (by kernel_rfl) (Or.inl ⟨by rfl, fun w => by rfl⟩) (fun _ _ _ h => h) ⟨c0, c2, b2, b3, cy, cz⟩ ?_
  simp only [Act.put, List.setIfInBounds_toArray, List.set_cons_zero, List.set_cons_succ, List.take_succ_cons, List.take_zero, List.drop_succ_cons, List.drop_zero]
  repeat (refine head_step ?_ (by rfl) ?_ (fun _ _ _ h => h) ?_; rotate_left; (intro w' hs; obtain ⟨zc0, zc2, zb2, zb3, zcy, zcz⟩ := hs; go_simp; (try with_reducible rfl)); (try simp only [Act.put, List.setIfInBounds_toArray, List.set_cons_zero, List.set_cons_succ]))
  refine head_nil ?_
  clear c0 c2 b2 b3 cy cz
  refine mid_step _ (w5.drew.alloc (.cells #[.int .i64 d, .int .i64 u, .int .i64 v] 130)) (by rfl) (by go_simp; rfl) (CD.out _) ?_
  refine mid_nil ?_
  simp only [Act.put, List.setIfInBounds_toArray, List.set_cons_zero, List.set_cons_succ]
  clear CD
  go_wp2_with (at_builtin; refine wpList_of_append rfl _ w7 (.tmp 33) (.tmp 52) 113 _ _ _ rfl rfl rfl hrun ?_)
  go_ret
  exact ⟨rfl, _, _, HS.out⟩
set_option maxHeartbeats 1000000 in
theorem one_send (w0 w : World) (b gb : Nat) (x y z n c : Nat) (A : Option Addr) (hx8 : x < 8) (wv : Value) (t : VS) (f : Int) (i : Inp) (h : RefS w0 w b gb wv (.slice A n c) t f) (h8 : t.g.length = 8) (hy8 : y < 8) (hz8 : z < 8) (d u v : Int) (hd : t.reg x = d) (hu : t.reg y = u) (hv : t.reg z = v) (hok : 0 ≤ d ∧ d < i.lps) (hn : n < 4) (hl : t.s.length ≤ 4) :
    Calls Try.prog 118 #[.pointer (some ⟨b, 0, none⟩), .agg #[.int .i64 12, .int .i64 x, .int .i64 y, .int .i64 z], i.val] w fun e w' => e = .returned (.int .i64 0) ∧ ∃ A' c', RefS w0 w' b gb wv (.slice A' (t.s.length + 1) c') { t with s := t.s ++ [(d, u, v)] } f := by
  have hXB := (Blk.new w 142 #[.int .i64 12, .int .i64 x, .int .i64 y, .int .i64 z]).alloc (.cells i.cells 112)
  have hIB := Blk.new (w.alloc (.cells #[.int .i64 12, .int .i64 x, .int .i64 y, .int .i64 z] 142)) 112 i.cells
  have hz : (w.alloc (.cells #[.int .i64 12, .int .i64 x, .int .i64 y, .int .i64 z] 142)).heap.size = w.heap.size + 1 := Array.size_push ..
  rw [hz] at hIB
  clear hz
  have H := hide ((h.alloc (.cells #[.int .i64 12, .int .i64 x, .int .i64 y, .int .i64 z] 142)).alloc (.cells i.cells 112))
  have H8 := hide h8
  have HB := hide hXB
  have HI := hide hIB
  clear h h8 hXB hIB
  unfold Inp.val
  unfold Inp.cells Sl.val at *
  go_enter Try.func118, Try.ntmps118
  go_upto_region 1 with fail
  generalize (w.alloc _).alloc _ = w4 at *
  generalize w.heap.size + 1 = ix at *
  generalize w.heap.size = bx at *
  have b0 := HB.out.cell 0
  have b1 := HB.out.cell 1
  have b2 := HB.out.cell 2
  have b3 := HB.out.cell 3
  have i2 := HI.out.cell 2
  have i3 := HI.out.cell 3
  have i4 := HI.out.cell 4
  simp only [List.getElem?_toArray, List.getElem?_cons_zero, List.getElem?_cons_succ] at b0 b1 b2 b3 i2 i3 i4
  have c0 := H.out.cells.1
  have SO := hide (sends_ok w0 w4 b gb x y z n c A wv t f i.lps H.out H8.out hx8 hy8 hz8 d u v hd hu hv hok hn hl)
  clear hd hu hv hok hn hl
  go_wp2_with fail
  refine SO.out.mono ?_
  rintro e w5 ⟨rfl, A1, c1, h1⟩
  go_wp2_with fail
  go_ret
  exact ⟨rfl, A1, c1, h1⟩
set_option maxHeartbeats 1000000 in
theorem one_nodst (w0 w : World) (b gb : Nat) (x y z : Nat) (hx8 : x < 8) (wv sv : Value) (t : VS) (f : Int) (i : Inp) (h : RefS w0 w b gb wv sv t f) (h8 : t.g.length = 8) (d : Int) (hd : t.reg x = d) (hbad : d < 0 ∨ i.lps ≤ d) :
    Calls Try.prog 118 #[.pointer (some ⟨b, 0, none⟩), .agg #[.int .i64 12, .int .i64 x, .int .i64 y, .int .i64 z], i.val] w fun e w' => e = .returned (.int .i64 6) ∧ RefS w0 w' b gb wv sv t f := by
  have hXB := (Blk.new w 142 #[.int .i64 12, .int .i64 x, .int .i64 y, .int .i64 z]).alloc (.cells i.cells 112)
  have hIB := Blk.new (w.alloc (.cells #[.int .i64 12, .int .i64 x, .int .i64 y, .int .i64 z] 142)) 112 i.cells
  have hz : (w.alloc (.cells #[.int .i64 12, .int .i64 x, .int .i64 y, .int .i64 z] 142)).heap.size = w.heap.size + 1 := Array.size_push ..
  rw [hz] at hIB
  clear hz
  have H := hide ((h.alloc (.cells #[.int .i64 12, .int .i64 x, .int .i64 y, .int .i64 z] 142)).alloc (.cells i.cells 112))
  have H8 := hide h8
  have HB := hide hXB
  have HI := hide hIB
  clear h h8 hXB hIB
  unfold Inp.val
  unfold Inp.cells Sl.val at *
  go_enter Try.func118, Try.ntmps118
  go_upto_region 1 with fail
  generalize (w.alloc _).alloc _ = w4 at *
  generalize w.heap.size + 1 = ix at *
  generalize w.heap.size = bx at *
  have b0 := HB.out.cell 0
  have b1 := HB.out.cell 1
  have b2 := HB.out.cell 2
  have b3 := HB.out.cell 3
  have i2 := HI.out.cell 2
  have i3 := HI.out.cell 3
  have i4 := HI.out.cell 4
  simp only [List.getElem?_toArray, List.getElem?_cons_zero, List.getElem?_cons_succ] at b0 b1 b2 b3 i2 i3 i4
  have c0 := H.out.cells.1
  have SO := hide (sends_dst w0 w4 b gb x y z wv sv t f i.lps H.out H8.out hx8 d hd hbad)
  clear hd hbad
  go_wp2_with fail
  refine SO.out.mono ?_
  rintro e w5 ⟨rfl, h1⟩
  go_wp2_with fail
  go_ret
  exact ⟨rfl, h1⟩
set_option maxHeartbeats 1000000 in
theorem one_full (w0 w : World) (b gb : Nat) (x y z n c : Nat) (A : Option Addr) (hx8 : x < 8) (wv : Value) (t : VS) (f : Int) (i : Inp) (h : RefS w0 w b gb wv (.slice A n c) t f) (h8 : t.g.length = 8) (d : Int) (hd : t.reg x = d) (hok : 0 ≤ d ∧ d < i.lps) (hn : 4 ≤ n) :
    Calls Try.prog 118 #[.pointer (some ⟨b, 0, none⟩), .agg #[.int .i64 12, .int .i64 x, .int .i64 y, .int .i64 z], i.val] w fun e w' => e = .returned (.int .i64 5) ∧ RefS w0 w' b gb wv (.slice A n c) t f := by
  have hXB := (Blk.new w 142 #[.int .i64 12, .int .i64 x, .int .i64 y, .int .i64 z]).alloc (.cells i.cells 112)
  have hIB := Blk.new (w.alloc (.cells #[.int .i64 12, .int .i64 x, .int .i64 y, .int .i64 z] 142)) 112 i.cells
  have hz : (w.alloc (.cells #[.int .i64 12, .int .i64 x, .int .i64 y, .int .i64 z] 142)).heap.size = w.heap.size + 1 := Array.size_push ..
  rw [hz] at hIB
  clear hz
  have H := hide ((h.alloc (.cells #[.int .i64 12, .int .i64 x, .int .i64 y, .int .i64 z] 142)).alloc (.cells i.cells 112))
  have H8 := hide h8
  have HB := hide hXB
  have HI := hide hIB
  clear h h8 hXB hIB
  unfold Inp.val
  unfold Inp.cells Sl.val at *
  go_enter Try.func118, Try.ntmps118
  go_upto_region 1 with fail
  generalize (w.alloc _).alloc _ = w4 at *
  generalize w.heap.size + 1 = ix at *
  generalize w.heap.size = bx at *
  have b0 := HB.out.cell 0
  have b1 := HB.out.cell 1
  have b2 := HB.out.cell 2
  have b3 := HB.out.cell 3
  have i2 := HI.out.cell 2
  have i3 := HI.out.cell 3
  have i4 := HI.out.cell 4
  simp only [List.getElem?_toArray, List.getElem?_cons_zero, List.getElem?_cons_succ] at b0 b1 b2 b3 i2 i3 i4
  have c0 := H.out.cells.1
  have SO := hide (sends_full w0 w4 b gb x y z n c A wv t f i.lps H.out H8.out hx8 d hd hok hn)
  clear hd hok hn
  go_wp2_with fail
  refine SO.out.mono ?_
  rintro e w5 ⟨rfl, h1⟩
  go_wp2_with fail
  go_ret
  exact ⟨rfl, h1⟩
end Go.Proofs.Ytpfcmfannkbipaa
end
