/- Texts of this claim in one. No condition. -/
import Derived.Test.YtpfcmfannkbipaaJ07
section
set_option linter.unusedVariables false
set_option linter.unusedSimpArgs false
set_option maxRecDepth 20000
namespace Go.Proofs.Ytpfcmfannkbipaa
open Go.RowKit Go.Deep

section
variable {rb : Option Nat} {w0 w : World} {B b db : Nat} {p : Sl Ins4} {pv wv sv : Value} {W lps : Int} {s : VS}
theorem RunS.setN (h : RunS rb w0 w B b db pv wv sv W lps s) (h8 : s.g.length = 8) (a : Nat) : RunS rb w0 (w.setCell ⟨b, 14, none⟩ (.int .i64 a)) B b db pv wv sv W lps { s with n := a } := h.set_ 14 _ _ rfl rfl rfl (rc_n h8 a)
theorem RunS.setAt (h : RunS rb w0 w B b db pv wv sv W lps s) (h8 : s.g.length = 8) (a : Nat) : RunS rb w0 (w.setCell ⟨b, 13, none⟩ (.int .i64 a)) B b db pv wv sv W lps { s with at_ := a } := h.set_ 13 _ _ rfl rfl rfl (rc_at h8 a)
theorem RunS.code (h : RunS rb w0 w B b db pv wv sv W lps s) (hp : p.At InsAt 4 w0) : p.At InsAt 4 w := hp.below InsAt.keeps h.bel
end
theorem step_end (rb : Option Nat) (w0 w : World) (B b db : Nat) (p : Sl Ins4) (wv sv : Value) (W lps : Int) (s : VS) (h : RunS rb w0 w B b db p.val wv sv W lps s) (h8 : s.g.length = 8) (hend : p.L.length ≤ s.at_) :
    Calls Try.prog 116 #[.pointer (some ⟨b, 0, none⟩)] w fun e w' => e = .returned (.bool false) ∧ RunS rb w0 w' B b db p.val wv sv W lps s := by
  obtain ⟨c0, _, _, _, _, c13, _⟩ := h.tails h8
  have H := hide h
  unfold Sl.val at c0
  have d0 : decide (p.L.length ≤ s.at_) = true := decide_eq_true hend
  clear h h8 hend
  go_enter Try.func116, Try.ntmps116
  go_wp2_with fail
  go_quiet (fail)
  go_wp2_with fail
  go_ret
  exact ⟨rfl, H.out.drewN _⟩
theorem step_fuel (rb : Option Nat) (w0 w : World) (B b db : Nat) (p : Sl Ins4) (wv sv : Value) (W lps : Int) (s : VS) (h : RunS rb w0 w B b db p.val wv sv W lps s) (h8 : s.g.length = 8) (hend : s.at_ < p.L.length) (hn : 120 ≤ s.n) :
    Calls Try.prog 116 #[.pointer (some ⟨b, 0, none⟩)] w fun e w' => e = .panicked (faultP 1) ∧ RunS rb w0 w' B b db p.val wv sv W lps s := by
  obtain ⟨c0, _, _, _, _, c13, c14⟩ := h.tails h8
  have H := hide h
  unfold Sl.val at c0
  have d0 : decide (p.L.length ≤ s.at_) = false := decide_eq_false (by omega)
  have d1 : decide ((s.n : Int) < 120) = false := decide_eq_false (by omega)
  clear h h8 hend
  go_enter Try.func116, Try.ntmps116
  go_wp2_with fail
  go_quiet (fail)
  go_wp2_with fail
  refine (need_no _ _).mono ?_
  rintro e w' ⟨rfl, rfl⟩
  exact ⟨rfl, rfl, H.out.drewN _⟩
set_option maxHeartbeats 1000000 in
theorem step_halt (rb : Option Nat) (w0 w : World) (B b db : Nat) (p : Sl Ins4) (wv sv : Value) (W lps : Int) (s : VS) (nw : Nat) (h : RunS rb w0 w B b db p.val wv sv W lps s) (hs : s.Ok p.L.length nw lps) (hp : p.At InsAt 4 w0) (hlen : p.L.length ≤ 1000) (hend : s.at_ < p.L.length) (hn : s.n < 120) (t : VS) (htk : s.tick = t) (xa xb xc : Int) (hx : p.L[s.at_]? = some ((0, xa, xb, xc) : Ins4)) :
    Calls Try.prog 116 #[.pointer (some ⟨b, 0, none⟩)] w fun e w' => e = .returned (.bool false) ∧ RunS rb w0 w' B b db p.val wv sv W lps t := by
  have h8 := hs.g8
  obtain ⟨c0, _, _, _, _, c13, c14⟩ := h.tails h8
  have H := hide h
  have H8 := hide h8
  have HP := hide hp
  have HX := hide hx
  unfold Sl.val at c0
  have d0 : decide (p.L.length ≤ s.at_) = false := decide_eq_false (by omega)
  have d1 : decide ((s.n : Int) < 120) = true := decide_eq_true (by omega)
  clear h h8 hp hx
  go_enter Try.func116, Try.ntmps116
  go_wp2_with fail
  go_quiet (fail)
  replace H := hide (H.out.drewN nq)
  clear c0 c13 c14
  generalize w.drewN nq = w1 at *
  clear nq
  have c14 := (H.out.tails H8.out).2.2.2.2.2.2
  have f14 := H.out.free 14
  go_upto_region 5 with (go_at_call 122; refine (need_ok _ _).mono ?_; rintro e w' ⟨rfl, rfl⟩)
  replace H := hide (H.out.setN H8.out (s.n + 1))
  clear c14 f14 d0 d1
  change Code.wp _ _ _ _ (w1.setCell ⟨b, 14, none⟩ (.int .i64 ((s.n + 1 : Nat) : Int)))
  generalize w1.setCell ⟨b, 14, none⟩ (.int .i64 ((s.n + 1 : Nat) : Int)) = w2 at *
  obtain ⟨ad, hA, q0, q1, q2, q3, _⟩ := (H.out.code HP.out).1 s.at_ _ HX.out
  obtain ⟨c0, _, _, _, _, c13, _⟩ := H.out.tails H8.out
  simp only [Sl.val, hA] at c0
  simp only at q0 q1 q2 q3
  have atI0 : (0 : Int) ≤ (s.at_ : Int) := by omega
  have atI1 : (s.at_ : Int) < (p.L.length : Int) := by omega
  have CD := hide (fun o => (show ∀ v pp, w2.cell? pp = some v → (w2.drew.alloc o).cell? pp = some v from fun v pp h => (World.cell?_alloc_lt w2.drew o _ (cell_lt h)).trans h))
  refine wp_region_reads (fun w' => w'.cell? ⟨b, 0, none⟩ = some (.slice (some ad) p.L.length p.c) ∧ w'.cell? ⟨b, 13, none⟩ = some (.int .i64 s.at_) ∧ w'.cell? (ad.add (s.at_ * 4)) = some (.int .i64 0) ∧ w'.cell? ⟨(ad.add (s.at_ * 4)).block, (ad.add (s.at_ * 4)).off + 1, none⟩ = some (.int .i64 xa) ∧ w'.cell? ⟨(ad.add (s.at_ * 4)).block, (ad.add (s.at_ * 4)).off + 2, none⟩ = some (.int .i64 xb) ∧ w'.cell? ⟨(ad.add (s.at_ * 4)).block, (ad.add (s.at_ * 4)).off + 3, none⟩ = some (.int .i64 xc))
    (.pointer (some ⟨b, 0, none⟩)) 9 1 (by kernel_rfl) (by kernel_rfl) (Or.inl ⟨by rfl, fun w => by rfl⟩) (fun _ _ _ h => h) ⟨c0, c13, q0, q1, q2, q3⟩ ?_
  replace CD := hide (fun o => And.intro (CD.out o _ _ c0) (And.intro (CD.out o _ _ c13) (And.intro (CD.out o _ _ q0) (And.intro (CD.out o _ _ q1) (And.intro (CD.out o _ _ q2) (CD.out o _ _ q3))))))
  clear c0 c13 q0 q1 q2 q3
  simp only [Act.put, List.setIfInBounds_toArray, List.set_cons_zero, List.set_cons_succ, List.take_succ_cons, List.take_zero, List.drop_succ_cons, List.drop_zero]
  repeat (refine head_step ?_ (by rfl) ?_ (fun _ _ _ h => h) ?_; rotate_left; (intro w' hs; obtain ⟨e0, e1, e2, e3, e4, e5⟩ := hs; go_simp; (try with_reducible rfl)); (try simp only [Act.put, List.setIfInBounds_toArray, List.set_cons_zero, List.set_cons_succ]))
  refine head_nil ?_
  refine mid_step _ (w2.drew.alloc (.cells #[.int .i64 0, .int .i64 0, .int .i64 0, .int .i64 0] 142)) (by rfl) (by go_simp; rfl) (CD.out _) ?_
  refine mid_nil ?_
  simp only [Act.put, List.setIfInBounds_toArray, List.set_cons_zero, List.set_cons_succ]
  clear CD
  go_upto_region 6 with fail
  have hBX := (Blk.new w2 142 #[.int .i64 0, .int .i64 xa, .int .i64 xb, .int .i64 xc]).drew
  have hbb := H.out.blk.lt
  replace H := hide (H.out.alloc (.cells #[.int .i64 0, .int .i64 xa, .int .i64 xb, .int .i64 xc] 142)).drew
  generalize (w2.alloc (.cells #[.int .i64 0, .int .i64 xa, .int .i64 xb, .int .i64 xc] 142)).drew = w3 at *
  generalize w2.heap.size = bx at *
  have c13 := (H.out.tails H8.out).2.2.2.2.2.1
  have f13 := H.out.free 13
  have HB := hide hBX
  clear hBX
  go_upto_region 7 with fail
  replace H := hide (H.out.setAt H8.out (s.at_ + 1))
  replace HB := hide (HB.out.far (p := ⟨b, 13, none⟩) (by simp only; omega) (.int .i64 ((s.at_ + 1 : Nat) : Int)))
  clear c13 f13
  change Code.wp _ _ _ _ (w3.setCell ⟨b, 13, none⟩ (.int .i64 ((s.at_ + 1 : Nat) : Int)))
  generalize w3.setCell ⟨b, 13, none⟩ (.int .i64 ((s.at_ + 1 : Nat) : Int)) = w4 at *
  clear HP HX hA atI0 atI1 hbb
  have ht := hs.tick hend
  replace H : Hid (RunS rb w0 w4 B b db p.val wv sv W lps s.tick) := H
  rw [htk] at H ht
  clear hs hend hn hlen htk
  replace H8 := hide ht.g8
  have b0 := HB.out.cell 0
  have b1 := HB.out.cell 1
  have b2 := HB.out.cell 2
  have b3 := HB.out.cell 3
  simp only [List.getElem?_toArray, List.getElem?_cons_zero, List.getElem?_cons_succ] at b0 b1 b2 b3
  go_wp2_with fail
  go_ret
  exact ⟨rfl, H.out⟩
set_option maxHeartbeats 1000000 in
theorem step_set (rb : Option Nat) (w0 w : World) (B b db : Nat) (p : Sl Ins4) (wv sv : Value) (W lps : Int) (s : VS) (nw : Nat) (h : RunS rb w0 w B b db p.val wv sv W lps s) (hs : s.Ok p.L.length nw lps) (hp : p.At InsAt 4 w0) (hlen : p.L.length ≤ 1000) (hend : s.at_ < p.L.length) (hn : s.n < 120) (t : VS) (htk : s.tick = t) (x : Nat) (hx8 : x < 8) (v xc : Int) (hx : p.L[s.at_]? = some ((1, (x : Int), v, xc) : Ins4)) :
    Calls Try.prog 116 #[.pointer (some ⟨b, 0, none⟩)] w fun e w' => e = .returned (.bool true) ∧ RunS rb w0 w' B b db p.val wv sv W lps (t.put x v) := by
  have h8 := hs.g8
  obtain ⟨c0, _, _, _, _, c13, c14⟩ := h.tails h8
  have H := hide h
  have H8 := hide h8
  have HP := hide hp
  have HX := hide hx
  unfold Sl.val at c0
  have d0 : decide (p.L.length ≤ s.at_) = false := decide_eq_false (by omega)
  have d1 : decide ((s.n : Int) < 120) = true := decide_eq_true (by omega)
  clear h h8 hp hx
  go_enter Try.func116, Try.ntmps116
  go_wp2_with fail
  go_quiet (fail)
  replace H := hide (H.out.drewN nq)
  clear c0 c13 c14
  generalize w.drewN nq = w1 at *
  clear nq
  have c14 := (H.out.tails H8.out).2.2.2.2.2.2
  have f14 := H.out.free 14
  go_upto_region 5 with (go_at_call 122; refine (need_ok _ _).mono ?_; rintro e w' ⟨rfl, rfl⟩)
  replace H := hide (H.out.setN H8.out (s.n + 1))
  clear c14 f14 d0 d1
  change Code.wp _ _ _ _ (w1.setCell ⟨b, 14, none⟩ (.int .i64 ((s.n + 1 : Nat) : Int)))
  generalize w1.setCell ⟨b, 14, none⟩ (.int .i64 ((s.n + 1 : Nat) : Int)) = w2 at *
  obtain ⟨ad, hA, q0, q1, q2, q3, _⟩ := (H.out.code HP.out).1 s.at_ _ HX.out
  obtain ⟨c0, _, _, _, _, c13, _⟩ := H.out.tails H8.out
  simp only [Sl.val, hA] at c0
  simp only at q0 q1 q2 q3
  have atI0 : (0 : Int) ≤ (s.at_ : Int) := by omega
  have atI1 : (s.at_ : Int) < (p.L.length : Int) := by omega
  have CD := hide (fun o => (show ∀ v pp, w2.cell? pp = some v → (w2.drew.alloc o).cell? pp = some v from fun v pp h => (World.cell?_alloc_lt w2.drew o _ (cell_lt h)).trans h))
  refine wp_region_reads (fun w' => w'.cell? ⟨b, 0, none⟩ = some (.slice (some ad) p.L.length p.c) ∧ w'.cell? ⟨b, 13, none⟩ = some (.int .i64 s.at_) ∧ w'.cell? (ad.add (s.at_ * 4)) = some (.int .i64 1) ∧ w'.cell? ⟨(ad.add (s.at_ * 4)).block, (ad.add (s.at_ * 4)).off + 1, none⟩ = some (.int .i64 (x : Int)) ∧ w'.cell? ⟨(ad.add (s.at_ * 4)).block, (ad.add (s.at_ * 4)).off + 2, none⟩ = some (.int .i64 v) ∧ w'.cell? ⟨(ad.add (s.at_ * 4)).block, (ad.add (s.at_ * 4)).off + 3, none⟩ = some (.int .i64 xc))
    (.pointer (some ⟨b, 0, none⟩)) 9 1 (by kernel_rfl) (by kernel_rfl) (Or.inl ⟨by rfl, fun w => by rfl⟩) (fun _ _ _ h => h) ⟨c0, c13, q0, q1, q2, q3⟩ ?_
  replace CD := hide (fun o => And.intro (CD.out o _ _ c0) (And.intro (CD.out o _ _ c13) (And.intro (CD.out o _ _ q0) (And.intro (CD.out o _ _ q1) (And.intro (CD.out o _ _ q2) (CD.out o _ _ q3))))))
  clear c0 c13 q0 q1 q2 q3
  simp only [Act.put, List.setIfInBounds_toArray, List.set_cons_zero, List.set_cons_succ, List.take_succ_cons, List.take_zero, List.drop_succ_cons, List.drop_zero]
  repeat (refine head_step ?_ (by rfl) ?_ (fun _ _ _ h => h) ?_; rotate_left; (intro w' hs; obtain ⟨e0, e1, e2, e3, e4, e5⟩ := hs; go_simp; (try with_reducible rfl)); (try simp only [Act.put, List.setIfInBounds_toArray, List.set_cons_zero, List.set_cons_succ]))
  refine head_nil ?_
  refine mid_step _ (w2.drew.alloc (.cells #[.int .i64 0, .int .i64 0, .int .i64 0, .int .i64 0] 142)) (by rfl) (by go_simp; rfl) (CD.out _) ?_
  refine mid_nil ?_
  simp only [Act.put, List.setIfInBounds_toArray, List.set_cons_zero, List.set_cons_succ]
  clear CD
  go_upto_region 6 with fail
  have hBX := (Blk.new w2 142 #[.int .i64 1, .int .i64 (x : Int), .int .i64 v, .int .i64 xc]).drew
  have hbb := H.out.blk.lt
  replace H := hide (H.out.alloc (.cells #[.int .i64 1, .int .i64 (x : Int), .int .i64 v, .int .i64 xc] 142)).drew
  generalize (w2.alloc (.cells #[.int .i64 1, .int .i64 (x : Int), .int .i64 v, .int .i64 xc] 142)).drew = w3 at *
  generalize w2.heap.size = bx at *
  have c13 := (H.out.tails H8.out).2.2.2.2.2.1
  have f13 := H.out.free 13
  have HB := hide hBX
  clear hBX
  go_upto_region 7 with fail
  replace H := hide (H.out.setAt H8.out (s.at_ + 1))
  replace HB := hide (HB.out.far (p := ⟨b, 13, none⟩) (by simp only; omega) (.int .i64 ((s.at_ + 1 : Nat) : Int)))
  clear c13 f13
  change Code.wp _ _ _ _ (w3.setCell ⟨b, 13, none⟩ (.int .i64 ((s.at_ + 1 : Nat) : Int)))
  generalize w3.setCell ⟨b, 13, none⟩ (.int .i64 ((s.at_ + 1 : Nat) : Int)) = w4 at *
  clear HP HX hA atI0 atI1 hbb
  have ht := hs.tick hend
  replace H : Hid (RunS rb w0 w4 B b db p.val wv sv W lps s.tick) := H
  rw [htk] at H ht
  clear hs hend hn hlen htk
  replace H8 := hide ht.g8
  have b0 := HB.out.cell 0
  have b1 := HB.out.cell 1
  have b2 := HB.out.cell 2
  have b3 := HB.out.cell 3
  simp only [List.getElem?_toArray, List.getElem?_cons_zero, List.getElem?_cons_succ] at b0 b1 b2 b3
  have xI0 : (0 : Int) ≤ (x : Int) := by omega
  have xI1 : (x : Int) < 8 := by omega
  have cx := H.out.drew.regC H8.out hx8
  have fx := H.out.drew.free (1 + x)
  go_upto_region 12 with fail
  refine wp_region_reads (fun w' => w'.cell? ⟨bx, 1, none⟩ = some (.int .i64 x) ∧ w'.cell? ⟨bx, 2, none⟩ = some (.int .i64 v))
    (.pointer (some ⟨b, 0, none⟩)) 7 0 (by kernel_rfl) (by kernel_rfl) (Or.inl ⟨by rfl, fun w => by rfl⟩) (fun _ _ _ h => h) ⟨b1, b2⟩ ?_
  simp only [Act.put, List.setIfInBounds_toArray, List.set_cons_zero, List.set_cons_succ, List.take_succ_cons, List.take_zero, List.drop_succ_cons, List.drop_zero]
  repeat (refine head_step ?_ (by rfl) ?_ (fun _ _ _ h => h) ?_; rotate_left; (intro w' hs; obtain ⟨zb1, zb2⟩ := hs; go_simp; (try with_reducible rfl)); (try simp only [Act.put, List.setIfInBounds_toArray, List.set_cons_zero, List.set_cons_succ]))
  refine head_nil ?_
  refine mid_nil ?_
  try simp only [Act.put, List.setIfInBounds_toArray, List.set_cons_zero, List.set_cons_succ]
  clear b0 b1 b2 b3
  go_wp2_with fail
  go_ret
  exact ⟨rfl, H.out.drew.put H8.out hx8 v⟩
set_option maxHeartbeats 1000000 in
theorem step_move (rb : Option Nat) (w0 w : World) (B b db : Nat) (p : Sl Ins4) (wv sv : Value) (W lps : Int) (s : VS) (nw : Nat) (h : RunS rb w0 w B b db p.val wv sv W lps s) (hs : s.Ok p.L.length nw lps) (hp : p.At InsAt 4 w0) (hlen : p.L.length ≤ 1000) (hend : s.at_ < p.L.length) (hn : s.n < 120) (t : VS) (htk : s.tick = t) (x y : Nat) (hx8 : x < 8) (hy8 : y < 8) (xc v : Int) (hv : t.reg y = v) (hx : p.L[s.at_]? = some ((2, (x : Int), (y : Int), xc) : Ins4)) :
    Calls Try.prog 116 #[.pointer (some ⟨b, 0, none⟩)] w fun e w' => e = .returned (.bool true) ∧ RunS rb w0 w' B b db p.val wv sv W lps (t.put x v) := by
  have h8 := hs.g8
  obtain ⟨c0, _, _, _, _, c13, c14⟩ := h.tails h8
  have H := hide h
  have H8 := hide h8
  have HP := hide hp
  have HX := hide hx
  unfold Sl.val at c0
  have d0 : decide (p.L.length ≤ s.at_) = false := decide_eq_false (by omega)
  have d1 : decide ((s.n : Int) < 120) = true := decide_eq_true (by omega)
  clear h h8 hp hx
  go_enter Try.func116, Try.ntmps116
  go_wp2_with fail
  go_quiet (fail)
  replace H := hide (H.out.drewN nq)
  clear c0 c13 c14
  generalize w.drewN nq = w1 at *
  clear nq
  have c14 := (H.out.tails H8.out).2.2.2.2.2.2
  have f14 := H.out.free 14
  go_upto_region 5 with (go_at_call 122; refine (need_ok _ _).mono ?_; rintro e w' ⟨rfl, rfl⟩)
  replace H := hide (H.out.setN H8.out (s.n + 1))
  clear c14 f14 d0 d1
  change Code.wp _ _ _ _ (w1.setCell ⟨b, 14, none⟩ (.int .i64 ((s.n + 1 : Nat) : Int)))
  generalize w1.setCell ⟨b, 14, none⟩ (.int .i64 ((s.n + 1 : Nat) : Int)) = w2 at *
  obtain ⟨ad, hA, q0, q1, q2, q3, _⟩ := (H.out.code HP.out).1 s.at_ _ HX.out
  obtain ⟨c0, _, _, _, _, c13, _⟩ := H.out.tails H8.out
  simp only [Sl.val, hA] at c0
  simp only at q0 q1 q2 q3
  have atI0 : (0 : Int) ≤ (s.at_ : Int) := by omega
  have atI1 : (s.at_ : Int) < (p.L.length : Int) := by omega
  have CD := hide (fun o => (show ∀ v pp, w2.cell? pp = some v → (w2.drew.alloc o).cell? pp = some v from fun v pp h => (World.cell?_alloc_lt w2.drew o _ (cell_lt h)).trans h))
  refine wp_region_reads (fun w' => w'.cell? ⟨b, 0, none⟩ = some (.slice (some ad) p.L.length p.c) ∧ w'.cell? ⟨b, 13, none⟩ = some (.int .i64 s.at_) ∧ w'.cell? (ad.add (s.at_ * 4)) = some (.int .i64 2) ∧ w'.cell? ⟨(ad.add (s.at_ * 4)).block, (ad.add (s.at_ * 4)).off + 1, none⟩ = some (.int .i64 (x : Int)) ∧ w'.cell? ⟨(ad.add (s.at_ * 4)).block, (ad.add (s.at_ * 4)).off + 2, none⟩ = some (.int .i64 (y : Int)) ∧ w'.cell? ⟨(ad.add (s.at_ * 4)).block, (ad.add (s.at_ * 4)).off + 3, none⟩ = some (.int .i64 xc))
    (.pointer (some ⟨b, 0, none⟩)) 9 1 (by kernel_rfl) (by kernel_rfl) (Or.inl ⟨by rfl, fun w => by rfl⟩) (fun _ _ _ h => h) ⟨c0, c13, q0, q1, q2, q3⟩ ?_
  replace CD := hide (fun o => And.intro (CD.out o _ _ c0) (And.intro (CD.out o _ _ c13) (And.intro (CD.out o _ _ q0) (And.intro (CD.out o _ _ q1) (And.intro (CD.out o _ _ q2) (CD.out o _ _ q3))))))
  clear c0 c13 q0 q1 q2 q3
  simp only [Act.put, List.setIfInBounds_toArray, List.set_cons_zero, List.set_cons_succ, List.take_succ_cons, List.take_zero, List.drop_succ_cons, List.drop_zero]
  repeat (refine head_step ?_ (by rfl) ?_ (fun _ _ _ h => h) ?_; rotate_left; (intro w' hs; obtain ⟨e0, e1, e2, e3, e4, e5⟩ := hs; go_simp; (try with_reducible rfl)); (try simp only [Act.put, List.setIfInBounds_toArray, List.set_cons_zero, List.set_cons_succ]))
  refine head_nil ?_
  refine mid_step _ (w2.drew.alloc (.cells #[.int .i64 0, .int .i64 0, .int .i64 0, .int .i64 0] 142)) (by rfl) (by go_simp; rfl) (CD.out _) ?_
  refine mid_nil ?_
  simp only [Act.put, List.setIfInBounds_toArray, List.set_cons_zero, List.set_cons_succ]
  clear CD
  go_upto_region 6 with fail
  have hBX := (Blk.new w2 142 #[.int .i64 2, .int .i64 (x : Int), .int .i64 (y : Int), .int .i64 xc]).drew
  have hbb := H.out.blk.lt
  replace H := hide (H.out.alloc (.cells #[.int .i64 2, .int .i64 (x : Int), .int .i64 (y : Int), .int .i64 xc] 142)).drew
  generalize (w2.alloc (.cells #[.int .i64 2, .int .i64 (x : Int), .int .i64 (y : Int), .int .i64 xc] 142)).drew = w3 at *
  generalize w2.heap.size = bx at *
  have c13 := (H.out.tails H8.out).2.2.2.2.2.1
  have f13 := H.out.free 13
  have HB := hide hBX
  clear hBX
  go_upto_region 7 with fail
  replace H := hide (H.out.setAt H8.out (s.at_ + 1))
  replace HB := hide (HB.out.far (p := ⟨b, 13, none⟩) (by simp only; omega) (.int .i64 ((s.at_ + 1 : Nat) : Int)))
  clear c13 f13
  change Code.wp _ _ _ _ (w3.setCell ⟨b, 13, none⟩ (.int .i64 ((s.at_ + 1 : Nat) : Int)))
  generalize w3.setCell ⟨b, 13, none⟩ (.int .i64 ((s.at_ + 1 : Nat) : Int)) = w4 at *
  clear HP HX hA atI0 atI1 hbb
  have ht := hs.tick hend
  replace H : Hid (RunS rb w0 w4 B b db p.val wv sv W lps s.tick) := H
  rw [htk] at H ht
  clear hs hend hn hlen htk
  replace H8 := hide ht.g8
  have b0 := HB.out.cell 0
  have b1 := HB.out.cell 1
  have b2 := HB.out.cell 2
  have b3 := HB.out.cell 3
  simp only [List.getElem?_toArray, List.getElem?_cons_zero, List.getElem?_cons_succ] at b0 b1 b2 b3
  have xI0 : (0 : Int) ≤ (x : Int) := by omega
  have xI1 : (x : Int) < 8 := by omega
  have yI0 : (0 : Int) ≤ (y : Int) := by omega
  have yI1 : (y : Int) < 8 := by omega
  have cy := H.out.regC H8.out hy8
  rw [hv] at cy
  have cx := H.out.drew.regC H8.out hx8
  have fx := H.out.drew.free (1 + x)
  go_upto_region 14 with fail
  refine wp_region_reads (fun w' => w'.cell? ⟨bx, 1, none⟩ = some (.int .i64 x) ∧ w'.cell? ⟨bx, 2, none⟩ = some (.int .i64 y) ∧ w'.cell? ⟨b, 1 + y, none⟩ = some (.int .i64 v))
    (.pointer (some ⟨b, 0, none⟩)) 12 0 (by kernel_rfl) (by kernel_rfl) (Or.inl ⟨by rfl, fun w => by rfl⟩) (fun _ _ _ h => h) ⟨b1, b2, cy⟩ ?_
  simp only [Act.put, List.setIfInBounds_toArray, List.set_cons_zero, List.set_cons_succ, List.take_succ_cons, List.take_zero, List.drop_succ_cons, List.drop_zero]
  repeat (refine head_step ?_ (by rfl) ?_ (fun _ _ _ h => h) ?_; rotate_left; (intro w' hs; obtain ⟨zb1, zb2, zcy⟩ := hs; go_simp; (try with_reducible rfl)); (try simp only [Act.put, List.setIfInBounds_toArray, List.set_cons_zero, List.set_cons_succ]))
  refine head_nil ?_
  refine mid_nil ?_
  try simp only [Act.put, List.setIfInBounds_toArray, List.set_cons_zero, List.set_cons_succ]
  clear b0 b1 b2 b3
  go_wp2_with fail
  go_ret
  exact ⟨rfl, H.out.drew.put H8.out hx8 v⟩
set_option maxHeartbeats 1000000 in
theorem step_jump (rb : Option Nat) (w0 w : World) (B b db : Nat) (p : Sl Ins4) (wv sv : Value) (W lps : Int) (s : VS) (nw : Nat) (h : RunS rb w0 w B b db p.val wv sv W lps s) (hs : s.Ok p.L.length nw lps) (hp : p.At InsAt 4 w0) (hlen : p.L.length ≤ 1000) (hend : s.at_ < p.L.length) (hn : s.n < 120) (t : VS) (htk : s.tick = t) (x : Nat) (xb xc : Int) (hx : p.L[s.at_]? = some ((9, (x : Int), xb, xc) : Ins4)) :
    Calls Try.prog 116 #[.pointer (some ⟨b, 0, none⟩)] w fun e w' => e = .returned (.bool true) ∧ RunS rb w0 w' B b db p.val wv sv W lps { t with at_ := x } := by
  have h8 := hs.g8
  obtain ⟨c0, _, _, _, _, c13, c14⟩ := h.tails h8
  have H := hide h
  have H8 := hide h8
  have HP := hide hp
  have HX := hide hx
  unfold Sl.val at c0
  have d0 : decide (p.L.length ≤ s.at_) = false := decide_eq_false (by omega)
  have d1 : decide ((s.n : Int) < 120) = true := decide_eq_true (by omega)
  clear h h8 hp hx
  go_enter Try.func116, Try.ntmps116
  go_wp2_with fail
  go_quiet (fail)
  replace H := hide (H.out.drewN nq)
  clear c0 c13 c14
  generalize w.drewN nq = w1 at *
  clear nq
  have c14 := (H.out.tails H8.out).2.2.2.2.2.2
  have f14 := H.out.free 14
  go_upto_region 5 with (go_at_call 122; refine (need_ok _ _).mono ?_; rintro e w' ⟨rfl, rfl⟩)
  replace H := hide (H.out.setN H8.out (s.n + 1))
  clear c14 f14 d0 d1
  change Code.wp _ _ _ _ (w1.setCell ⟨b, 14, none⟩ (.int .i64 ((s.n + 1 : Nat) : Int)))
  generalize w1.setCell ⟨b, 14, none⟩ (.int .i64 ((s.n + 1 : Nat) : Int)) = w2 at *
  obtain ⟨ad, hA, q0, q1, q2, q3, _⟩ := (H.out.code HP.out).1 s.at_ _ HX.out
  obtain ⟨c0, _, _, _, _, c13, _⟩ := H.out.tails H8.out
  simp only [Sl.val, hA] at c0
  simp only at q0 q1 q2 q3
  have atI0 : (0 : Int) ≤ (s.at_ : Int) := by omega
  have atI1 : (s.at_ : Int) < (p.L.length : Int) := by omega
  have CD := hide (fun o => (show ∀ v pp, w2.cell? pp = some v → (w2.drew.alloc o).cell? pp = some v from fun v pp h => (World.cell?_alloc_lt w2.drew o _ (cell_lt h)).trans h))
  refine wp_region_reads (fun w' => w'.cell? ⟨b, 0, none⟩ = some (.slice (some ad) p.L.length p.c) ∧ w'.cell? ⟨b, 13, none⟩ = some (.int .i64 s.at_) ∧ w'.cell? (ad.add (s.at_ * 4)) = some (.int .i64 9) ∧ w'.cell? ⟨(ad.add (s.at_ * 4)).block, (ad.add (s.at_ * 4)).off + 1, none⟩ = some (.int .i64 (x : Int)) ∧ w'.cell? ⟨(ad.add (s.at_ * 4)).block, (ad.add (s.at_ * 4)).off + 2, none⟩ = some (.int .i64 xb) ∧ w'.cell? ⟨(ad.add (s.at_ * 4)).block, (ad.add (s.at_ * 4)).off + 3, none⟩ = some (.int .i64 xc))
    (.pointer (some ⟨b, 0, none⟩)) 9 1 (by kernel_rfl) (by kernel_rfl) (Or.inl ⟨by rfl, fun w => by rfl⟩) (fun _ _ _ h => h) ⟨c0, c13, q0, q1, q2, q3⟩ ?_
  replace CD := hide (fun o => And.intro (CD.out o _ _ c0) (And.intro (CD.out o _ _ c13) (And.intro (CD.out o _ _ q0) (And.intro (CD.out o _ _ q1) (And.intro (CD.out o _ _ q2) (CD.out o _ _ q3))))))
  clear c0 c13 q0 q1 q2 q3
  simp only [Act.put, List.setIfInBounds_toArray, List.set_cons_zero, List.set_cons_succ, List.take_succ_cons, List.take_zero, List.drop_succ_cons, List.drop_zero]
  repeat (refine head_step ?_ (by rfl) ?_ (fun _ _ _ h => h) ?_; rotate_left; (intro w' hs; obtain ⟨e0, e1, e2, e3, e4, e5⟩ := hs; go_simp; (try with_reducible rfl)); (try simp only [Act.put, List.setIfInBounds_toArray, List.set_cons_zero, List.set_cons_succ]))
  refine head_nil ?_
  refine mid_step _ (w2.drew.alloc (.cells #[.int .i64 0, .int .i64 0, .int .i64 0, .int .i64 0] 142)) (by rfl) (by go_simp; rfl) (CD.out _) ?_
  refine mid_nil ?_
  simp only [Act.put, List.setIfInBounds_toArray, List.set_cons_zero, List.set_cons_succ]
  clear CD
  go_upto_region 6 with fail
  have hBX := (Blk.new w2 142 #[.int .i64 9, .int .i64 (x : Int), .int .i64 xb, .int .i64 xc]).drew
  have hbb := H.out.blk.lt
  replace H := hide (H.out.alloc (.cells #[.int .i64 9, .int .i64 (x : Int), .int .i64 xb, .int .i64 xc] 142)).drew
  generalize (w2.alloc (.cells #[.int .i64 9, .int .i64 (x : Int), .int .i64 xb, .int .i64 xc] 142)).drew = w3 at *
  generalize w2.heap.size = bx at *
  have c13 := (H.out.tails H8.out).2.2.2.2.2.1
  have f13 := H.out.free 13
  have HB := hide hBX
  clear hBX
  go_upto_region 7 with fail
  replace H := hide (H.out.setAt H8.out (s.at_ + 1))
  replace HB := hide (HB.out.far (p := ⟨b, 13, none⟩) (by simp only; omega) (.int .i64 ((s.at_ + 1 : Nat) : Int)))
  clear c13 f13
  change Code.wp _ _ _ _ (w3.setCell ⟨b, 13, none⟩ (.int .i64 ((s.at_ + 1 : Nat) : Int)))
  generalize w3.setCell ⟨b, 13, none⟩ (.int .i64 ((s.at_ + 1 : Nat) : Int)) = w4 at *
  clear HP HX hA atI0 atI1 hbb
  have ht := hs.tick hend
  replace H : Hid (RunS rb w0 w4 B b db p.val wv sv W lps s.tick) := H
  rw [htk] at H ht
  clear hs hend hn hlen htk
  replace H8 := hide ht.g8
  have b0 := HB.out.cell 0
  have b1 := HB.out.cell 1
  have b2 := HB.out.cell 2
  have b3 := HB.out.cell 3
  simp only [List.getElem?_toArray, List.getElem?_cons_zero, List.getElem?_cons_succ] at b0 b1 b2 b3
  have c13 := (H.out.tails H8.out).2.2.2.2.2.1
  have f13 := H.out.free 13
  go_wp2_with fail
  go_ret
  exact ⟨rfl, H.out.setAt H8.out x⟩
set_option maxHeartbeats 1000000 in
theorem step_zero (rb : Option Nat) (w0 w : World) (B b db : Nat) (p : Sl Ins4) (wv sv : Value) (W lps : Int) (s : VS) (nw : Nat) (h : RunS rb w0 w B b db p.val wv sv W lps s) (hs : s.Ok p.L.length nw lps) (hp : p.At InsAt 4 w0) (hlen : p.L.length ≤ 1000) (hend : s.at_ < p.L.length) (hn : s.n < 120) (t : VS) (htk : s.tick = t) (x y : Nat) (hx8 : x < 8) (xc : Int) (hz : t.reg x = 0) (hx : p.L[s.at_]? = some ((10, (x : Int), (y : Int), xc) : Ins4)) :
    Calls Try.prog 116 #[.pointer (some ⟨b, 0, none⟩)] w fun e w' => e = .returned (.bool true) ∧ RunS rb w0 w' B b db p.val wv sv W lps { t with at_ := y } := by
  have h8 := hs.g8
  obtain ⟨c0, _, _, _, _, c13, c14⟩ := h.tails h8
  have H := hide h
  have H8 := hide h8
  have HP := hide hp
  have HX := hide hx
  unfold Sl.val at c0
  have d0 : decide (p.L.length ≤ s.at_) = false := decide_eq_false (by omega)
  have d1 : decide ((s.n : Int) < 120) = true := decide_eq_true (by omega)
  clear h h8 hp hx
  go_enter Try.func116, Try.ntmps116
  go_wp2_with fail
  go_quiet (fail)
  replace H := hide (H.out.drewN nq)
  clear c0 c13 c14
  generalize w.drewN nq = w1 at *
  clear nq
  have c14 := (H.out.tails H8.out).2.2.2.2.2.2
  have f14 := H.out.free 14
  go_upto_region 5 with (go_at_call 122; refine (need_ok _ _).mono ?_; rintro e w' ⟨rfl, rfl⟩)
  replace H := hide (H.out.setN H8.out (s.n + 1))
  clear c14 f14 d0 d1
  change Code.wp _ _ _ _ (w1.setCell ⟨b, 14, none⟩ (.int .i64 ((s.n + 1 : Nat) : Int)))
  generalize w1.setCell ⟨b, 14, none⟩ (.int .i64 ((s.n + 1 : Nat) : Int)) = w2 at *
  obtain ⟨ad, hA, q0, q1, q2, q3, _⟩ := (H.out.code HP.out).1 s.at_ _ HX.out
  obtain ⟨c0, _, _, _, _, c13, _⟩ := H.out.tails H8.out
  simp only [Sl.val, hA] at c0
  simp only at q0 q1 q2 q3
  have atI0 : (0 : Int) ≤ (s.at_ : Int) := by omega
  have atI1 : (s.at_ : Int) < (p.L.length : Int) := by omega
  have CD := hide (fun o => (show ∀ v pp, w2.cell? pp = some v → (w2.drew.alloc o).cell? pp = some v from fun v pp h => (World.cell?_alloc_lt w2.drew o _ (cell_lt h)).trans h))
  refine wp_region_reads (fun w' => w'.cell? ⟨b, 0, none⟩ = some (.slice (some ad) p.L.length p.c) ∧ w'.cell? ⟨b, 13, none⟩ = some (.int .i64 s.at_) ∧ w'.cell? (ad.add (s.at_ * 4)) = some (.int .i64 10) ∧ w'.cell? ⟨(ad.add (s.at_ * 4)).block, (ad.add (s.at_ * 4)).off + 1, none⟩ = some (.int .i64 (x : Int)) ∧ w'.cell? ⟨(ad.add (s.at_ * 4)).block, (ad.add (s.at_ * 4)).off + 2, none⟩ = some (.int .i64 (y : Int)) ∧ w'.cell? ⟨(ad.add (s.at_ * 4)).block, (ad.add (s.at_ * 4)).off + 3, none⟩ = some (.int .i64 xc))
    (.pointer (some ⟨b, 0, none⟩)) 9 1 (by kernel_rfl) (by kernel_rfl) (Or.inl ⟨by rfl, fun w => by rfl⟩) (fun _ _ _ h => h) ⟨c0, c13, q0, q1, q2, q3⟩ ?_
  replace CD := hide (fun o => And.intro (CD.out o _ _ c0) (And.intro (CD.out o _ _ c13) (And.intro (CD.out o _ _ q0) (And.intro (CD.out o _ _ q1) (And.intro (CD.out o _ _ q2) (CD.out o _ _ q3))))))
  clear c0 c13 q0 q1 q2 q3
  simp only [Act.put, List.setIfInBounds_toArray, List.set_cons_zero, List.set_cons_succ, List.take_succ_cons, List.take_zero, List.drop_succ_cons, List.drop_zero]
  repeat (refine head_step ?_ (by rfl) ?_ (fun _ _ _ h => h) ?_; rotate_left; (intro w' hs; obtain ⟨e0, e1, e2, e3, e4, e5⟩ := hs; go_simp; (try with_reducible rfl)); (try simp only [Act.put, List.setIfInBounds_toArray, List.set_cons_zero, List.set_cons_succ]))
  refine head_nil ?_
  refine mid_step _ (w2.drew.alloc (.cells #[.int .i64 0, .int .i64 0, .int .i64 0, .int .i64 0] 142)) (by rfl) (by go_simp; rfl) (CD.out _) ?_
  refine mid_nil ?_
  simp only [Act.put, List.setIfInBounds_toArray, List.set_cons_zero, List.set_cons_succ]
  clear CD
  go_upto_region 6 with fail
  have hBX := (Blk.new w2 142 #[.int .i64 10, .int .i64 (x : Int), .int .i64 (y : Int), .int .i64 xc]).drew
  have hbb := H.out.blk.lt
  replace H := hide (H.out.alloc (.cells #[.int .i64 10, .int .i64 (x : Int), .int .i64 (y : Int), .int .i64 xc] 142)).drew
  generalize (w2.alloc (.cells #[.int .i64 10, .int .i64 (x : Int), .int .i64 (y : Int), .int .i64 xc] 142)).drew = w3 at *
  generalize w2.heap.size = bx at *
  have c13 := (H.out.tails H8.out).2.2.2.2.2.1
  have f13 := H.out.free 13
  have HB := hide hBX
  clear hBX
  go_upto_region 7 with fail
  replace H := hide (H.out.setAt H8.out (s.at_ + 1))
  replace HB := hide (HB.out.far (p := ⟨b, 13, none⟩) (by simp only; omega) (.int .i64 ((s.at_ + 1 : Nat) : Int)))
  clear c13 f13
  change Code.wp _ _ _ _ (w3.setCell ⟨b, 13, none⟩ (.int .i64 ((s.at_ + 1 : Nat) : Int)))
  generalize w3.setCell ⟨b, 13, none⟩ (.int .i64 ((s.at_ + 1 : Nat) : Int)) = w4 at *
  clear HP HX hA atI0 atI1 hbb
  have ht := hs.tick hend
  replace H : Hid (RunS rb w0 w4 B b db p.val wv sv W lps s.tick) := H
  rw [htk] at H ht
  clear hs hend hn hlen htk
  replace H8 := hide ht.g8
  have b0 := HB.out.cell 0
  have b1 := HB.out.cell 1
  have b2 := HB.out.cell 2
  have b3 := HB.out.cell 3
  simp only [List.getElem?_toArray, List.getElem?_cons_zero, List.getElem?_cons_succ] at b0 b1 b2 b3
  have xI0 : (0 : Int) ≤ (x : Int) := by omega
  have xI1 : (x : Int) < 8 := by omega
  have cx := H.out.regC H8.out hx8
  rw [hz] at cx
  go_upto_region 18 with fail
  go_quiet (fail)
  replace H := hide (H.out.drewN nq)
  replace HB := hide (HB.out.drewN nq)
  clear b0 b1 b2 b3 cx
  generalize w4.drewN nq = w5 at *
  have b2 := HB.out.cell 2
  simp only [List.getElem?_toArray, List.getElem?_cons_zero, List.getElem?_cons_succ] at b2
  have c13 := (H.out.tails H8.out).2.2.2.2.2.1
  have f13 := H.out.free 13
  go_wp2_with fail
  go_ret
  exact ⟨rfl, H.out.setAt H8.out y⟩
set_option maxHeartbeats 1000000 in
theorem step_nonz (rb : Option Nat) (w0 w : World) (B b db : Nat) (p : Sl Ins4) (wv sv : Value) (W lps : Int) (s : VS) (nw : Nat) (h : RunS rb w0 w B b db p.val wv sv W lps s) (hs : s.Ok p.L.length nw lps) (hp : p.At InsAt 4 w0) (hlen : p.L.length ≤ 1000) (hend : s.at_ < p.L.length) (hn : s.n < 120) (t : VS) (htk : s.tick = t) (x y : Nat) (hx8 : x < 8) (xc : Int) (hz : t.reg x ≠ 0) (hx : p.L[s.at_]? = some ((10, (x : Int), (y : Int), xc) : Ins4)) :
    Calls Try.prog 116 #[.pointer (some ⟨b, 0, none⟩)] w fun e w' => e = .returned (.bool true) ∧ RunS rb w0 w' B b db p.val wv sv W lps t := by
  have h8 := hs.g8
  obtain ⟨c0, _, _, _, _, c13, c14⟩ := h.tails h8
  have H := hide h
  have H8 := hide h8
  have HP := hide hp
  have HX := hide hx
  unfold Sl.val at c0
  have d0 : decide (p.L.length ≤ s.at_) = false := decide_eq_false (by omega)
  have d1 : decide ((s.n : Int) < 120) = true := decide_eq_true (by omega)
  clear h h8 hp hx
  go_enter Try.func116, Try.ntmps116
  go_wp2_with fail
  go_quiet (fail)
  replace H := hide (H.out.drewN nq)
  clear c0 c13 c14
  generalize w.drewN nq = w1 at *
  clear nq
  have c14 := (H.out.tails H8.out).2.2.2.2.2.2
  have f14 := H.out.free 14
  go_upto_region 5 with (go_at_call 122; refine (need_ok _ _).mono ?_; rintro e w' ⟨rfl, rfl⟩)
  replace H := hide (H.out.setN H8.out (s.n + 1))
  clear c14 f14 d0 d1
  change Code.wp _ _ _ _ (w1.setCell ⟨b, 14, none⟩ (.int .i64 ((s.n + 1 : Nat) : Int)))
  generalize w1.setCell ⟨b, 14, none⟩ (.int .i64 ((s.n + 1 : Nat) : Int)) = w2 at *
  obtain ⟨ad, hA, q0, q1, q2, q3, _⟩ := (H.out.code HP.out).1 s.at_ _ HX.out
  obtain ⟨c0, _, _, _, _, c13, _⟩ := H.out.tails H8.out
  simp only [Sl.val, hA] at c0
  simp only at q0 q1 q2 q3
  have atI0 : (0 : Int) ≤ (s.at_ : Int) := by omega
  have atI1 : (s.at_ : Int) < (p.L.length : Int) := by omega
  have CD := hide (fun o => (show ∀ v pp, w2.cell? pp = some v → (w2.drew.alloc o).cell? pp = some v from fun v pp h => (World.cell?_alloc_lt w2.drew o _ (cell_lt h)).trans h))
  refine wp_region_reads (fun w' => w'.cell? ⟨b, 0, none⟩ = some (.slice (some ad) p.L.length p.c) ∧ w'.cell? ⟨b, 13, none⟩ = some (.int .i64 s.at_) ∧ w'.cell? (ad.add (s.at_ * 4)) = some (.int .i64 10) ∧ w'.cell? ⟨(ad.add (s.at_ * 4)).block, (ad.add (s.at_ * 4)).off + 1, none⟩ = some (.int .i64 (x : Int)) ∧ w'.cell? ⟨(ad.add (s.at_ * 4)).block, (ad.add (s.at_ * 4)).off + 2, none⟩ = some (.int .i64 (y : Int)) ∧ w'.cell? ⟨(ad.add (s.at_ * 4)).block, (ad.add (s.at_ * 4)).off + 3, none⟩ = some (.int .i64 xc))
    (.pointer (some ⟨b, 0, none⟩)) 9 1 (by kernel_rfl) (by kernel_rfl) (Or.inl ⟨by rfl, fun w => by rfl⟩) (fun _ _ _ h => h) ⟨c0, c13, q0, q1, q2, q3⟩ ?_
  replace CD := hide (fun o => And.intro (CD.out o _ _ c0) (And.intro (CD.out o _ _ c13) (And.intro (CD.out o _ _ q0) (And.intro (CD.out o _ _ q1) (And.intro (CD.out o _ _ q2) (CD.out o _ _ q3))))))
  clear c0 c13 q0 q1 q2 q3
  simp only [Act.put, List.setIfInBounds_toArray, List.set_cons_zero, List.set_cons_succ, List.take_succ_cons, List.take_zero, List.drop_succ_cons, List.drop_zero]
  repeat (refine head_step ?_ (by rfl) ?_ (fun _ _ _ h => h) ?_; rotate_left; (intro w' hs; obtain ⟨e0, e1, e2, e3, e4, e5⟩ := hs; go_simp; (try with_reducible rfl)); (try simp only [Act.put, List.setIfInBounds_toArray, List.set_cons_zero, List.set_cons_succ]))
  refine head_nil ?_
  refine mid_step _ (w2.drew.alloc (.cells #[.int .i64 0, .int .i64 0, .int .i64 0, .int .i64 0] 142)) (by rfl) (by go_simp; rfl) (CD.out _) ?_
  refine mid_nil ?_
  simp only [Act.put, List.setIfInBounds_toArray, List.set_cons_zero, List.set_cons_succ]
  clear CD
  go_upto_region 6 with fail
  have hBX := (Blk.new w2 142 #[.int .i64 10, .int .i64 (x : Int), .int .i64 (y : Int), .int .i64 xc]).drew
  have hbb := H.out.blk.lt
  replace H := hide (H.out.alloc (.cells #[.int .i64 10, .int .i64 (x : Int), .int .i64 (y : Int), .int .i64 xc] 142)).drew
  generalize (w2.alloc (.cells #[.int .i64 10, .int .i64 (x : Int), .int .i64 (y : Int), .int .i64 xc] 142)).drew = w3 at *
  generalize w2.heap.size = bx at *
  have c13 := (H.out.tails H8.out).2.2.2.2.2.1
  have f13 := H.out.free 13
  have HB := hide hBX
  clear hBX
  go_upto_region 7 with fail
  replace H := hide (H.out.setAt H8.out (s.at_ + 1))
  replace HB := hide (HB.out.far (p := ⟨b, 13, none⟩) (by simp only; omega) (.int .i64 ((s.at_ + 1 : Nat) : Int)))
  clear c13 f13
  change Code.wp _ _ _ _ (w3.setCell ⟨b, 13, none⟩ (.int .i64 ((s.at_ + 1 : Nat) : Int)))
  generalize w3.setCell ⟨b, 13, none⟩ (.int .i64 ((s.at_ + 1 : Nat) : Int)) = w4 at *
  clear HP HX hA atI0 atI1 hbb
  have ht := hs.tick hend
  replace H : Hid (RunS rb w0 w4 B b db p.val wv sv W lps s.tick) := H
  rw [htk] at H ht
  clear hs hend hn hlen htk
  replace H8 := hide ht.g8
  have b0 := HB.out.cell 0
  have b1 := HB.out.cell 1
  have b2 := HB.out.cell 2
  have b3 := HB.out.cell 3
  simp only [List.getElem?_toArray, List.getElem?_cons_zero, List.getElem?_cons_succ] at b0 b1 b2 b3
  have xI0 : (0 : Int) ≤ (x : Int) := by omega
  have xI1 : (x : Int) < 8 := by omega
  have cx := H.out.regC H8.out hx8
  have dz : (t.reg x == 0) = false := by rw [beq_eq_false_iff_ne]; exact hz
  generalize t.reg x = r at *
  go_upto_region 18 with fail
  go_quiet (fail)
  replace H := hide (H.out.drewN nq)
  replace HB := hide (HB.out.drewN nq)
  clear b0 b1 b2 b3 cx
  generalize w4.drewN nq = w5 at *
  have b2 := HB.out.cell 2
  simp only [List.getElem?_toArray, List.getElem?_cons_zero, List.getElem?_cons_succ] at b2
  have c13 := (H.out.tails H8.out).2.2.2.2.2.1
  have f13 := H.out.free 13
  go_wp2_with fail
  go_ret
  exact ⟨rfl, H.out⟩
end Go.Proofs.Ytpfcmfannkbipaa
end
