/- Texts of this claim in one. No condition. -/
import Derived.Test.YtpfcmfannkbipaaJ08
import Derived.Deep.RegionHeld3
import Derived.StillTailTactics
section
set_option linter.unusedVariables false
set_option linter.unusedSimpArgs false
set_option maxRecDepth 20000
namespace Go.Proofs.Ytpfcmfannkbipaa
open Go.RowKit Go.Deep

section
variable {rb : Option Nat} {w0 w w' : World} {B b db : Nat} {pv wv sv : Value} {W lps : Int} {s : VS}
theorem RunS.rolled (h : RunS rb w0 w B b db pv wv sv W lps s) {d : Int} (hd : DiceAt w' db W d) (hg : w.grownBy w' (some db)) : RunS rb w0 w' B b db pv wv sv W lps { s with d := d } := by
  refine ⟨h.bel.trans ((Below.refl _ _).grown hg h.bel.size fun k hk => ?_), ?_, hd, ?_, ?_, h.lb, h.ld, Nat.le_trans h.siz hg.size, h.lo, h.lod, fun r hr => ⟨Blk.grown (h.res r hr).1 hg (fun e => (h.res r hr).1.neT h.dic (by decide) (by injection e)), (h.res r hr).2⟩⟩
  · injection hk with hk
    rw [← hk]
    exact h.lod
  · exact Blk.grown h.blk hg (fun e => h.ne (by injection e))
  · exact World.ownsRow.kept h.wrd hg (.inr fun e => by have := h.wrd.base _ e; have := h.ld; omega)
  · exact World.ownsRow.kept h.snt hg (.inr fun e => by have := h.snt.base _ e; have := h.ld; omega)
theorem flatMap_int (L : List Int) : L.flatMap encInt = L.map (Value.int .i64) := by
  induction L with
  | nil => rfl
  | cons x L ih => rw [List.flatMap_cons, ih]; rfl
theorem RunS.wordC {g n c k : Nat} (h : RunS rb w0 w B b db pv (.slice (some ⟨g, 0, none⟩) n c) sv W lps s) (hn : n = s.w.length) (hk : k < n) : w.cell? ⟨g, k, none⟩ = some (.int .i64 (s.w.getD k 0)) ∧ w.frozen? ⟨g, k, none⟩ = false := by
  subst hn
  have hw := h.wrd
  unfold OwnR at hw
  refine ⟨?_, hw.frozenAt k⟩
  rw [hw.cellAt k (by omega), flatMap_int, List.getElem?_map, List.getElem?_eq_getElem hk, List.getD_eq_getElem?_getD, List.getElem?_eq_getElem hk]
  rfl
theorem RunS.setW {g n c : Nat} (h : RunS rb w0 w B b db pv (.slice (some ⟨g, 0, none⟩) n c) sv W lps s) (hn : n = s.w.length) (k : Nat) (v : Int) : RunS rb w0 (w.setCell ⟨g, k, none⟩ (.int .i64 v)) B b db pv (.slice (some ⟨g, 0, none⟩) n c) sv W lps { s with w := s.w.set k v } := by
  subst hn
  have hw := h.wrd
  have hBg := hw.base g rfl
  unfold OwnR at hw
  obtain ⟨h1, h2⟩ := hw.stored k (.int .i64 v)
  refine ⟨?_, ?_, ?_, ?_, ?_, h.lb, h.ld, by simpa [World.setCell] using h.siz, h.lo, h.lod, fun r hr => ⟨(h.res r hr).1.far (p := ⟨g, k, none⟩) (fun e => (h.res r hr).2 (by rw [e]; rfl)) _, (h.res r hr).2⟩⟩
  · exact h.bel.setCell (p := ⟨g, k, none⟩) (by have := h.lo; have := h.lb; simp only; omega) _
  · exact (h.blk.far (p := ⟨g, k, none⟩) (by have := h.lb; simp only; omega) _)
  · exact Blk.far h.dic (p := ⟨g, k, none⟩) (by have := h.ld; simp only; omega) _
  · unfold OwnR
    rw [flatMap_int, List.map_set, List.length_set, ← flatMap_int]
    exact h1
  · exact h.snt.other h.wrd (by decide) h2
end
set_option maxHeartbeats 4000000 in
theorem step_roll (rb : Option Nat) (w0 w : World) (B b db : Nat) (p : Sl Ins4) (wv sv : Value) (W lps : Int) (s : VS) (nw : Nat) (h : RunS rb w0 w B b db p.val wv sv W lps s) (hs : s.Ok p.L.length nw lps) (hp : p.At InsAt 4 w0) (hlen : p.L.length ≤ 1000) (hend : s.at_ < p.L.length) (hn : s.n < 120) (t : VS) (htk : s.tick = t) (x y : Nat) (hx8 : x < 8) (hy8 : y < 8) (xc n : Int) (hv : t.reg y = n) (hn1 : 1 ≤ n) (hn2 : n ≤ 9223372036854775807) (hx : p.L[s.at_]? = some ((11, (x : Int), (y : Int), xc) : Ins4)) :
    Calls Try.prog 116 #[.pointer (some ⟨b, 0, none⟩)] w fun e w' => e = .returned (.bool true) ∧ RunS rb w0 w' B b db p.val wv sv W lps { t.put x (belowI (stepI W t.d) n) with d := wrap64 (t.d + 1) } := by
  have h8 := hs.g8
  obtain ⟨c0, _, _, _, _, c13, c14⟩ := h.tails h8
  have H := hide h
  have H8 := hide h8
  have HP := hide hp
  have HX := hide hx
  unfold Sl.val at c0
  have d0 : decide (p.L.length ≤ s.at_) = false := decide_eq_false (by omega)
  have d1 : decide ((s.n : Int) < 120) = true := decide_eq_true (by omega)
  clear h h8 hp hx
  go_enter Try.func116, Try.ntmps116
  go_wp2_with fail
  go_quiet (fail)
  replace H := hide (H.out.drewN nq)
  clear c0 c13 c14
  generalize w.drewN nq = w1 at *
  clear nq
  have c14 := (H.out.tails H8.out).2.2.2.2.2.2
  have f14 := H.out.free 14
  go_upto_region 5 with (go_at_call 122; refine (need_ok _ _).mono ?_; rintro e w' ⟨rfl, rfl⟩)
  replace H := hide (H.out.setN H8.out (s.n + 1))
  clear c14 f14 d0 d1
  change Code.wp _ _ _ _ (w1.setCell ⟨b, 14, none⟩ (.int .i64 ((s.n + 1 : Nat) : Int)))
  generalize w1.setCell ⟨b, 14, none⟩ (.int .i64 ((s.n + 1 : Nat) : Int)) = w2 at *
  obtain ⟨ad, hA, q0, q1, q2, q3, _⟩ := (H.out.code HP.out).1 s.at_ _ HX.out
  obtain ⟨c0, _, _, _, _, c13, _⟩ := H.out.tails H8.out
  simp only [Sl.val, hA] at c0
  simp only at q0 q1 q2 q3
  have atI0 : (0 : Int) ≤ (s.at_ : Int) := by omega
  have atI1 : (s.at_ : Int) < (p.L.length : Int) := by omega
  have CD := hide (fun o => (show ∀ v pp, w2.cell? pp = some v → (w2.drew.alloc o).cell? pp = some v from fun v pp h => (World.cell?_alloc_lt w2.drew o _ (cell_lt h)).trans h))
  refine wp_region_reads (fun w' => w'.cell? ⟨b, 0, none⟩ = some (.slice (some ad) p.L.length p.c) ∧ w'.cell? ⟨b, 13, none⟩ = some (.int .i64 s.at_) ∧ w'.cell? (ad.add (s.at_ * 4)) = some (.int .i64 11) ∧ w'.cell? ⟨(ad.add (s.at_ * 4)).block, (ad.add (s.at_ * 4)).off + 1, none⟩ = some (.int .i64 (x : Int)) ∧ w'.cell? ⟨(ad.add (s.at_ * 4)).block, (ad.add (s.at_ * 4)).off + 2, none⟩ = some (.int .i64 (y : Int)) ∧ w'.cell? ⟨(ad.add (s.at_ * 4)).block, (ad.add (s.at_ * 4)).off + 3, none⟩ = some (.int .i64 xc))
    (.pointer (some ⟨b, 0, none⟩)) 9 1 (by kernel_rfl) (by kernel_rfl) (Or.inl ⟨by rfl, fun w => by rfl⟩) (fun _ _ _ h => h) ⟨c0, c13, q0, q1, q2, q3⟩ ?_
  replace CD := hide (fun o => And.intro (CD.out o _ _ c0) (And.intro (CD.out o _ _ c13) (And.intro (CD.out o _ _ q0) (And.intro (CD.out o _ _ q1) (And.intro (CD.out o _ _ q2) (CD.out o _ _ q3))))))
  clear c0 c13 q0 q1 q2 q3
  simp only [Act.put, List.setIfInBounds_toArray, List.set_cons_zero, List.set_cons_succ, List.take_succ_cons, List.take_zero, List.drop_succ_cons, List.drop_zero]
  repeat (refine head_step ?_ (by rfl) ?_ (fun _ _ _ h => h) ?_; rotate_left; (intro w' hs; obtain ⟨e0, e1, e2, e3, e4, e5⟩ := hs; go_simp; (try with_reducible rfl)); (try simp only [Act.put, List.setIfInBounds_toArray, List.set_cons_zero, List.set_cons_succ]))
  refine head_nil ?_
  refine mid_step _ (w2.drew.alloc (.cells #[.int .i64 0, .int .i64 0, .int .i64 0, .int .i64 0] 142)) (by rfl) (by go_simp; rfl) (CD.out _) ?_
  refine mid_nil ?_
  simp only [Act.put, List.setIfInBounds_toArray, List.set_cons_zero, List.set_cons_succ]
  clear CD
  go_upto_region 6 with fail
  have hBX := (Blk.new w2 142 #[.int .i64 11, .int .i64 (x : Int), .int .i64 (y : Int), .int .i64 xc]).drew
  have hbb := H.out.blk.lt
  replace H := hide (H.out.alloc (.cells #[.int .i64 11, .int .i64 (x : Int), .int .i64 (y : Int), .int .i64 xc] 142)).drew
  generalize (w2.alloc (.cells #[.int .i64 11, .int .i64 (x : Int), .int .i64 (y : Int), .int .i64 xc] 142)).drew = w3 at *
  generalize w2.heap.size = bx at *
  have c13 := (H.out.tails H8.out).2.2.2.2.2.1
  have f13 := H.out.free 13
  have HB := hide hBX
  clear hBX
  go_upto_region 7 with fail
  replace H := hide (H.out.setAt H8.out (s.at_ + 1))
  replace HB := hide (HB.out.far (p := ⟨b, 13, none⟩) (by simp only; omega) (.int .i64 ((s.at_ + 1 : Nat) : Int)))
  clear c13 f13
  change Code.wp _ _ _ _ (w3.setCell ⟨b, 13, none⟩ (.int .i64 ((s.at_ + 1 : Nat) : Int)))
  generalize w3.setCell ⟨b, 13, none⟩ (.int .i64 ((s.at_ + 1 : Nat) : Int)) = w4 at *
  clear HP HX hA atI0 atI1 hbb
  have ht := hs.tick hend
  replace H : Hid (RunS rb w0 w4 B b db p.val wv sv W lps s.tick) := H
  rw [htk] at H ht
  clear hs hend hn hlen htk
  replace H8 := hide ht.g8
  have b0 := HB.out.cell 0
  have b1 := HB.out.cell 1
  have b2 := HB.out.cell 2
  have b3 := HB.out.cell 3
  simp only [List.getElem?_toArray, List.getElem?_cons_zero, List.getElem?_cons_succ] at b0 b1 b2 b3
  have xI0 : (0 : Int) ≤ (x : Int) := by omega
  have xI1 : (x : Int) < 8 := by omega
  have yI0 : (0 : Int) ≤ (y : Int) := by omega
  have yI1 : (y : Int) < 8 := by omega
  have cy := H.out.regC H8.out hy8
  rw [hv] at cy
  have c11 := (H.out.tails H8.out).2.2.2.1
  go_upto_region 21 with fail
  go_region_held3 (fun w' => w'.cell? ⟨b, 11, none⟩ = some (.pointer (some ⟨db, 0, none⟩)) ∧ w'.cell? ⟨bx, 2, none⟩ = some (.int .i64 y) ∧ w'.cell? ⟨b, 1 + y, none⟩ = some (.int .i64 n))
    (first
      | (go_split_ands; exact ⟨by assumption, by assumption, by assumption⟩)
      | (go_split_ands; exact ⟨(H6.tails H8.out).2.2.2.1, HB6.cell 2, (H6.regC H8.out hy8).trans (congrArg (fun z => some (Value.int .i64 z)) hv)⟩))
    (first
      | (go_at_call 123; refine (next_at db W t.d n (wrap64 (t.d + 1)) _ H.out.drew.dic hn1 hn2 rfl).mono ?_; rintro e w6 ⟨rfl, hd6, hg6⟩; have H6 := H.out.drew.rolled hd6 hg6; have HB6 := Blk.grown HB.out.drew hg6 (fun e => HB.out.neT H.out.dic (by decide) (by injection e))))
  replace H := hide H6
  replace HB := hide HB6
  clear hd6 hg6 H6 HB6 b0 b1 b2 b3 cy c11 hn1 hn2 hv
  have b1 := HB.out.cell 1
  simp only [List.getElem?_toArray, List.getElem?_cons_zero, List.getElem?_cons_succ] at b1
  have cx := H.out.drew.regC H8.out hx8
  have fx := H.out.drew.free (1 + x)
  go_upto_region 23 with (go_at_call 122; refine (need_ok _ _).mono ?_; rintro e w' ⟨rfl, rfl⟩)
  refine wp_region_reads (fun w' => w'.cell? ⟨bx, 1, none⟩ = some (.int .i64 x))
    (.pointer (some ⟨b, 0, none⟩)) 6 0 (by kernel_rfl) (by kernel_rfl) (Or.inl ⟨by rfl, fun w => by rfl⟩) (fun _ _ _ h => h) b1 ?_
  simp only [Act.put, List.setIfInBounds_toArray, List.set_cons_zero, List.set_cons_succ, List.take_succ_cons, List.take_zero, List.drop_succ_cons, List.drop_zero]
  repeat (refine head_step ?_ (by rfl) ?_ (fun _ _ _ h => h) ?_; rotate_left; (intro w' hs; have zz := hs; go_simp; (try with_reducible rfl)); (try simp only [Act.put, List.setIfInBounds_toArray, List.set_cons_zero, List.set_cons_succ]))
  refine head_nil ?_
  refine mid_nil ?_
  try simp only [Act.put, List.setIfInBounds_toArray, List.set_cons_zero, List.set_cons_succ]
  clear b1
  go_wp2_with fail
  go_ret
  exact ⟨rfl, H.out.drew.put (s := { t with d := wrap64 (t.d + 1) }) H8.out hx8 _⟩
set_option maxHeartbeats 2000000 in
theorem step_noroll (rb : Option Nat) (w0 w : World) (B b db : Nat) (p : Sl Ins4) (wv sv : Value) (W lps : Int) (s : VS) (nw : Nat) (h : RunS rb w0 w B b db p.val wv sv W lps s) (hs : s.Ok p.L.length nw lps) (hp : p.At InsAt 4 w0) (hlen : p.L.length ≤ 1000) (hend : s.at_ < p.L.length) (hn : s.n < 120) (t : VS) (htk : s.tick = t) (x y : Nat) (hx8 : x < 8) (hy8 : y < 8) (xc n : Int) (hv : t.reg y = n) (hn1 : n < 1) (hx : p.L[s.at_]? = some ((11, (x : Int), (y : Int), xc) : Ins4)) :
    Calls Try.prog 116 #[.pointer (some ⟨b, 0, none⟩)] w fun e w' => e = .panicked (faultP 4) ∧ RunS rb w0 w' B b db p.val wv sv W lps t := by
  have h8 := hs.g8
  obtain ⟨c0, _, _, _, _, c13, c14⟩ := h.tails h8
  have H := hide h
  have H8 := hide h8
  have HP := hide hp
  have HX := hide hx
  unfold Sl.val at c0
  have d0 : decide (p.L.length ≤ s.at_) = false := decide_eq_false (by omega)
  have d1 : decide ((s.n : Int) < 120) = true := decide_eq_true (by omega)
  clear h h8 hp hx
  go_enter Try.func116, Try.ntmps116
  go_wp2_with fail
  go_quiet (fail)
  replace H := hide (H.out.drewN nq)
  clear c0 c13 c14
  generalize w.drewN nq = w1 at *
  clear nq
  have c14 := (H.out.tails H8.out).2.2.2.2.2.2
  have f14 := H.out.free 14
  go_upto_region 5 with (go_at_call 122; refine (need_ok _ _).mono ?_; rintro e w' ⟨rfl, rfl⟩)
  replace H := hide (H.out.setN H8.out (s.n + 1))
  clear c14 f14 d0 d1
  change Code.wp _ _ _ _ (w1.setCell ⟨b, 14, none⟩ (.int .i64 ((s.n + 1 : Nat) : Int)))
  generalize w1.setCell ⟨b, 14, none⟩ (.int .i64 ((s.n + 1 : Nat) : Int)) = w2 at *
  obtain ⟨ad, hA, q0, q1, q2, q3, _⟩ := (H.out.code HP.out).1 s.at_ _ HX.out
  obtain ⟨c0, _, _, _, _, c13, _⟩ := H.out.tails H8.out
  simp only [Sl.val, hA] at c0
  simp only at q0 q1 q2 q3
  have atI0 : (0 : Int) ≤ (s.at_ : Int) := by omega
  have atI1 : (s.at_ : Int) < (p.L.length : Int) := by omega
  have CD := hide (fun o => (show ∀ v pp, w2.cell? pp = some v → (w2.drew.alloc o).cell? pp = some v from fun v pp h => (World.cell?_alloc_lt w2.drew o _ (cell_lt h)).trans h))
  refine wp_region_reads (fun w' => w'.cell? ⟨b, 0, none⟩ = some (.slice (some ad) p.L.length p.c) ∧ w'.cell? ⟨b, 13, none⟩ = some (.int .i64 s.at_) ∧ w'.cell? (ad.add (s.at_ * 4)) = some (.int .i64 11) ∧ w'.cell? ⟨(ad.add (s.at_ * 4)).block, (ad.add (s.at_ * 4)).off + 1, none⟩ = some (.int .i64 (x : Int)) ∧ w'.cell? ⟨(ad.add (s.at_ * 4)).block, (ad.add (s.at_ * 4)).off + 2, none⟩ = some (.int .i64 (y : Int)) ∧ w'.cell? ⟨(ad.add (s.at_ * 4)).block, (ad.add (s.at_ * 4)).off + 3, none⟩ = some (.int .i64 xc))
    (.pointer (some ⟨b, 0, none⟩)) 9 1 (by kernel_rfl) (by kernel_rfl) (Or.inl ⟨by rfl, fun w => by rfl⟩) (fun _ _ _ h => h) ⟨c0, c13, q0, q1, q2, q3⟩ ?_
  replace CD := hide (fun o => And.intro (CD.out o _ _ c0) (And.intro (CD.out o _ _ c13) (And.intro (CD.out o _ _ q0) (And.intro (CD.out o _ _ q1) (And.intro (CD.out o _ _ q2) (CD.out o _ _ q3))))))
  clear c0 c13 q0 q1 q2 q3
  simp only [Act.put, List.setIfInBounds_toArray, List.set_cons_zero, List.set_cons_succ, List.take_succ_cons, List.take_zero, List.drop_succ_cons, List.drop_zero]
  repeat (refine head_step ?_ (by rfl) ?_ (fun _ _ _ h => h) ?_; rotate_left; (intro w' hs; obtain ⟨e0, e1, e2, e3, e4, e5⟩ := hs; go_simp; (try with_reducible rfl)); (try simp only [Act.put, List.setIfInBounds_toArray, List.set_cons_zero, List.set_cons_succ]))
  refine head_nil ?_
  refine mid_step _ (w2.drew.alloc (.cells #[.int .i64 0, .int .i64 0, .int .i64 0, .int .i64 0] 142)) (by rfl) (by go_simp; rfl) (CD.out _) ?_
  refine mid_nil ?_
  simp only [Act.put, List.setIfInBounds_toArray, List.set_cons_zero, List.set_cons_succ]
  clear CD
  go_upto_region 6 with fail
  have hBX := (Blk.new w2 142 #[.int .i64 11, .int .i64 (x : Int), .int .i64 (y : Int), .int .i64 xc]).drew
  have hbb := H.out.blk.lt
  replace H := hide (H.out.alloc (.cells #[.int .i64 11, .int .i64 (x : Int), .int .i64 (y : Int), .int .i64 xc] 142)).drew
  generalize (w2.alloc (.cells #[.int .i64 11, .int .i64 (x : Int), .int .i64 (y : Int), .int .i64 xc] 142)).drew = w3 at *
  generalize w2.heap.size = bx at *
  have c13 := (H.out.tails H8.out).2.2.2.2.2.1
  have f13 := H.out.free 13
  have HB := hide hBX
  clear hBX
  go_upto_region 7 with fail
  replace H := hide (H.out.setAt H8.out (s.at_ + 1))
  replace HB := hide (HB.out.far (p := ⟨b, 13, none⟩) (by simp only; omega) (.int .i64 ((s.at_ + 1 : Nat) : Int)))
  clear c13 f13
  change Code.wp _ _ _ _ (w3.setCell ⟨b, 13, none⟩ (.int .i64 ((s.at_ + 1 : Nat) : Int)))
  generalize w3.setCell ⟨b, 13, none⟩ (.int .i64 ((s.at_ + 1 : Nat) : Int)) = w4 at *
  clear HP HX hA atI0 atI1 hbb
  have ht := hs.tick hend
  replace H : Hid (RunS rb w0 w4 B b db p.val wv sv W lps s.tick) := H
  rw [htk] at H ht
  clear hs hend hn hlen htk
  replace H8 := hide ht.g8
  have b0 := HB.out.cell 0
  have b1 := HB.out.cell 1
  have b2 := HB.out.cell 2
  have b3 := HB.out.cell 3
  simp only [List.getElem?_toArray, List.getElem?_cons_zero, List.getElem?_cons_succ] at b0 b1 b2 b3
  have xI0 : (0 : Int) ≤ (x : Int) := by omega
  have xI1 : (x : Int) < 8 := by omega
  have yI0 : (0 : Int) ≤ (y : Int) := by omega
  have yI1 : (y : Int) < 8 := by omega
  have cy := H.out.regC H8.out hy8
  rw [hv] at cy
  have c11 := (H.out.tails H8.out).2.2.2.1
  go_upto_region 21 with fail
  have NL := hide (fun w => next_low db n w hn1)
  clear hn1 hv
  go_quiet ((go_at_call 123; exact quiet_left (NL.out _)))
  go_wp2_with fail
  refine (need_no _ _).mono ?_
  rintro e w' ⟨rfl, rfl⟩
  exact ⟨rfl, rfl, H.out.drewN _⟩
set_option maxHeartbeats 1000000 in
theorem step_send (rb : Option Nat) (w0 w : World) (B b db x y z n c : Nat) (A : Option Addr) (p : Sl Ins4) (wv : Value) (W lps : Int) (s : VS) (nw : Nat) (h : RunS rb w0 w B b db p.val wv (.slice A n c) W lps s) (hs : s.Ok p.L.length nw lps) (hp : p.At InsAt 4 w0) (hlen : p.L.length ≤ 1000) (hend : s.at_ < p.L.length) (hn : s.n < 120) (t : VS) (htk : s.tick = t) (hx8 : x < 8) (hy8 : y < 8) (hz8 : z < 8) (d u v : Int) (hd : t.reg x = d) (hu : t.reg y = u) (hv : t.reg z = v) (hok : 0 ≤ d ∧ d < lps) (hn4 : n < 4) (hl : t.s.length ≤ 4) (hx : p.L[s.at_]? = some ((12, (x : Int), (y : Int), (z : Int)) : Ins4)) :
    Calls Try.prog 116 #[.pointer (some ⟨b, 0, none⟩)] w fun e w' => e = .returned (.bool true) ∧ ∃ A' c', RunS rb w0 w' B b db p.val wv (.slice A' (t.s.length + 1) c') W lps { t with s := t.s ++ [(d, u, v)] } := by
  have h8 := hs.g8
  obtain ⟨c0, _, _, _, _, c13, c14⟩ := h.tails h8
  have H := hide h
  have H8 := hide h8
  have HP := hide hp
  have HX := hide hx
  unfold Sl.val at c0
  have d0 : decide (p.L.length ≤ s.at_) = false := decide_eq_false (by omega)
  have d1 : decide ((s.n : Int) < 120) = true := decide_eq_true (by omega)
  clear h h8 hp hx
  go_enter Try.func116, Try.ntmps116
  go_wp2_with fail
  go_quiet (fail)
  replace H := hide (H.out.drewN nq)
  clear c0 c13 c14
  generalize w.drewN nq = w1 at *
  clear nq
  have c14 := (H.out.tails H8.out).2.2.2.2.2.2
  have f14 := H.out.free 14
  go_upto_region 5 with (go_at_call 122; refine (need_ok _ _).mono ?_; rintro e w' ⟨rfl, rfl⟩)
  replace H := hide (H.out.setN H8.out (s.n + 1))
  clear c14 f14 d0 d1
  change Code.wp _ _ _ _ (w1.setCell ⟨b, 14, none⟩ (.int .i64 ((s.n + 1 : Nat) : Int)))
  generalize w1.setCell ⟨b, 14, none⟩ (.int .i64 ((s.n + 1 : Nat) : Int)) = w2 at *
  obtain ⟨ad, hA, q0, q1, q2, q3, _⟩ := (H.out.code HP.out).1 s.at_ _ HX.out
  obtain ⟨c0, _, _, _, _, c13, _⟩ := H.out.tails H8.out
  simp only [Sl.val, hA] at c0
  simp only at q0 q1 q2 q3
  have atI0 : (0 : Int) ≤ (s.at_ : Int) := by omega
  have atI1 : (s.at_ : Int) < (p.L.length : Int) := by omega
  have CD := hide (fun o => (show ∀ v pp, w2.cell? pp = some v → (w2.drew.alloc o).cell? pp = some v from fun v pp h => (World.cell?_alloc_lt w2.drew o _ (cell_lt h)).trans h))
  refine wp_region_reads (fun w' => w'.cell? ⟨b, 0, none⟩ = some (.slice (some ad) p.L.length p.c) ∧ w'.cell? ⟨b, 13, none⟩ = some (.int .i64 s.at_) ∧ w'.cell? (ad.add (s.at_ * 4)) = some (.int .i64 12) ∧ w'.cell? ⟨(ad.add (s.at_ * 4)).block, (ad.add (s.at_ * 4)).off + 1, none⟩ = some (.int .i64 (x : Int)) ∧ w'.cell? ⟨(ad.add (s.at_ * 4)).block, (ad.add (s.at_ * 4)).off + 2, none⟩ = some (.int .i64 (y : Int)) ∧ w'.cell? ⟨(ad.add (s.at_ * 4)).block, (ad.add (s.at_ * 4)).off + 3, none⟩ = some (.int .i64 (z : Int)))
    (.pointer (some ⟨b, 0, none⟩)) 9 1 (by kernel_rfl) (by kernel_rfl) (Or.inl ⟨by rfl, fun w => by rfl⟩) (fun _ _ _ h => h) ⟨c0, c13, q0, q1, q2, q3⟩ ?_
  replace CD := hide (fun o => And.intro (CD.out o _ _ c0) (And.intro (CD.out o _ _ c13) (And.intro (CD.out o _ _ q0) (And.intro (CD.out o _ _ q1) (And.intro (CD.out o _ _ q2) (CD.out o _ _ q3))))))
  clear c0 c13 q0 q1 q2 q3
  simp only [Act.put, List.setIfInBounds_toArray, List.set_cons_zero, List.set_cons_succ, List.take_succ_cons, List.take_zero, List.drop_succ_cons, List.drop_zero]
  repeat (refine head_step ?_ (by rfl) ?_ (fun _ _ _ h => h) ?_; rotate_left; (intro w' hs; obtain ⟨e0, e1, e2, e3, e4, e5⟩ := hs; go_simp; (try with_reducible rfl)); (try simp only [Act.put, List.setIfInBounds_toArray, List.set_cons_zero, List.set_cons_succ]))
  refine head_nil ?_
  refine mid_step _ (w2.drew.alloc (.cells #[.int .i64 0, .int .i64 0, .int .i64 0, .int .i64 0] 142)) (by rfl) (by go_simp; rfl) (CD.out _) ?_
  refine mid_nil ?_
  simp only [Act.put, List.setIfInBounds_toArray, List.set_cons_zero, List.set_cons_succ]
  clear CD
  go_upto_region 6 with fail
  have hBX := (Blk.new w2 142 #[.int .i64 12, .int .i64 (x : Int), .int .i64 (y : Int), .int .i64 (z : Int)]).drew
  have hbb := H.out.blk.lt
  replace H := hide (H.out.alloc (.cells #[.int .i64 12, .int .i64 (x : Int), .int .i64 (y : Int), .int .i64 (z : Int)] 142)).drew
  generalize (w2.alloc (.cells #[.int .i64 12, .int .i64 (x : Int), .int .i64 (y : Int), .int .i64 (z : Int)] 142)).drew = w3 at *
  generalize w2.heap.size = bx at *
  have c13 := (H.out.tails H8.out).2.2.2.2.2.1
  have f13 := H.out.free 13
  have HB := hide hBX
  clear hBX
  go_upto_region 7 with fail
  replace H := hide (H.out.setAt H8.out (s.at_ + 1))
  replace HB := hide (HB.out.far (p := ⟨b, 13, none⟩) (by simp only; omega) (.int .i64 ((s.at_ + 1 : Nat) : Int)))
  clear c13 f13
  change Code.wp _ _ _ _ (w3.setCell ⟨b, 13, none⟩ (.int .i64 ((s.at_ + 1 : Nat) : Int)))
  generalize w3.setCell ⟨b, 13, none⟩ (.int .i64 ((s.at_ + 1 : Nat) : Int)) = w4 at *
  clear HP HX hA atI0 atI1 hbb
  have ht := hs.tick hend
  replace H : Hid (RunS rb w0 w4 B b db p.val wv (.slice A n c) W lps s.tick) := H
  rw [htk] at H ht
  clear hs hend hn hlen htk
  replace H8 := hide ht.g8
  have b0 := HB.out.cell 0
  have b1 := HB.out.cell 1
  have b2 := HB.out.cell 2
  have b3 := HB.out.cell 3
  simp only [List.getElem?_toArray, List.getElem?_cons_zero, List.getElem?_cons_succ] at b0 b1 b2 b3
  have SO := hide (send_ok rb w0 w4 B b db p.val wv W lps t x y z n c A d u v H.out H8.out hx8 hy8 hz8 hd hu hv hok hn4 hl)
  clear hok hd hu hv
  go_wp2_with fail
  refine SO.out.mono ?_
  rintro e w5 ⟨rfl, A1, c1, h1⟩
  go_wp2_with fail
  go_ret
  exact ⟨rfl, A1, c1, h1⟩
set_option maxHeartbeats 1000000 in
theorem step_nodst (rb : Option Nat) (w0 w : World) (B b db : Nat) (p : Sl Ins4) (wv sv : Value) (W lps : Int) (s : VS) (nw : Nat) (h : RunS rb w0 w B b db p.val wv sv W lps s) (hs : s.Ok p.L.length nw lps) (hp : p.At InsAt 4 w0) (hlen : p.L.length ≤ 1000) (hend : s.at_ < p.L.length) (hn : s.n < 120) (t : VS) (htk : s.tick = t) (x y z : Nat) (hx8 : x < 8) (d : Int) (hd : t.reg x = d) (hbad : d < 0 ∨ lps ≤ d) (hx : p.L[s.at_]? = some ((12, (x : Int), (y : Int), (z : Int)) : Ins4)) :
    Calls Try.prog 116 #[.pointer (some ⟨b, 0, none⟩)] w fun e w' => e = .panicked (faultP 6) ∧ RunS rb w0 w' B b db p.val wv sv W lps t := by
  have h8 := hs.g8
  obtain ⟨c0, _, _, _, _, c13, c14⟩ := h.tails h8
  have H := hide h
  have H8 := hide h8
  have HP := hide hp
  have HX := hide hx
  unfold Sl.val at c0
  have d0 : decide (p.L.length ≤ s.at_) = false := decide_eq_false (by omega)
  have d1 : decide ((s.n : Int) < 120) = true := decide_eq_true (by omega)
  clear h h8 hp hx
  go_enter Try.func116, Try.ntmps116
  go_wp2_with fail
  go_quiet (fail)
  replace H := hide (H.out.drewN nq)
  clear c0 c13 c14
  generalize w.drewN nq = w1 at *
  clear nq
  have c14 := (H.out.tails H8.out).2.2.2.2.2.2
  have f14 := H.out.free 14
  go_upto_region 5 with (go_at_call 122; refine (need_ok _ _).mono ?_; rintro e w' ⟨rfl, rfl⟩)
  replace H := hide (H.out.setN H8.out (s.n + 1))
  clear c14 f14 d0 d1
  change Code.wp _ _ _ _ (w1.setCell ⟨b, 14, none⟩ (.int .i64 ((s.n + 1 : Nat) : Int)))
  generalize w1.setCell ⟨b, 14, none⟩ (.int .i64 ((s.n + 1 : Nat) : Int)) = w2 at *
  obtain ⟨ad, hA, q0, q1, q2, q3, _⟩ := (H.out.code HP.out).1 s.at_ _ HX.out
  obtain ⟨c0, _, _, _, _, c13, _⟩ := H.out.tails H8.out
  simp only [Sl.val, hA] at c0
  simp only at q0 q1 q2 q3
  have atI0 : (0 : Int) ≤ (s.at_ : Int) := by omega
  have atI1 : (s.at_ : Int) < (p.L.length : Int) := by omega
  have CD := hide (fun o => (show ∀ v pp, w2.cell? pp = some v → (w2.drew.alloc o).cell? pp = some v from fun v pp h => (World.cell?_alloc_lt w2.drew o _ (cell_lt h)).trans h))
  refine wp_region_reads (fun w' => w'.cell? ⟨b, 0, none⟩ = some (.slice (some ad) p.L.length p.c) ∧ w'.cell? ⟨b, 13, none⟩ = some (.int .i64 s.at_) ∧ w'.cell? (ad.add (s.at_ * 4)) = some (.int .i64 12) ∧ w'.cell? ⟨(ad.add (s.at_ * 4)).block, (ad.add (s.at_ * 4)).off + 1, none⟩ = some (.int .i64 (x : Int)) ∧ w'.cell? ⟨(ad.add (s.at_ * 4)).block, (ad.add (s.at_ * 4)).off + 2, none⟩ = some (.int .i64 (y : Int)) ∧ w'.cell? ⟨(ad.add (s.at_ * 4)).block, (ad.add (s.at_ * 4)).off + 3, none⟩ = some (.int .i64 (z : Int)))
    (.pointer (some ⟨b, 0, none⟩)) 9 1 (by kernel_rfl) (by kernel_rfl) (Or.inl ⟨by rfl, fun w => by rfl⟩) (fun _ _ _ h => h) ⟨c0, c13, q0, q1, q2, q3⟩ ?_
  replace CD := hide (fun o => And.intro (CD.out o _ _ c0) (And.intro (CD.out o _ _ c13) (And.intro (CD.out o _ _ q0) (And.intro (CD.out o _ _ q1) (And.intro (CD.out o _ _ q2) (CD.out o _ _ q3))))))
  clear c0 c13 q0 q1 q2 q3
  simp only [Act.put, List.setIfInBounds_toArray, List.set_cons_zero, List.set_cons_succ, List.take_succ_cons, List.take_zero, List.drop_succ_cons, List.drop_zero]
  repeat (refine head_step ?_ (by rfl) ?_ (fun _ _ _ h => h) ?_; rotate_left; (intro w' hs; obtain ⟨e0, e1, e2, e3, e4, e5⟩ := hs; go_simp; (try with_reducible rfl)); (try simp only [Act.put, List.setIfInBounds_toArray, List.set_cons_zero, List.set_cons_succ]))
  refine head_nil ?_
  refine mid_step _ (w2.drew.alloc (.cells #[.int .i64 0, .int .i64 0, .int .i64 0, .int .i64 0] 142)) (by rfl) (by go_simp; rfl) (CD.out _) ?_
  refine mid_nil ?_
  simp only [Act.put, List.setIfInBounds_toArray, List.set_cons_zero, List.set_cons_succ]
  clear CD
  go_upto_region 6 with fail
  have hBX := (Blk.new w2 142 #[.int .i64 12, .int .i64 (x : Int), .int .i64 (y : Int), .int .i64 (z : Int)]).drew
  have hbb := H.out.blk.lt
  replace H := hide (H.out.alloc (.cells #[.int .i64 12, .int .i64 (x : Int), .int .i64 (y : Int), .int .i64 (z : Int)] 142)).drew
  generalize (w2.alloc (.cells #[.int .i64 12, .int .i64 (x : Int), .int .i64 (y : Int), .int .i64 (z : Int)] 142)).drew = w3 at *
  generalize w2.heap.size = bx at *
  have c13 := (H.out.tails H8.out).2.2.2.2.2.1
  have f13 := H.out.free 13
  have HB := hide hBX
  clear hBX
  go_upto_region 7 with fail
  replace H := hide (H.out.setAt H8.out (s.at_ + 1))
  replace HB := hide (HB.out.far (p := ⟨b, 13, none⟩) (by simp only; omega) (.int .i64 ((s.at_ + 1 : Nat) : Int)))
  clear c13 f13
  change Code.wp _ _ _ _ (w3.setCell ⟨b, 13, none⟩ (.int .i64 ((s.at_ + 1 : Nat) : Int)))
  generalize w3.setCell ⟨b, 13, none⟩ (.int .i64 ((s.at_ + 1 : Nat) : Int)) = w4 at *
  clear HP HX hA atI0 atI1 hbb
  have ht := hs.tick hend
  replace H : Hid (RunS rb w0 w4 B b db p.val wv sv W lps s.tick) := H
  rw [htk] at H ht
  clear hs hend hn hlen htk
  replace H8 := hide ht.g8
  have b0 := HB.out.cell 0
  have b1 := HB.out.cell 1
  have b2 := HB.out.cell 2
  have b3 := HB.out.cell 3
  simp only [List.getElem?_toArray, List.getElem?_cons_zero, List.getElem?_cons_succ] at b0 b1 b2 b3
  have SO := hide (send_dst rb w0 w4 B b db p.val wv sv W lps t x y z d H.out H8.out hx8 hd hbad)
  clear hbad hd
  go_wp2_with fail
  refine SO.out.mono ?_
  rintro e w5 ⟨rfl, h1⟩
  exact ⟨rfl, rfl, h1⟩
set_option maxHeartbeats 1000000 in
theorem step_full (rb : Option Nat) (w0 w : World) (B b db x y z n c : Nat) (A : Option Addr) (p : Sl Ins4) (wv : Value) (W lps : Int) (s : VS) (nw : Nat) (h : RunS rb w0 w B b db p.val wv (.slice A n c) W lps s) (hs : s.Ok p.L.length nw lps) (hp : p.At InsAt 4 w0) (hlen : p.L.length ≤ 1000) (hend : s.at_ < p.L.length) (hn : s.n < 120) (t : VS) (htk : s.tick = t) (hx8 : x < 8) (d : Int) (hd : t.reg x = d) (hok : 0 ≤ d ∧ d < lps) (hn4 : 4 ≤ n) (hx : p.L[s.at_]? = some ((12, (x : Int), (y : Int), (z : Int)) : Ins4)) :
    Calls Try.prog 116 #[.pointer (some ⟨b, 0, none⟩)] w fun e w' => e = .panicked (faultP 5) ∧ RunS rb w0 w' B b db p.val wv (.slice A n c) W lps t := by
  have h8 := hs.g8
  obtain ⟨c0, _, _, _, _, c13, c14⟩ := h.tails h8
  have H := hide h
  have H8 := hide h8
  have HP := hide hp
  have HX := hide hx
  unfold Sl.val at c0
  have d0 : decide (p.L.length ≤ s.at_) = false := decide_eq_false (by omega)
  have d1 : decide ((s.n : Int) < 120) = true := decide_eq_true (by omega)
  clear h h8 hp hx
  go_enter Try.func116, Try.ntmps116
  go_wp2_with fail
  go_quiet (fail)
  replace H := hide (H.out.drewN nq)
  clear c0 c13 c14
  generalize w.drewN nq = w1 at *
  clear nq
  have c14 := (H.out.tails H8.out).2.2.2.2.2.2
  have f14 := H.out.free 14
  go_upto_region 5 with (go_at_call 122; refine (need_ok _ _).mono ?_; rintro e w' ⟨rfl, rfl⟩)
  replace H := hide (H.out.setN H8.out (s.n + 1))
  clear c14 f14 d0 d1
  change Code.wp _ _ _ _ (w1.setCell ⟨b, 14, none⟩ (.int .i64 ((s.n + 1 : Nat) : Int)))
  generalize w1.setCell ⟨b, 14, none⟩ (.int .i64 ((s.n + 1 : Nat) : Int)) = w2 at *
  obtain ⟨ad, hA, q0, q1, q2, q3, _⟩ := (H.out.code HP.out).1 s.at_ _ HX.out
  obtain ⟨c0, _, _, _, _, c13, _⟩ := H.out.tails H8.out
  simp only [Sl.val, hA] at c0
  simp only at q0 q1 q2 q3
  have atI0 : (0 : Int) ≤ (s.at_ : Int) := by omega
  have atI1 : (s.at_ : Int) < (p.L.length : Int) := by omega
  have CD := hide (fun o => (show ∀ v pp, w2.cell? pp = some v → (w2.drew.alloc o).cell? pp = some v from fun v pp h => (World.cell?_alloc_lt w2.drew o _ (cell_lt h)).trans h))
  refine wp_region_reads (fun w' => w'.cell? ⟨b, 0, none⟩ = some (.slice (some ad) p.L.length p.c) ∧ w'.cell? ⟨b, 13, none⟩ = some (.int .i64 s.at_) ∧ w'.cell? (ad.add (s.at_ * 4)) = some (.int .i64 12) ∧ w'.cell? ⟨(ad.add (s.at_ * 4)).block, (ad.add (s.at_ * 4)).off + 1, none⟩ = some (.int .i64 (x : Int)) ∧ w'.cell? ⟨(ad.add (s.at_ * 4)).block, (ad.add (s.at_ * 4)).off + 2, none⟩ = some (.int .i64 (y : Int)) ∧ w'.cell? ⟨(ad.add (s.at_ * 4)).block, (ad.add (s.at_ * 4)).off + 3, none⟩ = some (.int .i64 (z : Int)))
    (.pointer (some ⟨b, 0, none⟩)) 9 1 (by kernel_rfl) (by kernel_rfl) (Or.inl ⟨by rfl, fun w => by rfl⟩) (fun _ _ _ h => h) ⟨c0, c13, q0, q1, q2, q3⟩ ?_
  replace CD := hide (fun o => And.intro (CD.out o _ _ c0) (And.intro (CD.out o _ _ c13) (And.intro (CD.out o _ _ q0) (And.intro (CD.out o _ _ q1) (And.intro (CD.out o _ _ q2) (CD.out o _ _ q3))))))
  clear c0 c13 q0 q1 q2 q3
  simp only [Act.put, List.setIfInBounds_toArray, List.set_cons_zero, List.set_cons_succ, List.take_succ_cons, List.take_zero, List.drop_succ_cons, List.drop_zero]
  repeat (refine head_step ?_ (by rfl) ?_ (fun _ _ _ h => h) ?_; rotate_left; (intro w' hs; obtain ⟨e0, e1, e2, e3, e4, e5⟩ := hs; go_simp; (try with_reducible rfl)); (try simp only [Act.put, List.setIfInBounds_toArray, List.set_cons_zero, List.set_cons_succ]))
  refine head_nil ?_
  refine mid_step _ (w2.drew.alloc (.cells #[.int .i64 0, .int .i64 0, .int .i64 0, .int .i64 0] 142)) (by rfl) (by go_simp; rfl) (CD.out _) ?_
  refine mid_nil ?_
  simp only [Act.put, List.setIfInBounds_toArray, List.set_cons_zero, List.set_cons_succ]
  clear CD
  go_upto_region 6 with fail
  have hBX := (Blk.new w2 142 #[.int .i64 12, .int .i64 (x : Int), .int .i64 (y : Int), .int .i64 (z : Int)]).drew
  have hbb := H.out.blk.lt
  replace H := hide (H.out.alloc (.cells #[.int .i64 12, .int .i64 (x : Int), .int .i64 (y : Int), .int .i64 (z : Int)] 142)).drew
  generalize (w2.alloc (.cells #[.int .i64 12, .int .i64 (x : Int), .int .i64 (y : Int), .int .i64 (z : Int)] 142)).drew = w3 at *
  generalize w2.heap.size = bx at *
  have c13 := (H.out.tails H8.out).2.2.2.2.2.1
  have f13 := H.out.free 13
  have HB := hide hBX
  clear hBX
  go_upto_region 7 with fail
  replace H := hide (H.out.setAt H8.out (s.at_ + 1))
  replace HB := hide (HB.out.far (p := ⟨b, 13, none⟩) (by simp only; omega) (.int .i64 ((s.at_ + 1 : Nat) : Int)))
  clear c13 f13
  change Code.wp _ _ _ _ (w3.setCell ⟨b, 13, none⟩ (.int .i64 ((s.at_ + 1 : Nat) : Int)))
  generalize w3.setCell ⟨b, 13, none⟩ (.int .i64 ((s.at_ + 1 : Nat) : Int)) = w4 at *
  clear HP HX hA atI0 atI1 hbb
  have ht := hs.tick hend
  replace H : Hid (RunS rb w0 w4 B b db p.val wv (.slice A n c) W lps s.tick) := H
  rw [htk] at H ht
  clear hs hend hn hlen htk
  replace H8 := hide ht.g8
  have b0 := HB.out.cell 0
  have b1 := HB.out.cell 1
  have b2 := HB.out.cell 2
  have b3 := HB.out.cell 3
  simp only [List.getElem?_toArray, List.getElem?_cons_zero, List.getElem?_cons_succ] at b0 b1 b2 b3
  have SO := hide (send_full rb w0 w4 B b db p.val wv W lps t x y z n c A d H.out H8.out hx8 hd hok hn4)
  clear hok hd
  go_wp2_with fail
  refine SO.out.mono ?_
  rintro e w5 ⟨rfl, h1⟩
  exact ⟨rfl, rfl, h1⟩
set_option maxHeartbeats 2000000 in
theorem step_load (rb : Option Nat) (w0 w : World) (B b db x y k g n c : Nat) (p : Sl Ins4) (sv : Value) (W lps : Int) (s : VS) (nw : Nat) (h : RunS rb w0 w B b db p.val (.slice (some ⟨g, 0, none⟩) n c) sv W lps s) (hs : s.Ok p.L.length nw lps) (hp : p.At InsAt 4 w0) (hlen : p.L.length ≤ 1000) (hend : s.at_ < p.L.length) (hn : s.n < 120) (t : VS) (htk : s.tick = t) (hx8 : x < 8) (hy8 : y < 8) (xc v : Int) (hk : t.reg y = k) (hkn : k < n) (hnw : n = t.w.length) (hv : t.w.getD k 0 = v) (hx : p.L[s.at_]? = some ((13, (x : Int), (y : Int), xc) : Ins4)) :
    Calls Try.prog 116 #[.pointer (some ⟨b, 0, none⟩)] w fun e w' => e = .returned (.bool true) ∧ RunS rb w0 w' B b db p.val (.slice (some ⟨g, 0, none⟩) n c) sv W lps (t.put x v) := by
  have h8 := hs.g8
  obtain ⟨c0, _, _, _, _, c13, c14⟩ := h.tails h8
  have H := hide h
  have H8 := hide h8
  have HP := hide hp
  have HX := hide hx
  unfold Sl.val at c0
  have d0 : decide (p.L.length ≤ s.at_) = false := decide_eq_false (by omega)
  have d1 : decide ((s.n : Int) < 120) = true := decide_eq_true (by omega)
  clear h h8 hp hx
  go_enter Try.func116, Try.ntmps116
  go_wp2_with fail
  go_quiet (fail)
  replace H := hide (H.out.drewN nq)
  clear c0 c13 c14
  generalize w.drewN nq = w1 at *
  clear nq
  have c14 := (H.out.tails H8.out).2.2.2.2.2.2
  have f14 := H.out.free 14
  go_upto_region 5 with (go_at_call 122; refine (need_ok _ _).mono ?_; rintro e w' ⟨rfl, rfl⟩)
  replace H := hide (H.out.setN H8.out (s.n + 1))
  clear c14 f14 d0 d1
  change Code.wp _ _ _ _ (w1.setCell ⟨b, 14, none⟩ (.int .i64 ((s.n + 1 : Nat) : Int)))
  generalize w1.setCell ⟨b, 14, none⟩ (.int .i64 ((s.n + 1 : Nat) : Int)) = w2 at *
  obtain ⟨ad, hA, q0, q1, q2, q3, _⟩ := (H.out.code HP.out).1 s.at_ _ HX.out
  obtain ⟨c0, _, _, _, _, c13, _⟩ := H.out.tails H8.out
  simp only [Sl.val, hA] at c0
  simp only at q0 q1 q2 q3
  have atI0 : (0 : Int) ≤ (s.at_ : Int) := by omega
  have atI1 : (s.at_ : Int) < (p.L.length : Int) := by omega
  have CD := hide (fun o => (show ∀ v pp, w2.cell? pp = some v → (w2.drew.alloc o).cell? pp = some v from fun v pp h => (World.cell?_alloc_lt w2.drew o _ (cell_lt h)).trans h))
  refine wp_region_reads (fun w' => w'.cell? ⟨b, 0, none⟩ = some (.slice (some ad) p.L.length p.c) ∧ w'.cell? ⟨b, 13, none⟩ = some (.int .i64 s.at_) ∧ w'.cell? (ad.add (s.at_ * 4)) = some (.int .i64 13) ∧ w'.cell? ⟨(ad.add (s.at_ * 4)).block, (ad.add (s.at_ * 4)).off + 1, none⟩ = some (.int .i64 (x : Int)) ∧ w'.cell? ⟨(ad.add (s.at_ * 4)).block, (ad.add (s.at_ * 4)).off + 2, none⟩ = some (.int .i64 (y : Int)) ∧ w'.cell? ⟨(ad.add (s.at_ * 4)).block, (ad.add (s.at_ * 4)).off + 3, none⟩ = some (.int .i64 xc))
    (.pointer (some ⟨b, 0, none⟩)) 9 1 (by kernel_rfl) (by kernel_rfl) (Or.inl ⟨by rfl, fun w => by rfl⟩) (fun _ _ _ h => h) ⟨c0, c13, q0, q1, q2, q3⟩ ?_
  replace CD := hide (fun o => And.intro (CD.out o _ _ c0) (And.intro (CD.out o _ _ c13) (And.intro (CD.out o _ _ q0) (And.intro (CD.out o _ _ q1) (And.intro (CD.out o _ _ q2) (CD.out o _ _ q3))))))
  clear c0 c13 q0 q1 q2 q3
  simp only [Act.put, List.setIfInBounds_toArray, List.set_cons_zero, List.set_cons_succ, List.take_succ_cons, List.take_zero, List.drop_succ_cons, List.drop_zero]
  repeat (refine head_step ?_ (by rfl) ?_ (fun _ _ _ h => h) ?_; rotate_left; (intro w' hs; obtain ⟨e0, e1, e2, e3, e4, e5⟩ := hs; go_simp; (try with_reducible rfl)); (try simp only [Act.put, List.setIfInBounds_toArray, List.set_cons_zero, List.set_cons_succ]))
  refine head_nil ?_
  refine mid_step _ (w2.drew.alloc (.cells #[.int .i64 0, .int .i64 0, .int .i64 0, .int .i64 0] 142)) (by rfl) (by go_simp; rfl) (CD.out _) ?_
  refine mid_nil ?_
  simp only [Act.put, List.setIfInBounds_toArray, List.set_cons_zero, List.set_cons_succ]
  clear CD
  go_upto_region 6 with fail
  have hBX := (Blk.new w2 142 #[.int .i64 13, .int .i64 (x : Int), .int .i64 (y : Int), .int .i64 xc]).drew
  have hbb := H.out.blk.lt
  replace H := hide (H.out.alloc (.cells #[.int .i64 13, .int .i64 (x : Int), .int .i64 (y : Int), .int .i64 xc] 142)).drew
  generalize (w2.alloc (.cells #[.int .i64 13, .int .i64 (x : Int), .int .i64 (y : Int), .int .i64 xc] 142)).drew = w3 at *
  generalize w2.heap.size = bx at *
  have c13 := (H.out.tails H8.out).2.2.2.2.2.1
  have f13 := H.out.free 13
  have HB := hide hBX
  clear hBX
  go_upto_region 7 with fail
  replace H := hide (H.out.setAt H8.out (s.at_ + 1))
  replace HB := hide (HB.out.far (p := ⟨b, 13, none⟩) (by simp only; omega) (.int .i64 ((s.at_ + 1 : Nat) : Int)))
  clear c13 f13
  change Code.wp _ _ _ _ (w3.setCell ⟨b, 13, none⟩ (.int .i64 ((s.at_ + 1 : Nat) : Int)))
  generalize w3.setCell ⟨b, 13, none⟩ (.int .i64 ((s.at_ + 1 : Nat) : Int)) = w4 at *
  clear HP HX hA atI0 atI1 hbb
  have ht := hs.tick hend
  replace H : Hid (RunS rb w0 w4 B b db p.val (.slice (some ⟨g, 0, none⟩) n c) sv W lps s.tick) := H
  rw [htk] at H ht
  clear hs hend hn hlen htk
  replace H8 := hide ht.g8
  have b0 := HB.out.cell 0
  have b1 := HB.out.cell 1
  have b2 := HB.out.cell 2
  have b3 := HB.out.cell 3
  simp only [List.getElem?_toArray, List.getElem?_cons_zero, List.getElem?_cons_succ] at b0 b1 b2 b3
  have xI0 : (0 : Int) ≤ (x : Int) := by omega
  have xI1 : (x : Int) < 8 := by omega
  have yI0 : (0 : Int) ≤ (y : Int) := by omega
  have yI1 : (y : Int) < 8 := by omega
  go_upto_region 27 with fail
  refine wp_region_still_tail 12 (by kernel_rfl) (by kernel_rfl) ?_
  change wpStill _ _ w4.drew _ _ _
  change wpStill _ _ _ (fun a' => wpList Try.prog _ _ _ a' w4.drew) _ _
  replace H := hide H.out.drew
  replace HB := hide HB.out.drew
  have WD := hide ((word_ok rb w0 w4.drew B b db p.val sv W lps t c n y k g H.out H8.out hy8 hk hkn).mono fun e w' (h : _ ∧ _) => And.intro h.1 h.2.symm)
  clear b0 b1 b2 b3
  generalize w4.drew = w5 at *
  have b1 := HB.out.cell 1
  have b2 := HB.out.cell 2
  simp only [List.getElem?_toArray, List.getElem?_cons_zero, List.getElem?_cons_succ] at b1 b2
  have cw := (H.out.wordC hnw hkn).1
  rw [hv] at cw
  have HN := hide hnw
  clear hv hnw hkn hk
  have cx := H.out.regC H8.out hx8
  have fx := H.out.free (1 + x)
  simp only [List.take_succ_cons, List.take_zero, List.drop_succ_cons, List.drop_zero]
  repeat (first
    | still_step
    | (still_call (WD.out)))
  refine wpStill_nil ?_
  clear b1 b2
  go_wp2_with fail
  go_ret
  exact ⟨rfl, H.out.put H8.out hx8 _⟩
set_option maxHeartbeats 2000000 in
theorem step_store (rb : Option Nat) (w0 w : World) (B b db x y k g n c : Nat) (p : Sl Ins4) (sv : Value) (W lps : Int) (s : VS) (nw : Nat) (h : RunS rb w0 w B b db p.val (.slice (some ⟨g, 0, none⟩) n c) sv W lps s) (hs : s.Ok p.L.length nw lps) (hp : p.At InsAt 4 w0) (hlen : p.L.length ≤ 1000) (hend : s.at_ < p.L.length) (hn : s.n < 120) (t : VS) (htk : s.tick = t) (hx8 : x < 8) (hy8 : y < 8) (xc v : Int) (hv : t.reg y = v) (hk : t.reg x = k) (hkn : k < n) (hnw : n = t.w.length) (hx : p.L[s.at_]? = some ((14, (x : Int), (y : Int), xc) : Ins4)) :
    Calls Try.prog 116 #[.pointer (some ⟨b, 0, none⟩)] w fun e w' => e = .returned (.bool true) ∧ RunS rb w0 w' B b db p.val (.slice (some ⟨g, 0, none⟩) n c) sv W lps { t with w := t.w.set k v } := by
  have h8 := hs.g8
  obtain ⟨c0, _, _, _, _, c13, c14⟩ := h.tails h8
  have H := hide h
  have H8 := hide h8
  have HP := hide hp
  have HX := hide hx
  unfold Sl.val at c0
  have d0 : decide (p.L.length ≤ s.at_) = false := decide_eq_false (by omega)
  have d1 : decide ((s.n : Int) < 120) = true := decide_eq_true (by omega)
  clear h h8 hp hx
  go_enter Try.func116, Try.ntmps116
  go_wp2_with fail
  go_quiet (fail)
  replace H := hide (H.out.drewN nq)
  clear c0 c13 c14
  generalize w.drewN nq = w1 at *
  clear nq
  have c14 := (H.out.tails H8.out).2.2.2.2.2.2
  have f14 := H.out.free 14
  go_upto_region 5 with (go_at_call 122; refine (need_ok _ _).mono ?_; rintro e w' ⟨rfl, rfl⟩)
  replace H := hide (H.out.setN H8.out (s.n + 1))
  clear c14 f14 d0 d1
  change Code.wp _ _ _ _ (w1.setCell ⟨b, 14, none⟩ (.int .i64 ((s.n + 1 : Nat) : Int)))
  generalize w1.setCell ⟨b, 14, none⟩ (.int .i64 ((s.n + 1 : Nat) : Int)) = w2 at *
  obtain ⟨ad, hA, q0, q1, q2, q3, _⟩ := (H.out.code HP.out).1 s.at_ _ HX.out
  obtain ⟨c0, _, _, _, _, c13, _⟩ := H.out.tails H8.out
  simp only [Sl.val, hA] at c0
  simp only at q0 q1 q2 q3
  have atI0 : (0 : Int) ≤ (s.at_ : Int) := by omega
  have atI1 : (s.at_ : Int) < (p.L.length : Int) := by omega
  have CD := hide (fun o => (show ∀ v pp, w2.cell? pp = some v → (w2.drew.alloc o).cell? pp = some v from fun v pp h => (World.cell?_alloc_lt w2.drew o _ (cell_lt h)).trans h))
  refine wp_region_reads (fun w' => w'.cell? ⟨b, 0, none⟩ = some (.slice (some ad) p.L.length p.c) ∧ w'.cell? ⟨b, 13, none⟩ = some (.int .i64 s.at_) ∧ w'.cell? (ad.add (s.at_ * 4)) = some (.int .i64 14) ∧ w'.cell? ⟨(ad.add (s.at_ * 4)).block, (ad.add (s.at_ * 4)).off + 1, none⟩ = some (.int .i64 (x : Int)) ∧ w'.cell? ⟨(ad.add (s.at_ * 4)).block, (ad.add (s.at_ * 4)).off + 2, none⟩ = some (.int .i64 (y : Int)) ∧ w'.cell? ⟨(ad.add (s.at_ * 4)).block, (ad.add (s.at_ * 4)).off + 3, none⟩ = some (.int .i64 xc))
    (.pointer (some ⟨b, 0, none⟩)) 9 1 (by kernel_rfl) (by kernel_rfl) (Or.inl ⟨by rfl, fun w => by rfl⟩) (fun _ _ _ h => h) ⟨c0, c13, q0, q1, q2, q3⟩ ?_
  replace CD := hide (fun o => And.intro (CD.out o _ _ c0) (And.intro (CD.out o _ _ c13) (And.intro (CD.out o _ _ q0) (And.intro (CD.out o _ _ q1) (And.intro (CD.out o _ _ q2) (CD.out o _ _ q3))))))
  clear c0 c13 q0 q1 q2 q3
  simp only [Act.put, List.setIfInBounds_toArray, List.set_cons_zero, List.set_cons_succ, List.take_succ_cons, List.take_zero, List.drop_succ_cons, List.drop_zero]
  repeat (refine head_step ?_ (by rfl) ?_ (fun _ _ _ h => h) ?_; rotate_left; (intro w' hs; obtain ⟨e0, e1, e2, e3, e4, e5⟩ := hs; go_simp; (try with_reducible rfl)); (try simp only [Act.put, List.setIfInBounds_toArray, List.set_cons_zero, List.set_cons_succ]))
  refine head_nil ?_
  refine mid_step _ (w2.drew.alloc (.cells #[.int .i64 0, .int .i64 0, .int .i64 0, .int .i64 0] 142)) (by rfl) (by go_simp; rfl) (CD.out _) ?_
  refine mid_nil ?_
  simp only [Act.put, List.setIfInBounds_toArray, List.set_cons_zero, List.set_cons_succ]
  clear CD
  go_upto_region 6 with fail
  have hBX := (Blk.new w2 142 #[.int .i64 14, .int .i64 (x : Int), .int .i64 (y : Int), .int .i64 xc]).drew
  have hbb := H.out.blk.lt
  replace H := hide (H.out.alloc (.cells #[.int .i64 14, .int .i64 (x : Int), .int .i64 (y : Int), .int .i64 xc] 142)).drew
  generalize (w2.alloc (.cells #[.int .i64 14, .int .i64 (x : Int), .int .i64 (y : Int), .int .i64 xc] 142)).drew = w3 at *
  generalize w2.heap.size = bx at *
  have c13 := (H.out.tails H8.out).2.2.2.2.2.1
  have f13 := H.out.free 13
  have HB := hide hBX
  clear hBX
  go_upto_region 7 with fail
  replace H := hide (H.out.setAt H8.out (s.at_ + 1))
  replace HB := hide (HB.out.far (p := ⟨b, 13, none⟩) (by simp only; omega) (.int .i64 ((s.at_ + 1 : Nat) : Int)))
  clear c13 f13
  change Code.wp _ _ _ _ (w3.setCell ⟨b, 13, none⟩ (.int .i64 ((s.at_ + 1 : Nat) : Int)))
  generalize w3.setCell ⟨b, 13, none⟩ (.int .i64 ((s.at_ + 1 : Nat) : Int)) = w4 at *
  clear HP HX hA atI0 atI1 hbb
  have ht := hs.tick hend
  replace H : Hid (RunS rb w0 w4 B b db p.val (.slice (some ⟨g, 0, none⟩) n c) sv W lps s.tick) := H
  rw [htk] at H ht
  clear hs hend hn hlen htk
  replace H8 := hide ht.g8
  have b0 := HB.out.cell 0
  have b1 := HB.out.cell 1
  have b2 := HB.out.cell 2
  have b3 := HB.out.cell 3
  simp only [List.getElem?_toArray, List.getElem?_cons_zero, List.getElem?_cons_succ] at b0 b1 b2 b3
  have xI0 : (0 : Int) ≤ (x : Int) := by omega
  have xI1 : (x : Int) < 8 := by omega
  have yI0 : (0 : Int) ≤ (y : Int) := by omega
  have yI1 : (y : Int) < 8 := by omega
  go_upto_region 29 with fail
  refine wp_region_still_tail 12 (by kernel_rfl) (by kernel_rfl) ?_
  change wpStill _ _ w4.drew _ _ _
  change wpStill _ _ _ (fun a' => wpList Try.prog _ _ _ a' w4.drew) _ _
  replace H := hide H.out.drew
  replace HB := hide HB.out.drew
  have WD := hide ((word_ok rb w0 w4.drew B b db p.val sv W lps t c n x k g H.out H8.out hx8 hk hkn).mono fun e w' (h : _ ∧ _) => And.intro h.1 h.2.symm)
  clear b0 b1 b2 b3
  generalize w4.drew = w5 at *
  have b1 := HB.out.cell 1
  have b2 := HB.out.cell 2
  simp only [List.getElem?_toArray, List.getElem?_cons_zero, List.getElem?_cons_succ] at b1 b2
  have cw := (H.out.wordC hnw hkn).1
  have fw := (H.out.wordC hnw hkn).2
  have cy := H.out.regC H8.out hy8
  rw [hv] at cy
  have HN := hide hnw
  clear hv hk hkn hnw
  simp only [List.take_succ_cons, List.take_zero, List.drop_succ_cons, List.drop_zero]
  repeat (first
    | still_step
    | (still_call (WD.out)))
  refine wpStill_nil ?_
  clear b1 b2
  go_wp2_with fail
  go_ret
  exact ⟨rfl, H.out.setW HN.out k v⟩
set_option maxHeartbeats 2000000 in
theorem step_noload (rb : Option Nat) (w0 w : World) (B b db y n c : Nat) (A : Option Addr) (p : Sl Ins4) (sv : Value) (W lps : Int) (s : VS) (nw : Nat) (h : RunS rb w0 w B b db p.val (.slice A n c) sv W lps s) (hs : s.Ok p.L.length nw lps) (hp : p.At InsAt 4 w0) (hlen : p.L.length ≤ 1000) (hend : s.at_ < p.L.length) (hn : s.n < 120) (t : VS) (htk : s.tick = t) (hy8 : y < 8) (xa xc : Int) (hk : t.reg y < 0 ∨ (n : Int) ≤ t.reg y) (hx : p.L[s.at_]? = some ((13, xa, (y : Int), xc) : Ins4)) :
    Calls Try.prog 116 #[.pointer (some ⟨b, 0, none⟩)] w fun e w' => e = .panicked (faultP 3) ∧ RunS rb w0 w' B b db p.val (.slice A n c) sv W lps t := by
  have h8 := hs.g8
  obtain ⟨c0, _, _, _, _, c13, c14⟩ := h.tails h8
  have H := hide h
  have H8 := hide h8
  have HP := hide hp
  have HX := hide hx
  unfold Sl.val at c0
  have d0 : decide (p.L.length ≤ s.at_) = false := decide_eq_false (by omega)
  have d1 : decide ((s.n : Int) < 120) = true := decide_eq_true (by omega)
  clear h h8 hp hx
  go_enter Try.func116, Try.ntmps116
  go_wp2_with fail
  go_quiet (fail)
  replace H := hide (H.out.drewN nq)
  clear c0 c13 c14
  generalize w.drewN nq = w1 at *
  clear nq
  have c14 := (H.out.tails H8.out).2.2.2.2.2.2
  have f14 := H.out.free 14
  go_upto_region 5 with (go_at_call 122; refine (need_ok _ _).mono ?_; rintro e w' ⟨rfl, rfl⟩)
  replace H := hide (H.out.setN H8.out (s.n + 1))
  clear c14 f14 d0 d1
  change Code.wp _ _ _ _ (w1.setCell ⟨b, 14, none⟩ (.int .i64 ((s.n + 1 : Nat) : Int)))
  generalize w1.setCell ⟨b, 14, none⟩ (.int .i64 ((s.n + 1 : Nat) : Int)) = w2 at *
  obtain ⟨ad, hA, q0, q1, q2, q3, _⟩ := (H.out.code HP.out).1 s.at_ _ HX.out
  obtain ⟨c0, _, _, _, _, c13, _⟩ := H.out.tails H8.out
  simp only [Sl.val, hA] at c0
  simp only at q0 q1 q2 q3
  have atI0 : (0 : Int) ≤ (s.at_ : Int) := by omega
  have atI1 : (s.at_ : Int) < (p.L.length : Int) := by omega
  have CD := hide (fun o => (show ∀ v pp, w2.cell? pp = some v → (w2.drew.alloc o).cell? pp = some v from fun v pp h => (World.cell?_alloc_lt w2.drew o _ (cell_lt h)).trans h))
  refine wp_region_reads (fun w' => w'.cell? ⟨b, 0, none⟩ = some (.slice (some ad) p.L.length p.c) ∧ w'.cell? ⟨b, 13, none⟩ = some (.int .i64 s.at_) ∧ w'.cell? (ad.add (s.at_ * 4)) = some (.int .i64 13) ∧ w'.cell? ⟨(ad.add (s.at_ * 4)).block, (ad.add (s.at_ * 4)).off + 1, none⟩ = some (.int .i64 xa) ∧ w'.cell? ⟨(ad.add (s.at_ * 4)).block, (ad.add (s.at_ * 4)).off + 2, none⟩ = some (.int .i64 (y : Int)) ∧ w'.cell? ⟨(ad.add (s.at_ * 4)).block, (ad.add (s.at_ * 4)).off + 3, none⟩ = some (.int .i64 xc))
    (.pointer (some ⟨b, 0, none⟩)) 9 1 (by kernel_rfl) (by kernel_rfl) (Or.inl ⟨by rfl, fun w => by rfl⟩) (fun _ _ _ h => h) ⟨c0, c13, q0, q1, q2, q3⟩ ?_
  replace CD := hide (fun o => And.intro (CD.out o _ _ c0) (And.intro (CD.out o _ _ c13) (And.intro (CD.out o _ _ q0) (And.intro (CD.out o _ _ q1) (And.intro (CD.out o _ _ q2) (CD.out o _ _ q3))))))
  clear c0 c13 q0 q1 q2 q3
  simp only [Act.put, List.setIfInBounds_toArray, List.set_cons_zero, List.set_cons_succ, List.take_succ_cons, List.take_zero, List.drop_succ_cons, List.drop_zero]
  repeat (refine head_step ?_ (by rfl) ?_ (fun _ _ _ h => h) ?_; rotate_left; (intro w' hs; obtain ⟨e0, e1, e2, e3, e4, e5⟩ := hs; go_simp; (try with_reducible rfl)); (try simp only [Act.put, List.setIfInBounds_toArray, List.set_cons_zero, List.set_cons_succ]))
  refine head_nil ?_
  refine mid_step _ (w2.drew.alloc (.cells #[.int .i64 0, .int .i64 0, .int .i64 0, .int .i64 0] 142)) (by rfl) (by go_simp; rfl) (CD.out _) ?_
  refine mid_nil ?_
  simp only [Act.put, List.setIfInBounds_toArray, List.set_cons_zero, List.set_cons_succ]
  clear CD
  go_upto_region 6 with fail
  have hBX := (Blk.new w2 142 #[.int .i64 13, .int .i64 xa, .int .i64 (y : Int), .int .i64 xc]).drew
  have hbb := H.out.blk.lt
  replace H := hide (H.out.alloc (.cells #[.int .i64 13, .int .i64 xa, .int .i64 (y : Int), .int .i64 xc] 142)).drew
  generalize (w2.alloc (.cells #[.int .i64 13, .int .i64 xa, .int .i64 (y : Int), .int .i64 xc] 142)).drew = w3 at *
  generalize w2.heap.size = bx at *
  have c13 := (H.out.tails H8.out).2.2.2.2.2.1
  have f13 := H.out.free 13
  have HB := hide hBX
  clear hBX
  go_upto_region 7 with fail
  replace H := hide (H.out.setAt H8.out (s.at_ + 1))
  replace HB := hide (HB.out.far (p := ⟨b, 13, none⟩) (by simp only; omega) (.int .i64 ((s.at_ + 1 : Nat) : Int)))
  clear c13 f13
  change Code.wp _ _ _ _ (w3.setCell ⟨b, 13, none⟩ (.int .i64 ((s.at_ + 1 : Nat) : Int)))
  generalize w3.setCell ⟨b, 13, none⟩ (.int .i64 ((s.at_ + 1 : Nat) : Int)) = w4 at *
  clear HP HX hA atI0 atI1 hbb
  have ht := hs.tick hend
  replace H : Hid (RunS rb w0 w4 B b db p.val (.slice A n c) sv W lps s.tick) := H
  rw [htk] at H ht
  clear hs hend hn hlen htk
  replace H8 := hide ht.g8
  have b0 := HB.out.cell 0
  have b1 := HB.out.cell 1
  have b2 := HB.out.cell 2
  have b3 := HB.out.cell 3
  simp only [List.getElem?_toArray, List.getElem?_cons_zero, List.getElem?_cons_succ] at b0 b1 b2 b3
  have yI0 : (0 : Int) ≤ (y : Int) := by omega
  have yI1 : (y : Int) < 8 := by omega
  go_upto_region 27 with fail
  have WD := hide (fun w h => word_no rb w0 w B b db p.val sv W lps t A c n y h H8.out hy8 hk)
  clear hk
  replace H := hide H.out.drew
  replace HB := hide HB.out.drew
  clear b0 b1 b2 b3
  have b1 := HB.out.cell 1
  have b2 := HB.out.cell 2
  simp only [List.getElem?_toArray, List.getElem?_cons_zero, List.getElem?_cons_succ] at b1 b2
  refine wp_region_panics (fun w' => w'.cell? ⟨bx, 1, none⟩ = some (.int .i64 xa) ∧ w'.cell? ⟨bx, 2, none⟩ = some (.int .i64 y)) [0, 1, 2, 3, 4, 5, 9, 10] 6 (by kernel_rfl) (by kernel_rfl) ⟨b1, b2⟩ ?_
  simp only [List.filterMap_cons, List.filterMap_nil, List.getElem?_cons_zero, List.getElem?_cons_succ]
  repeat (refine head_step ?_ (by rfl) ?_ (fun _ _ _ h => h) ?_; rotate_left; (intro w' hs; obtain ⟨zb1, zb2⟩ := hs; go_simp; (try with_reducible rfl)); (try simp only [Act.put, List.setIfInBounds_toArray, List.set_cons_zero, List.set_cons_succ]))
  refine head_nil ?_
  refine op_at (by rfl) (by rfl) ?_
  go_simp
  refine (WD.out _ H.out).mono ?_
  rintro e w' ⟨rfl, rfl⟩
  exact ⟨rfl, rfl, H.out⟩
set_option maxHeartbeats 2000000 in
theorem step_nostore (rb : Option Nat) (w0 w : World) (B b db x y n c : Nat) (A : Option Addr) (p : Sl Ins4) (sv : Value) (W lps : Int) (s : VS) (nw : Nat) (h : RunS rb w0 w B b db p.val (.slice A n c) sv W lps s) (hs : s.Ok p.L.length nw lps) (hp : p.At InsAt 4 w0) (hlen : p.L.length ≤ 1000) (hend : s.at_ < p.L.length) (hn : s.n < 120) (t : VS) (htk : s.tick = t) (hx8 : x < 8) (hy8 : y < 8) (xc : Int) (hk : t.reg x < 0 ∨ (n : Int) ≤ t.reg x) (hx : p.L[s.at_]? = some ((14, (x : Int), (y : Int), xc) : Ins4)) :
    Calls Try.prog 116 #[.pointer (some ⟨b, 0, none⟩)] w fun e w' => e = .panicked (faultP 3) ∧ RunS rb w0 w' B b db p.val (.slice A n c) sv W lps t := by
  have h8 := hs.g8
  obtain ⟨c0, _, _, _, _, c13, c14⟩ := h.tails h8
  have H := hide h
  have H8 := hide h8
  have HP := hide hp
  have HX := hide hx
  unfold Sl.val at c0
  have d0 : decide (p.L.length ≤ s.at_) = false := decide_eq_false (by omega)
  have d1 : decide ((s.n : Int) < 120) = true := decide_eq_true (by omega)
  clear h h8 hp hx
  go_enter Try.func116, Try.ntmps116
  go_wp2_with fail
  go_quiet (fail)
  replace H := hide (H.out.drewN nq)
  clear c0 c13 c14
  generalize w.drewN nq = w1 at *
  clear nq
  have c14 := (H.out.tails H8.out).2.2.2.2.2.2
  have f14 := H.out.free 14
  go_upto_region 5 with (go_at_call 122; refine (need_ok _ _).mono ?_; rintro e w' ⟨rfl, rfl⟩)
  replace H := hide (H.out.setN H8.out (s.n + 1))
  clear c14 f14 d0 d1
  change Code.wp _ _ _ _ (w1.setCell ⟨b, 14, none⟩ (.int .i64 ((s.n + 1 : Nat) : Int)))
  generalize w1.setCell ⟨b, 14, none⟩ (.int .i64 ((s.n + 1 : Nat) : Int)) = w2 at *
  obtain ⟨ad, hA, q0, q1, q2, q3, _⟩ := (H.out.code HP.out).1 s.at_ _ HX.out
  obtain ⟨c0, _, _, _, _, c13, _⟩ := H.out.tails H8.out
  simp only [Sl.val, hA] at c0
  simp only at q0 q1 q2 q3
  have atI0 : (0 : Int) ≤ (s.at_ : Int) := by omega
  have atI1 : (s.at_ : Int) < (p.L.length : Int) := by omega
  have CD := hide (fun o => (show ∀ v pp, w2.cell? pp = some v → (w2.drew.alloc o).cell? pp = some v from fun v pp h => (World.cell?_alloc_lt w2.drew o _ (cell_lt h)).trans h))
  refine wp_region_reads (fun w' => w'.cell? ⟨b, 0, none⟩ = some (.slice (some ad) p.L.length p.c) ∧ w'.cell? ⟨b, 13, none⟩ = some (.int .i64 s.at_) ∧ w'.cell? (ad.add (s.at_ * 4)) = some (.int .i64 14) ∧ w'.cell? ⟨(ad.add (s.at_ * 4)).block, (ad.add (s.at_ * 4)).off + 1, none⟩ = some (.int .i64 (x : Int)) ∧ w'.cell? ⟨(ad.add (s.at_ * 4)).block, (ad.add (s.at_ * 4)).off + 2, none⟩ = some (.int .i64 (y : Int)) ∧ w'.cell? ⟨(ad.add (s.at_ * 4)).block, (ad.add (s.at_ * 4)).off + 3, none⟩ = some (.int .i64 xc))
    (.pointer (some ⟨b, 0, none⟩)) 9 1 (by kernel_rfl) (by kernel_rfl) (Or.inl ⟨by rfl, fun w => by rfl⟩) (fun _ _ _ h => h) ⟨c0, c13, q0, q1, q2, q3⟩ ?_
  replace CD := hide (fun o => And.intro (CD.out o _ _ c0) (And.intro (CD.out o _ _ c13) (And.intro (CD.out o _ _ q0) (And.intro (CD.out o _ _ q1) (And.intro (CD.out o _ _ q2) (CD.out o _ _ q3))))))
  clear c0 c13 q0 q1 q2 q3
  simp only [Act.put, List.setIfInBounds_toArray, List.set_cons_zero, List.set_cons_succ, List.take_succ_cons, List.take_zero, List.drop_succ_cons, List.drop_zero]
  repeat (refine head_step ?_ (by rfl) ?_ (fun _ _ _ h => h) ?_; rotate_left; (intro w' hs; obtain ⟨e0, e1, e2, e3, e4, e5⟩ := hs; go_simp; (try with_reducible rfl)); (try simp only [Act.put, List.setIfInBounds_toArray, List.set_cons_zero, List.set_cons_succ]))
  refine head_nil ?_
  refine mid_step _ (w2.drew.alloc (.cells #[.int .i64 0, .int .i64 0, .int .i64 0, .int .i64 0] 142)) (by rfl) (by go_simp; rfl) (CD.out _) ?_
  refine mid_nil ?_
  simp only [Act.put, List.setIfInBounds_toArray, List.set_cons_zero, List.set_cons_succ]
  clear CD
  go_upto_region 6 with fail
  have hBX := (Blk.new w2 142 #[.int .i64 14, .int .i64 (x : Int), .int .i64 (y : Int), .int .i64 xc]).drew
  have hbb := H.out.blk.lt
  replace H := hide (H.out.alloc (.cells #[.int .i64 14, .int .i64 (x : Int), .int .i64 (y : Int), .int .i64 xc] 142)).drew
  generalize (w2.alloc (.cells #[.int .i64 14, .int .i64 (x : Int), .int .i64 (y : Int), .int .i64 xc] 142)).drew = w3 at *
  generalize w2.heap.size = bx at *
  have c13 := (H.out.tails H8.out).2.2.2.2.2.1
  have f13 := H.out.free 13
  have HB := hide hBX
  clear hBX
  go_upto_region 7 with fail
  replace H := hide (H.out.setAt H8.out (s.at_ + 1))
  replace HB := hide (HB.out.far (p := ⟨b, 13, none⟩) (by simp only; omega) (.int .i64 ((s.at_ + 1 : Nat) : Int)))
  clear c13 f13
  change Code.wp _ _ _ _ (w3.setCell ⟨b, 13, none⟩ (.int .i64 ((s.at_ + 1 : Nat) : Int)))
  generalize w3.setCell ⟨b, 13, none⟩ (.int .i64 ((s.at_ + 1 : Nat) : Int)) = w4 at *
  clear HP HX hA atI0 atI1 hbb
  have ht := hs.tick hend
  replace H : Hid (RunS rb w0 w4 B b db p.val (.slice A n c) sv W lps s.tick) := H
  rw [htk] at H ht
  clear hs hend hn hlen htk
  replace H8 := hide ht.g8
  have b0 := HB.out.cell 0
  have b1 := HB.out.cell 1
  have b2 := HB.out.cell 2
  have b3 := HB.out.cell 3
  simp only [List.getElem?_toArray, List.getElem?_cons_zero, List.getElem?_cons_succ] at b0 b1 b2 b3
  have xI0 : (0 : Int) ≤ (x : Int) := by omega
  have xI1 : (x : Int) < 8 := by omega
  have yI0 : (0 : Int) ≤ (y : Int) := by omega
  have yI1 : (y : Int) < 8 := by omega
  go_upto_region 29 with fail
  have WD := hide (fun w h => word_no rb w0 w B b db p.val sv W lps t A c n x h H8.out hx8 hk)
  clear hk
  replace H := hide H.out.drew
  replace HB := hide HB.out.drew
  clear b0 b1 b2 b3
  have b1 := HB.out.cell 1
  have b2 := HB.out.cell 2
  simp only [List.getElem?_toArray, List.getElem?_cons_zero, List.getElem?_cons_succ] at b1 b2
  have cy := H.out.regC H8.out hy8
  refine wp_region_panics (fun w' => w'.cell? ⟨bx, 1, none⟩ = some (.int .i64 x) ∧ w'.cell? ⟨bx, 2, none⟩ = some (.int .i64 y) ∧ w'.cell? ⟨b, 1 + y, none⟩ = some (.int .i64 (t.reg y))) [0, 1, 2, 4, 5, 6, 7, 8, 9, 10] 3 (by kernel_rfl) (by kernel_rfl) ⟨b1, b2, cy⟩ ?_
  simp only [List.filterMap_cons, List.filterMap_nil, List.getElem?_cons_zero, List.getElem?_cons_succ]
  repeat (refine head_step ?_ (by rfl) ?_ (fun _ _ _ h => h) ?_; rotate_left; (intro w' hs; obtain ⟨zb1, zb2, zcy⟩ := hs; go_simp; (try with_reducible rfl)); (try simp only [Act.put, List.setIfInBounds_toArray, List.set_cons_zero, List.set_cons_succ]))
  refine head_nil ?_
  refine op_at (by rfl) (by rfl) ?_
  go_simp
  refine (WD.out _ H.out).mono ?_
  rintro e w' ⟨rfl, rfl⟩
  exact ⟨rfl, rfl, H.out⟩
set_option maxHeartbeats 1000000 in
theorem step_comp (rb : Option Nat) (w0 w : World) (B b db : Nat) (p : Sl Ins4) (wv sv : Value) (W lps : Int) (s : VS) (nw : Nat) (h : RunS rb w0 w B b db p.val wv sv W lps s) (hs : s.Ok p.L.length nw lps) (hp : p.At InsAt 4 w0) (hlen : p.L.length ≤ 1000) (hend : s.at_ < p.L.length) (hn : s.n < 120) (t : VS) (htk : s.tick = t) (op : Int) (hop : 3 ≤ op ∧ op ≤ 8) (x y z : Nat) (hx8 : x < 8) (hy8 : y < 8) (hz8 : z < 8) (u v : Int) (hu : t.reg y = u) (hv : t.reg z = v) (hf : twoF op v = 0) (hx : p.L[s.at_]? = some ((op, (x : Int), (y : Int), (z : Int)) : Ins4)) :
    Calls Try.prog 116 #[.pointer (some ⟨b, 0, none⟩)] w fun e w' => e = .returned (.bool true) ∧ RunS rb w0 w' B b db p.val wv sv W lps (t.put x (twoI op u v)) := by
  have h8 := hs.g8
  obtain ⟨c0, _, _, _, _, c13, c14⟩ := h.tails h8
  have H := hide h
  have H8 := hide h8
  have HP := hide hp
  have HX := hide hx
  unfold Sl.val at c0
  have d0 : decide (p.L.length ≤ s.at_) = false := decide_eq_false (by omega)
  have d1 : decide ((s.n : Int) < 120) = true := decide_eq_true (by omega)
  clear h h8 hp hx
  go_enter Try.func116, Try.ntmps116
  go_wp2_with fail
  go_quiet (fail)
  replace H := hide (H.out.drewN nq)
  clear c0 c13 c14
  generalize w.drewN nq = w1 at *
  clear nq
  have c14 := (H.out.tails H8.out).2.2.2.2.2.2
  have f14 := H.out.free 14
  go_upto_region 5 with (go_at_call 122; refine (need_ok _ _).mono ?_; rintro e w' ⟨rfl, rfl⟩)
  replace H := hide (H.out.setN H8.out (s.n + 1))
  clear c14 f14 d0 d1
  change Code.wp _ _ _ _ (w1.setCell ⟨b, 14, none⟩ (.int .i64 ((s.n + 1 : Nat) : Int)))
  generalize w1.setCell ⟨b, 14, none⟩ (.int .i64 ((s.n + 1 : Nat) : Int)) = w2 at *
  obtain ⟨ad, hA, q0, q1, q2, q3, _⟩ := (H.out.code HP.out).1 s.at_ _ HX.out
  obtain ⟨c0, _, _, _, _, c13, _⟩ := H.out.tails H8.out
  simp only [Sl.val, hA] at c0
  simp only at q0 q1 q2 q3
  have atI0 : (0 : Int) ≤ (s.at_ : Int) := by omega
  have atI1 : (s.at_ : Int) < (p.L.length : Int) := by omega
  have CD := hide (fun o => (show ∀ v pp, w2.cell? pp = some v → (w2.drew.alloc o).cell? pp = some v from fun v pp h => (World.cell?_alloc_lt w2.drew o _ (cell_lt h)).trans h))
  refine wp_region_reads (fun w' => w'.cell? ⟨b, 0, none⟩ = some (.slice (some ad) p.L.length p.c) ∧ w'.cell? ⟨b, 13, none⟩ = some (.int .i64 s.at_) ∧ w'.cell? (ad.add (s.at_ * 4)) = some (.int .i64 op) ∧ w'.cell? ⟨(ad.add (s.at_ * 4)).block, (ad.add (s.at_ * 4)).off + 1, none⟩ = some (.int .i64 (x : Int)) ∧ w'.cell? ⟨(ad.add (s.at_ * 4)).block, (ad.add (s.at_ * 4)).off + 2, none⟩ = some (.int .i64 (y : Int)) ∧ w'.cell? ⟨(ad.add (s.at_ * 4)).block, (ad.add (s.at_ * 4)).off + 3, none⟩ = some (.int .i64 (z : Int)))
    (.pointer (some ⟨b, 0, none⟩)) 9 1 (by kernel_rfl) (by kernel_rfl) (Or.inl ⟨by rfl, fun w => by rfl⟩) (fun _ _ _ h => h) ⟨c0, c13, q0, q1, q2, q3⟩ ?_
  replace CD := hide (fun o => And.intro (CD.out o _ _ c0) (And.intro (CD.out o _ _ c13) (And.intro (CD.out o _ _ q0) (And.intro (CD.out o _ _ q1) (And.intro (CD.out o _ _ q2) (CD.out o _ _ q3))))))
  clear c0 c13 q0 q1 q2 q3
  simp only [Act.put, List.setIfInBounds_toArray, List.set_cons_zero, List.set_cons_succ, List.take_succ_cons, List.take_zero, List.drop_succ_cons, List.drop_zero]
  repeat (refine head_step ?_ (by rfl) ?_ (fun _ _ _ h => h) ?_; rotate_left; (intro w' hs; obtain ⟨e0, e1, e2, e3, e4, e5⟩ := hs; go_simp; (try with_reducible rfl)); (try simp only [Act.put, List.setIfInBounds_toArray, List.set_cons_zero, List.set_cons_succ]))
  refine head_nil ?_
  refine mid_step _ (w2.drew.alloc (.cells #[.int .i64 0, .int .i64 0, .int .i64 0, .int .i64 0] 142)) (by rfl) (by go_simp; rfl) (CD.out _) ?_
  refine mid_nil ?_
  simp only [Act.put, List.setIfInBounds_toArray, List.set_cons_zero, List.set_cons_succ]
  clear CD
  go_upto_region 6 with fail
  have hBX := (Blk.new w2 142 #[.int .i64 op, .int .i64 (x : Int), .int .i64 (y : Int), .int .i64 (z : Int)]).drew
  have hbb := H.out.blk.lt
  replace H := hide (H.out.alloc (.cells #[.int .i64 op, .int .i64 (x : Int), .int .i64 (y : Int), .int .i64 (z : Int)] 142)).drew
  generalize (w2.alloc (.cells #[.int .i64 op, .int .i64 (x : Int), .int .i64 (y : Int), .int .i64 (z : Int)] 142)).drew = w3 at *
  generalize w2.heap.size = bx at *
  have c13 := (H.out.tails H8.out).2.2.2.2.2.1
  have f13 := H.out.free 13
  have HB := hide hBX
  clear hBX
  go_upto_region 7 with fail
  replace H := hide (H.out.setAt H8.out (s.at_ + 1))
  replace HB := hide (HB.out.far (p := ⟨b, 13, none⟩) (by simp only; omega) (.int .i64 ((s.at_ + 1 : Nat) : Int)))
  clear c13 f13
  change Code.wp _ _ _ _ (w3.setCell ⟨b, 13, none⟩ (.int .i64 ((s.at_ + 1 : Nat) : Int)))
  generalize w3.setCell ⟨b, 13, none⟩ (.int .i64 ((s.at_ + 1 : Nat) : Int)) = w4 at *
  clear HP HX hA atI0 atI1 hbb
  have ht := hs.tick hend
  replace H : Hid (RunS rb w0 w4 B b db p.val wv sv W lps s.tick) := H
  rw [htk] at H ht
  clear hs hend hn hlen htk
  replace H8 := hide ht.g8
  have b0 := HB.out.cell 0
  have b1 := HB.out.cell 1
  have b2 := HB.out.cell 2
  have b3 := HB.out.cell 3
  simp only [List.getElem?_toArray, List.getElem?_cons_zero, List.getElem?_cons_succ] at b0 b1 b2 b3
  have SO := hide (comp_ok op rb w0 w4 B b db p.val wv sv W lps t x y z u v H.out H8.out hx8 hy8 hz8 hu hv hop hf)
  clear hf hu hv
  obtain ⟨o1, o2⟩ := hop
  go_wp2_with fail
  refine SO.out.mono ?_
  rintro e w5 ⟨rfl, h1⟩
  go_wp2_with fail
  go_ret
  exact ⟨rfl, h1⟩
set_option maxHeartbeats 1000000 in
theorem step_nodiv (rb : Option Nat) (w0 w : World) (B b db : Nat) (p : Sl Ins4) (wv sv : Value) (W lps : Int) (s : VS) (nw : Nat) (h : RunS rb w0 w B b db p.val wv sv W lps s) (hs : s.Ok p.L.length nw lps) (hp : p.At InsAt 4 w0) (hlen : p.L.length ≤ 1000) (hend : s.at_ < p.L.length) (hn : s.n < 120) (t : VS) (htk : s.tick = t) (op : Int) (hop : op = 6 ∨ op = 7) (x y z : Nat) (hx8 : x < 8) (hy8 : y < 8) (hz8 : z < 8) (hv : t.reg z = 0) (hx : p.L[s.at_]? = some ((op, (x : Int), (y : Int), (z : Int)) : Ins4)) :
    Calls Try.prog 116 #[.pointer (some ⟨b, 0, none⟩)] w fun e w' => e = .panicked (faultP 2) ∧ RunS rb w0 w' B b db p.val wv sv W lps t := by
  have h8 := hs.g8
  obtain ⟨c0, _, _, _, _, c13, c14⟩ := h.tails h8
  have H := hide h
  have H8 := hide h8
  have HP := hide hp
  have HX := hide hx
  unfold Sl.val at c0
  have d0 : decide (p.L.length ≤ s.at_) = false := decide_eq_false (by omega)
  have d1 : decide ((s.n : Int) < 120) = true := decide_eq_true (by omega)
  clear h h8 hp hx
  go_enter Try.func116, Try.ntmps116
  go_wp2_with fail
  go_quiet (fail)
  replace H := hide (H.out.drewN nq)
  clear c0 c13 c14
  generalize w.drewN nq = w1 at *
  clear nq
  have c14 := (H.out.tails H8.out).2.2.2.2.2.2
  have f14 := H.out.free 14
  go_upto_region 5 with (go_at_call 122; refine (need_ok _ _).mono ?_; rintro e w' ⟨rfl, rfl⟩)
  replace H := hide (H.out.setN H8.out (s.n + 1))
  clear c14 f14 d0 d1
  change Code.wp _ _ _ _ (w1.setCell ⟨b, 14, none⟩ (.int .i64 ((s.n + 1 : Nat) : Int)))
  generalize w1.setCell ⟨b, 14, none⟩ (.int .i64 ((s.n + 1 : Nat) : Int)) = w2 at *
  obtain ⟨ad, hA, q0, q1, q2, q3, _⟩ := (H.out.code HP.out).1 s.at_ _ HX.out
  obtain ⟨c0, _, _, _, _, c13, _⟩ := H.out.tails H8.out
  simp only [Sl.val, hA] at c0
  simp only at q0 q1 q2 q3
  have atI0 : (0 : Int) ≤ (s.at_ : Int) := by omega
  have atI1 : (s.at_ : Int) < (p.L.length : Int) := by omega
  have CD := hide (fun o => (show ∀ v pp, w2.cell? pp = some v → (w2.drew.alloc o).cell? pp = some v from fun v pp h => (World.cell?_alloc_lt w2.drew o _ (cell_lt h)).trans h))
  refine wp_region_reads (fun w' => w'.cell? ⟨b, 0, none⟩ = some (.slice (some ad) p.L.length p.c) ∧ w'.cell? ⟨b, 13, none⟩ = some (.int .i64 s.at_) ∧ w'.cell? (ad.add (s.at_ * 4)) = some (.int .i64 op) ∧ w'.cell? ⟨(ad.add (s.at_ * 4)).block, (ad.add (s.at_ * 4)).off + 1, none⟩ = some (.int .i64 (x : Int)) ∧ w'.cell? ⟨(ad.add (s.at_ * 4)).block, (ad.add (s.at_ * 4)).off + 2, none⟩ = some (.int .i64 (y : Int)) ∧ w'.cell? ⟨(ad.add (s.at_ * 4)).block, (ad.add (s.at_ * 4)).off + 3, none⟩ = some (.int .i64 (z : Int)))
    (.pointer (some ⟨b, 0, none⟩)) 9 1 (by kernel_rfl) (by kernel_rfl) (Or.inl ⟨by rfl, fun w => by rfl⟩) (fun _ _ _ h => h) ⟨c0, c13, q0, q1, q2, q3⟩ ?_
  replace CD := hide (fun o => And.intro (CD.out o _ _ c0) (And.intro (CD.out o _ _ c13) (And.intro (CD.out o _ _ q0) (And.intro (CD.out o _ _ q1) (And.intro (CD.out o _ _ q2) (CD.out o _ _ q3))))))
  clear c0 c13 q0 q1 q2 q3
  simp only [Act.put, List.setIfInBounds_toArray, List.set_cons_zero, List.set_cons_succ, List.take_succ_cons, List.take_zero, List.drop_succ_cons, List.drop_zero]
  repeat (refine head_step ?_ (by rfl) ?_ (fun _ _ _ h => h) ?_; rotate_left; (intro w' hs; obtain ⟨e0, e1, e2, e3, e4, e5⟩ := hs; go_simp; (try with_reducible rfl)); (try simp only [Act.put, List.setIfInBounds_toArray, List.set_cons_zero, List.set_cons_succ]))
  refine head_nil ?_
  refine mid_step _ (w2.drew.alloc (.cells #[.int .i64 0, .int .i64 0, .int .i64 0, .int .i64 0] 142)) (by rfl) (by go_simp; rfl) (CD.out _) ?_
  refine mid_nil ?_
  simp only [Act.put, List.setIfInBounds_toArray, List.set_cons_zero, List.set_cons_succ]
  clear CD
  go_upto_region 6 with fail
  have hBX := (Blk.new w2 142 #[.int .i64 op, .int .i64 (x : Int), .int .i64 (y : Int), .int .i64 (z : Int)]).drew
  have hbb := H.out.blk.lt
  replace H := hide (H.out.alloc (.cells #[.int .i64 op, .int .i64 (x : Int), .int .i64 (y : Int), .int .i64 (z : Int)] 142)).drew
  generalize (w2.alloc (.cells #[.int .i64 op, .int .i64 (x : Int), .int .i64 (y : Int), .int .i64 (z : Int)] 142)).drew = w3 at *
  generalize w2.heap.size = bx at *
  have c13 := (H.out.tails H8.out).2.2.2.2.2.1
  have f13 := H.out.free 13
  have HB := hide hBX
  clear hBX
  go_upto_region 7 with fail
  replace H := hide (H.out.setAt H8.out (s.at_ + 1))
  replace HB := hide (HB.out.far (p := ⟨b, 13, none⟩) (by simp only; omega) (.int .i64 ((s.at_ + 1 : Nat) : Int)))
  clear c13 f13
  change Code.wp _ _ _ _ (w3.setCell ⟨b, 13, none⟩ (.int .i64 ((s.at_ + 1 : Nat) : Int)))
  generalize w3.setCell ⟨b, 13, none⟩ (.int .i64 ((s.at_ + 1 : Nat) : Int)) = w4 at *
  clear HP HX hA atI0 atI1 hbb
  have ht := hs.tick hend
  replace H : Hid (RunS rb w0 w4 B b db p.val wv sv W lps s.tick) := H
  rw [htk] at H ht
  clear hs hend hn hlen htk
  replace H8 := hide ht.g8
  have b0 := HB.out.cell 0
  have b1 := HB.out.cell 1
  have b2 := HB.out.cell 2
  have b3 := HB.out.cell 3
  simp only [List.getElem?_toArray, List.getElem?_cons_zero, List.getElem?_cons_succ] at b0 b1 b2 b3
  have SO := hide (comp_no op rb w0 w4 B b db p.val wv sv W lps t x y z H.out H8.out hx8 hy8 hz8 hop hv)
  clear hv
  have o1 : 6 ≤ op := by omega
  have o2 : op ≤ 7 := by omega
  clear hop
  go_wp2_with fail
  refine SO.out.mono ?_
  rintro e w5 ⟨rfl, h1⟩
  exact ⟨rfl, rfl, h1⟩
end Go.Proofs.Ytpfcmfannkbipaa
end
