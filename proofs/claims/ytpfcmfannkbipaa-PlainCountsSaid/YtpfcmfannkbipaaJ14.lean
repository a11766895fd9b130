/- Texts of this claim in one. No condition. -/
import Derived.Test.YtpfcmfannkbipaaJ13
import Derived.Deep.QuietTactic
import Derived.BigQuiet
import Derived.Test.YtpfcmfannkbipaaJ11
section
set_option linter.unusedVariables false
set_option linter.unusedSimpArgs false
set_option maxRecDepth 20000
namespace Go.Proofs.Ytpfcmfannkbipaa
open Go.RowKit Go.Deep

attribute [local go_sem] run_store_float
/-- How far events has come: what lies where. -/
structure EvS (w : World) (M S E : Array Value) (lp : Int) (v : Value) (L : List Ev) (wr : World) : Prop where
  bel : Below w.heap.size w wr
  siz : w.heap.size + 5 ≤ wr.heap.size
  mB : Blk wr w.heap.size 58 M
  lB : Blk wr (w.heap.size + 1) 3 #[.int .i64 lp]
  sB : Blk wr (w.heap.size + 1 + 1) 61 S
  eB : Blk wr (w.heap.size + 1 + 1 + 1) 37 E
  oB : Blk wr (w.heap.size + 1 + 1 + 1 + 1) 65 #[v]
  own : OwnR 37 5 encEv wr (w.heap.size + 5) v L
section
variable {w wr w' : World} {M S E : Array Value} {lp : Int} {v : Value} {L : List Ev}
theorem EvS.below (h : EvS w M S E lp v L wr) (hb : Below wr.heap.size wr w') : EvS w M S E lp v L w' :=
  ⟨below_after h.bel hb, Nat.le_trans h.siz hb.size, h.mB.below hb h.mB.lt, h.lB.below hb h.lB.lt, h.sB.below hb h.sB.lt, h.eB.below hb h.eB.lt, h.oB.below hb h.oB.lt, h.own.below hb⟩
theorem EvS.addE (h : EvS w M S E lp v L wr) (x : Ev) (hL : L.length ≤ 1000) (ty : TypeId) :
    ∃ (q : Sl Ev) (w2 : World), (Builtin.append_ #[65, 65] ty #[v, .slice (some ⟨wr.heap.size, 0, none⟩) 1 1]).run Try.prog (wr.alloc (.cells #[.float .f64 x.1, .int .i64 x.2.1, .int .i64 x.2.2.1, .int .i64 x.2.2.2.1, .int .i64 x.2.2.2.2] 37)) = .ok q.val w2 ∧
      q.L = L ++ [x] ∧ EvS w M S E lp q.val (L ++ [x]) (w2.setCell ⟨w.heap.size + 1 + 1 + 1 + 1, 0, none⟩ q.val) ∧
      w2.cell? ⟨w.heap.size + 1 + 1 + 1 + 1, 0, none⟩ = some v ∧ w2.frozen? ⟨w.heap.size + 1 + 1 + 1 + 1, 0, none⟩ = false := by
  obtain ⟨v2, w2, hrun2, hown2, hext2⟩ := run_append_one (P := Try.prog) 37 65 ty 5 40 (.agg #[.float .f64 0, .int .i64 0, .int .i64 0, .int .i64 0, .int .i64 0]) encEv (by decide) (fun _ => rfl) one_ev Try.underlying65 inf_ev rfl wr (w.heap.size + 5) v L x _ rfl h.own (by omega) (by omega) h.siz
  obtain ⟨q, rfl, hqL, _, _⟩ := hown2.form
  have hg := hext2.1
  have hblk : ∀ {g : Nat} {t : TypeId} {cs : Array Value}, Blk wr g t cs → g < w.heap.size + 5 → Blk w2 g t cs := fun hb hlt => OwnR.blk h.own hb hlt hg
  have o2 := hblk h.oB (by omega)
  refine ⟨q, w2, hrun2, hqL, ⟨?_, ?_, ?_, ?_, ?_, ?_, ?_, ?_⟩, o2.cell 0, o2.frozen 0⟩
  · refine Below.setCell ?_ (by simp only; omega) _
    exact h.bel.trans ((Below.refl w.heap.size wr).grown hg (Nat.le_trans (by omega) h.siz) fun k hk => Nat.le_trans (by omega) (h.own.base k hk))
  · simpa [World.setCell] using Nat.le_trans h.siz hg.size
  · exact (hblk h.mB (by omega)).far (p := ⟨w.heap.size + 1 + 1 + 1 + 1, 0, none⟩) (by simp only; omega) _
  · exact (hblk h.lB (by omega)).far (p := ⟨w.heap.size + 1 + 1 + 1 + 1, 0, none⟩) (by simp only; omega) _
  · exact (hblk h.sB (by omega)).far (p := ⟨w.heap.size + 1 + 1 + 1 + 1, 0, none⟩) (by simp only; omega) _
  · exact (hblk h.eB (by omega)).far (p := ⟨w.heap.size + 1 + 1 + 1 + 1, 0, none⟩) (by simp only; omega) _
  · have := o2.set_ 0 q.val
    simpa using this
  · exact hown2.setCell (by simp only; omega) _
end
/-- The class of worlds in which one more event is reckoned. -/
structure EvW (w : World) (M S E : Array Value) (lp : Int) (v : Value) (L : List Ev) (g : Nat) (X : Array Value) (w1 W : World) : Prop where
  st : EvS w M S E lp v L W
  x : Blk W g 130 X
  b : Below w1.heap.size w1 W
theorem EvW.hidden (w : World) (M S E : Array Value) (lp : Int) (v : Value) (L : List Ev) (g : Nat) (X : Array Value) (w1 W0 : World) (h : EvW w M S E lp v L g X w1 W0) :
    ∃ p : World → Prop, Outlives p ∧ p W0 ∧ Nonempty (Wo p) ∧ (∀ i : Wo p, EvW w M S E lp v L g X w1 i.W) :=
  ⟨EvW w M S E lp v L g X w1, fun _ _ h hb => ⟨h.st.below hb, h.x.below hb h.x.lt, below_after h.b hb⟩, h, ⟨⟨W0, h⟩⟩, fun i => i.ok⟩
/-- What one more event that is sent does. -/
def PutTo (w : World) (M S E : Array Value) (lp : Int) (L : List Ev) (b : Bool) (e : Ending) (w' : World) : Prop := e = .returned (.bool b) ∧ ∃ v', EvS w M S E lp v' L w'
/-- The delay's place. -/
theorem delay_at (x : Int) (n : Nat) (hn : 1 ≤ n) (hn2 : n ≤ 1000) : ∃ r j : Int, x.tmod n = r ∧ -(n : Int) < r ∧ r < n ∧ (r + n).tmod n = j ∧ (r + n) % n = j ∧ 0 ≤ j ∧ j < n ∧ x % (n : Int) = j := by
  have h1 : x.tmod n = if 0 ≤ x then x % n else -((-x) % n) := by
    split
    · exact Int.tmod_eq_emod_of_nonneg (by assumption)
    · rename_i h
      have h2 : (-x).tmod n = (-x) % n := Int.tmod_eq_emod_of_nonneg (by omega)
      rw [Int.neg_tmod] at h2
      omega
  have hp : (0 : Int) < n := by omega
  have a1 := Int.emod_nonneg x (b := (n : Int)) (by omega)
  have a2 := Int.emod_lt_of_pos x hp
  have b1 := Int.emod_nonneg (-x) (b := (n : Int)) (by omega)
  have b2 := Int.emod_lt_of_pos (-x) hp
  have hr : -(n : Int) < x.tmod n ∧ x.tmod n < n := by rw [h1]; split <;> omega
  have hmod : (x.tmod n + n) % n = x % n := by
    rw [Int.add_emod_right]
    have h3 := Int.mul_tdiv_add_tmod x n
    have h4 : x % n = (x.tmod n) % n := by
      conv => lhs; rw [← h3]
      rw [Int.add_comm, Int.add_mul_emod_self_left]
    exact h4.symm
  exact ⟨_, x % n, rfl, hr.1, hr.2, by rw [Int.tmod_eq_emod_of_nonneg (by omega)]; exact hmod, hmod, a1, a2, rfl⟩
set_option maxHeartbeats 4000000 in
theorem put_any (w wr : World) (seed : Int) (fin : Nat) (dl : Sl Nat) (v3 v4 v5 v6 v7 v8 v9 v10 v11 : Value) (t : Nat) (lp sent : Int) (v : Value) (L : List Ev) (k : Nat) (x : Snt)
    (hS : EvS w #[.int .i64 seed, .float .f64 fin, dl.val, v3, v4, v5] #[v6, .int .i64 sent, v7] #[.float .f64 t, v8, v9, v10, v11] lp v L wr) (hd : dl.At FlAt 1 wr) (h1 : 1 ≤ dl.L.length) (h2 : dl.L.length ≤ 1000)
    (hL : L.length ≤ 1000) (hk : k ≤ 1000) (hs : 0 ≤ sent) (hs2 : sent ≤ 1099511627776) :
    Calls Try.prog 103 #[.int .i64 k, .agg #[.int .i64 x.1, .int .i64 x.2.1, .int .i64 x.2.2], .pointer (some ⟨w.heap.size, 0, none⟩), .pointer (some ⟨w.heap.size + 1 + 1 + 1, 0, none⟩), .pointer (some ⟨w.heap.size + 1 + 1 + 1 + 1, 0, none⟩), .pointer (some ⟨w.heap.size + 1, 0, none⟩), .pointer (some ⟨w.heap.size + 1 + 1, 0, none⟩)] wr
      (PutTo w #[.int .i64 seed, .float .f64 fin, dl.val, v3, v4, v5] #[v6, .int .i64 sent, v7] #[.float .f64 t, v8, v9, v10, v11] lp (if sndOk dl.L t x then L ++ sndF dl.L t fin lp sent k x else L) (sndOk dl.L t x)) := by
  obtain ⟨d, dn, pay⟩ := x
  obtain ⟨r, j, j1, j2, j3, j4, j5, j6, j7, j8⟩ := delay_at dn dl.L.length h1 h2
  have hdly : dly dl.L dn = dl.L.getD j.toNat 0 := by unfold dly; rw [j8]
  have hjl : j.toNat < dl.L.length := by omega
  have hget : dl.L[j.toNat]? = some (dl.L.getD j.toNat 0) := by rw [List.getD_eq_getElem?_getD, List.getElem?_eq_getElem hjl]; rfl
  have hD : ∀ W, Below wr.heap.size wr W → ∃ a, dl.A = some a ∧ W.cell? (a.add j.toNat) = some (.float .f64 (dl.L.getD j.toNat 0)) := fun W hb => by
    obtain ⟨a, ha, hc, _⟩ := (hd.below FlAt.keeps hb).1 j.toNat _ hget
    exact ⟨a, ha, by simpa using hc⟩
  have hok : sndOk dl.L t (d, dn, pay) = decide (laterE t (dly dl.L dn) = 0) := rfl
  have hF : sndF dl.L t fin lp sent k (d, dn, pay) = if timesI (laterF t (dly dl.L dn)) fin ≤ 0 then [(laterF t (dly dl.L dn), lp, sent + (k : Int), d, pay)] else [] := rfl
  rw [hok, hF, hdly]
  clear hok hF hdly hget j8
  have hX := Blk.new wr 130 #[.int .i64 d, .int .i64 dn, .int .i64 pay]
  have hb0 : Below wr.heap.size wr (wr.alloc (.cells #[.int .i64 d, .int .i64 dn, .int .i64 pay] 130)) := (Below.refl _ _).alloc (Nat.le_refl _) _
  have hS0 := hS.below hb0
  have hl2 := hd.2
  obtain ⟨A, dc, l⟩ := dl
  simp only [Sl.val] at *
  obtain ⟨a, rfl, _⟩ := hD wr (Below.refl _ _)
  have hD : ∀ W, Below wr.heap.size wr W → W.cell? (a.add j.toNat) = some (.float .f64 (l.getD j.toNat 0)) := fun W hb => by
    obtain ⟨a', ha, hc⟩ := hD W hb
    simp only [Option.some.injEq] at ha
    rw [ha]
    exact hc
  have j9 : (j.toNat : Int) = j := by omega
  have hlen : (l.length : Int) ≠ 0 := by omega
  have hlen2 : ((l.length : Int) == 0) = false := by rw [beq_eq_false_iff_ne]; exact hlen
  have hq : sent + (k : Int) ≤ 1000000000000000 := by omega
  have hl3 : l.length ≤ 9223372036854775807 := by omega
  have hw1 : IntKind.i64.wrap (r + (l.length : Int)) = r + (l.length : Int) := IntWalk.i64_in _ (by omega)
  generalize l.getD j.toNat 0 = D at *
  have hla := fun W => later_any t D W
  generalize hT : laterF t D = T at *
  generalize hU : laterE t D = U at *
  clear hT hU
  have hP0 := fun v' W (h : EvS w #[.int .i64 seed, .float .f64 fin, .slice (some a) l.length dc, v3, v4, v5] #[v6, .int .i64 sent, v7] #[.float .f64 t, v8, v9, v10, v11] lp v' (if decide (U = 0) = true then L ++ (if timesI T fin ≤ 0 then [(T, lp, sent + (k : Int), d, pay)] else []) else L) W) =>
    (show PutTo w #[.int .i64 seed, .float .f64 fin, .slice (some a) l.length dc, v3, v4, v5] #[v6, .int .i64 sent, v7] #[.float .f64 t, v8, v9, v10, v11] lp (if decide (U = 0) = true then L ++ (if timesI T fin ≤ 0 then [(T, lp, sent + (k : Int), d, pay)] else []) else L) (decide (U = 0)) (.returned (.bool (decide (U = 0)))) W from ⟨rfl, v', h⟩)
  generalize PutTo _ _ _ _ _ _ _ = Post at *
  have hP := hide hP0
  clear hP0
  have HD := hide hD
  clear hD
  have hm2 := hS0.mB.cell 2
  simp only [List.getElem?_toArray, List.getElem?_cons_zero, List.getElem?_cons_succ] at hm2
  have HS := hide hS
  have HB := hide hb0
  clear hd hS HS
  obtain ⟨p, hO, h0, hne, hI⟩ := EvW.hidden w _ _ _ lp v L wr.heap.size #[.int .i64 d, .int .i64 dn, .int .i64 pay] wr ((wr.alloc (.cells #[.int .i64 d, .int .i64 dn, .int .i64 pay] 130)).drew) ⟨hS0.below (Below.refl _ _).drew, hX.drew, hb0.drew⟩
  have kD : ∀ i : Wo p, i.W.cell? (a.add j.toNat) = some (.float .f64 D) := fun i => HD.out _ (hI i).b
  have k0 := fun i : Wo p => (hI i).st.eB.cell 0
  have k1 := fun i : Wo p => (hI i).st.mB.cell 2
  have k2 := fun i : Wo p => (hI i).x.cell 1
  simp only [List.getElem?_toArray, List.getElem?_cons_zero, List.getElem?_cons_succ] at k0 k1 k2
  have HI := hide hI
  have HP := hide hO
  have H0 := hide h0
  have HS0 := hide hS0
  have HX := hide hX
  clear hI hO h0 hS0 hX hb0 HD HB
  go_enter Try.func103, Try.ntmps103
  go_upto_region 2 with fail
  refine wp_region_quietC (by kernel_rfl) (by kernel_rfl) H0.out ?_
  repeat (go_big_quiet_step (first
    | (go_at_call 104; exact Calls.quietC HP.out (hla _))))
  refine wpQuiet_nil ?_
  intro _ hw'
  obtain ⟨i, rfl⟩ := hw'
  have hi := HI.out i
  generalize i.W = W at *
  clear k0 k1 k2 kD HI HP H0 hne i
  by_cases hU : U = 0
  · subst hU
    have hm1 := hi.st.mB.cell 1
    simp only [List.getElem?_toArray, List.getElem?_cons_zero, List.getElem?_cons_succ] at hm1
    have HT := hide hi
    clear hi
    go_wp2_with fail
    refine (times_any _ _ _).mono ?_
    rintro e w2 ⟨rfl, rfl⟩
    by_cases hc : timesI T fin ≤ 0
    · have hP1 := hP.out
      simp only [decide_true, if_true, if_pos hc] at hP1
      have HPP := hide hP1
      obtain ⟨⟨qA, qc, qL⟩, w2, hrun, hqL, hS2, o1, o2⟩ := HT.out.st.addE (T, lp, sent + (k : Int), d, pay) hL 65
      simp only [Sl.val] at *
      have l0 := HT.out.st.lB.cell 0
      simp only [List.getElem?_toArray, List.getElem?_cons_zero, List.getElem?_cons_succ] at l0
      have o0 := HT.out.st.oB.cell 0
      simp only [List.getElem?_toArray, List.getElem?_cons_zero, List.getElem?_cons_succ] at o0
      have s0 := HT.out.st.sB.cell 0
      have s1 := HT.out.st.sB.cell 1
      have s2 := HT.out.st.sB.cell 2
      simp only [List.getElem?_toArray, List.getElem?_cons_zero, List.getElem?_cons_succ] at s0 s1 s2
      have x0 := HT.out.x.cell 0
      have x1 := HT.out.x.cell 1
      have x2 := HT.out.x.cell 2
      simp only [List.getElem?_toArray, List.getElem?_cons_zero, List.getElem?_cons_succ] at x0 x1 x2
      have HS2 := hide hS2
      have hw2 : IntKind.i64.wrap (sent + (k : Int)) = sent + (k : Int) := IntWalk.i64_in _ (by omega)
      clear hP1 hS2 hP hqL
      go_wp2_with (at_builtin; go_must (refine wpList_of_append rfl _ w2 _ _ 65 _ _ _ rfl rfl rfl hrun ?_))
      exact HPP.out _ _ HS2.out
    · have hP1 := hP.out
      simp only [decide_true, if_true, if_neg hc, List.append_nil] at hP1
      have HPP := hide hP1
      clear hP1 hP
      go_wp2_with fail
      exact HPP.out _ _ HT.out.st
  · have hP1 := hP.out
    rw [decide_eq_false hU] at hP1
    simp only [Bool.false_eq_true, if_false] at hP1
    have HPP := hide hP1
    have HT := hide hi
    have hne : (U != 0) = true := by rw [bne_iff_ne]; exact hU
    have hdec : decide (U = 0) = false := decide_eq_false hU
    clear hP1 hP hi hU
    go_wp2_with fail
    exact HPP.out _ _ HT.out.st
end Go.Proofs.Ytpfcmfannkbipaa
end

section
set_option linter.unusedVariables false
set_option maxRecDepth 20000
namespace Go.Proofs.Ytpfcmfannkbipaa
open Go.RowKit Go.Deep

def SntAt : Dec Snt := fun w p x => w.cell? p = some (.int .i64 x.1) ∧ w.cell? ⟨p.block, p.off + 1, none⟩ = some (.int .i64 x.2.1) ∧ w.cell? ⟨p.block, p.off + 2, none⟩ = some (.int .i64 x.2.2)
theorem SntAt.keeps : SntAt.keeps := fun _ _ _ _ hb h => ⟨keepc hb h.1, keepc hb h.2.1, keepc hb h.2.2⟩
theorem makes_snt : Makes SntAt encSnt (fun _ _ => True) := fun w g o x _ h => ⟨h 0 _ rfl, h 1 _ rfl, h 2 _ rfl⟩
theorem outV_i64 {w : World} {p : Sl Ins4} {i : Inp} (hp : p.At InsAt 4 w) (hi : i.At w) : ∀ z ∈ (outV p.L i.wd.L i.pay i.me i.lps i.seed i.dice).1, I64 z := by
  intro z hz
  unfold outV at hz
  split at hz
  · rename_i hm
    obtain ⟨h1, h2, h3, h4⟩ := vmay_ok hm
    split at hz
    · exact (vrun_ok (W := wordI i.seed i.me) (lps := i.lps) (nw := i.wd.L.length) (ins_ok hp h3) 120 (vbeg i.wd.L i.pay i.me i.lps i.dice) (vbeg_ok (sl_ints hi.wd) h4 hi.pay hi.me hi.lps hi.dice)).1.wi z hz
    · simp at hz
  · simp at hz
/-- An output in memory, as slices. -/
theorem out_at {w : World} {N : Nat} {v : Value} {o : OutV} (h : OutAt w N v o) (hz : ∀ z ∈ o.1, I64 z) :
    ∃ (s : Sl Int) (u : Sl Snt), v = .agg #[s.val, u.val, .int .i64 o.2.2.1, .int .i64 o.2.2.2] ∧ s.L = o.1 ∧ u.L = o.2.1 ∧ s.At IntAt 1 w ∧ u.At SntAt 3 w := by
  obtain ⟨A, c, A', c', rfl, h1, h2⟩ := h
  obtain ⟨s, hv, hL, hs⟩ := OwnR.at_ (d := IntAt) (enc := encInt) (ok := fun _ x => I64 x) (size := 1) (by decide) (fun _ => rfl) makes_int h1 hz
  obtain ⟨u, hv2, hL2, hu⟩ := OwnR.at_ (d := SntAt) (enc := encSnt) (ok := fun _ _ => True) (size := 3) (by decide) (fun _ => rfl) makes_snt h2 (fun _ _ => trivial)
  exact ⟨s, u, by rw [hv, hv2], hL, hL2, hs, hu⟩
/-- What holds of every output, plainly. -/
structure OutOk (nw : Nat) (lps : Int) (o : OutV) : Prop where
  wi : ∀ z ∈ o.1, I64 z
  s4 : o.2.1.length ≤ 4
  si : ∀ z ∈ o.2.1, 0 ≤ z.1 ∧ z.1 < lps ∧ I64 z.2.1 ∧ I64 z.2.2
  di : I64 o.2.2.1
  f0 : 0 ≤ o.2.2.2
  f6 : o.2.2.2 ≤ 6
theorem out_ok {w : World} {p : Sl Ins4} {i : Inp} (hp : p.At InsAt 4 w) (hi : i.At w) : OutOk i.wd.L.length i.lps (outV p.L i.wd.L i.pay i.me i.lps i.seed i.dice) := by
  unfold outV
  split
  · rename_i hm
    obtain ⟨h1, h2, h3, h4⟩ := vmay_ok hm
    have hv := vrun_ok (W := wordI i.seed i.me) (lps := i.lps) (nw := i.wd.L.length) (ins_ok hp h3) 120 (vbeg i.wd.L i.pay i.me i.lps i.dice) (vbeg_ok (sl_ints hi.wd) h4 hi.pay hi.me hi.lps hi.dice)
    split
    · exact ⟨hv.1.wi, hv.1.s4, hv.1.si, hv.1.di, Int.le_refl _, (by simp only; omega)⟩
    · exact ⟨fun z hz => (by simp at hz), by simp, fun z hz => (by simp at hz), ⟨by simp only; omega, by simp only; omega⟩, hv.2.1, hv.2.2.1⟩
  · exact ⟨fun z hz => (by simp at hz), by simp, fun z hz => (by simp at hz), ⟨by decide, by decide⟩, Int.le_refl _, (by simp only; omega)⟩
end Go.Proofs.Ytpfcmfannkbipaa
end

section
set_option linter.unusedVariables false
set_option linter.unusedSimpArgs false
set_option maxRecDepth 20000
namespace Go.Proofs.Ytpfcmfannkbipaa
open Go.RowKit Go.Deep

attribute [local go_sem] run_store_float
/-- What is sent, in memory of the call's own; or that a time would not come later. -/
def EvTo (w : World) (ok : Bool) (L : List Ev) (e : Ending) (w' : World) : Prop := ∃ q : Sl Ev, e = .returned (.tuple #[q.val, .bool ok]) ∧ q.L = (if ok then L else []) ∧ OwnR 37 5 encEv w' w.heap.size q.val q.L ∧ Below w.heap.size w w'
def EvRel (w : World) (M S E : Array Value) (dl : List Nat) (t fin : Nat) (lp sent : Int) (L : List Snt) (i : Value) (wr : World) : Prop :=
  ∃ (k : Nat) (v : Value), k ≤ L.length ∧ i = .int .i64 k ∧ (L.take k).all (sndOk dl t) = true ∧ EvS w M S E lp v (sndV dl t fin lp sent 0 (L.take k)) wr
theorem evs_begin (w : World) (M S E : Array Value) (lp : Int) :
    EvS w M S E lp (.slice none 0 0) [] (((((w.alloc (.cells M 58)).alloc (.cells #[.int .i64 lp] 3)).alloc (.cells S 61)).alloc (.cells E 37)).alloc (.cells #[.slice none 0 0] 65)) := by
  have hb := allocs_blk [(M, 58), (#[.int .i64 lp], 3), (S, 61), (E, 37), (#[.slice none 0 0], 65)] w
  exact ⟨allocs_below [(M, 58), (#[.int .i64 lp], 3), (S, 61), (E, 37), (#[.slice none 0 0], 65)] w, by simp, hb 0 _ rfl, hb 1 _ rfl, hb 2 _ rfl, hb 3 _ rfl, hb 4 _ rfl, OwnR.nil⟩
set_option maxHeartbeats 4000000 in
theorem events_any (m : Mdl) (lp : Int) (s : St) (e : Ev) (l : Sl Snt) (w : World) (hm : m.At w) (h1 : 1 ≤ m.dl.L.length) (h2 : m.dl.L.length ≤ 1000) (hl : l.At SntAt 3 w) (hl2 : l.L.length ≤ 1000) (hs : 0 ≤ s.sent) (hs2 : s.sent ≤ 1099511627776) :
    Calls Try.prog 78 #[m.val, .int .i64 lp, s.val, .agg #[.float .f64 e.1, .int .i64 e.2.1, .int .i64 e.2.2.1, .int .i64 e.2.2.2.1, .int .i64 e.2.2.2.2], l.val] w
      (EvTo w (l.L.all (sndOk m.dl.L e.1)) (sndV m.dl.L e.1 m.fin lp s.sent 0 l.L)) := by
  have hP1 := fun (h : l.L.all (sndOk m.dl.L e.1) = false) W (hb : Below w.heap.size w W) => (show EvTo w (l.L.all (sndOk m.dl.L e.1)) (sndV m.dl.L e.1 m.fin lp s.sent 0 l.L) (.returned (.tuple #[.slice none 0 0, .bool false])) W from by
    rw [h]; exact ⟨⟨none, 0, []⟩, rfl, rfl, OwnR.nil, hb⟩)
  have hP2 := fun (h : l.L.all (sndOk m.dl.L e.1) = true) (q : Sl Ev) W (hL : q.L = sndV m.dl.L e.1 m.fin lp s.sent 0 l.L) (hown : OwnR 37 5 encEv W w.heap.size q.val q.L) (hb : Below w.heap.size w W) => (show EvTo w (l.L.all (sndOk m.dl.L e.1)) (sndV m.dl.L e.1 m.fin lp s.sent 0 l.L) (.returned (.tuple #[q.val, .bool true])) W from by
    rw [h]; exact ⟨q, rfl, hL, hown, hb⟩)
  generalize EvTo _ _ _ = Post at *
  have HP1 := hide hP1
  have HP2 := hide hP2
  have hbeg := evs_begin w #[.int .i64 m.seed, .float .f64 m.fin, m.dl.val, m.pl.val, m.ll.val, m.il.val] #[s.wd.val, .int .i64 s.sent, .int .i64 s.dice] #[.float .f64 e.1, .int .i64 e.2.1, .int .i64 e.2.2.1, .int .i64 e.2.2.2.1, .int .i64 e.2.2.2.2] lp
  have hput := fun wr v L k (x : Snt) hS hd hL hk => put_any w wr m.seed m.fin m.dl m.pl.val m.ll.val m.il.val s.wd.val (.int .i64 s.dice) (.int .i64 e.2.1) (.int .i64 e.2.2.1) (.int .i64 e.2.2.2.1) (.int .i64 e.2.2.2.2) e.1 lp s.sent v L k x hS hd h1 h2 hL hk hs hs2
  have hd := hm.2.2.1
  clear hP1 hP2 hm h1 h2 hs hs2
  obtain ⟨t, src, n, dst, pay⟩ := e
  obtain ⟨seed, fin, dl, pl, ll, il⟩ := m
  obtain ⟨wd, sent, dice⟩ := s
  obtain ⟨lA, lc, ls⟩ := l
  obtain ⟨hr, hn, hc⟩ := hl
  simp only [Mdl.val, St.val, St.pl] at *
  generalize hdv : dl.val = dv at *
  generalize pl.val = pv at *
  generalize ll.val = lv at *
  generalize il.val = iv at *
  generalize wd.val = wv at *
  simp only [Sl.val] at hn hc hl2 ⊢
  have HU := hide hput
  have HD := hide hd
  have HR := hide hr
  have hn2 : ls.length ≤ 9223372036854775807 := by omega
  clear hput hd hr hdv
  go_enter Try.func78, Try.ntmps78
  go_wp2_with fail
  go_loopw [19] (fun i wr => EvRel w #[.int .i64 seed, .float .f64 fin, dv, pv, lv, iv] #[wv, .int .i64 sent, .int .i64 dice] #[.float .f64 t, .int .i64 src, .int .i64 n, .int .i64 dst, .int .i64 pay] dl.L t fin lp sent ls i wr) (fun i _ => ls.length - (intOf i).toNat)
  case atStart => exact ⟨0, .slice none 0 0, Nat.zero_le _, rfl, by simp, hbeg⟩
  case round =>
    clear hbeg
    obtain ⟨k, v, hk, rfl, hall, hS⟩ := hrel
    by_cases hlt : k < ls.length
    · have hx := List.getElem?_eq_getElem hlt
      obtain ⟨a, rfl, h0, h1, h2⟩ := (HR.out.below SntAt.keeps hS.bel) k _ hx
      generalize ls[k] = x at *
      have kI : (k : Int) < (ls.length : Int) := by omega
      have HS := hide hS
      have HA := hide hall
      have HX := hide hx
      clear hS hall hx
      have hS3 := HS.out.below ((Below.refl wr.heap.size wr).alloc (Nat.le_refl _) (.cells #[.int .i64 x.1, .int .i64 x.2.1, .int .i64 x.2.2] 130))
      have hd3 := HD.out.below FlAt.keeps hS3.bel
      have hv3 := Nat.le_trans (sndV_len dl.L t fin lp sent (ls.take k) 0) (by rw [List.length_take]; omega : (ls.take k).length ≤ 1000)
      have HC := hide (HU.out _ _ _ k x hS3 hd3 hv3 (by omega))
      clear hS3 hd3 hv3
      go_wp2_with fail
      refine HC.out.mono ?_
      rintro e w2 ⟨rfl, v', hS4⟩
      clear HC
      have HT := hide (sndV_take (dl := dl.L) (t := t) (fin := fin) (lp := lp) (sent := sent) HX.out)
      cases hok : sndOk dl.L t x
      · have HO := hide (HP1.out (all_fail _ _ _ _ HX.out hok) w2 hS4.bel)
        clear hok hS4
        go_wp2_with fail
        exact HO.out
      · rw [hok, if_pos rfl, ← HT.out] at hS4
        have HS4 := hide hS4
        have HA2 := hide ((all_take_succ (sndOk dl.L t) ls k x HX.out).trans (by rw [HA.out, hok]))
        clear hok hS4
        go_wp2_with fail
        go_roundw
        case rel => exact ⟨k + 1, v', by omega, by go_num, HA2.out, HS4.out⟩
        case measure => simp [intOf]; omega
    · obtain rfl : k = ls.length := by omega
      rw [List.take_length] at hall hS
      have o0 := hS.oB.cell 0
      simp only [List.getElem?_toArray, List.getElem?_cons_zero, List.getElem?_cons_succ] at o0
      obtain ⟨q, rfl, hqL, _, _⟩ := hS.own.form
      have HS := hide hS
      have HL := hide hqL
      have HO := hide (HP2.out hall q wr hqL (by rw [hqL]; exact hS.own.lower (by omega)) hS.bel)
      simp only [Sl.val] at o0 HO
      clear hS hall hqL
      go_wp2_with fail
      exact HO.out
end Go.Proofs.Ytpfcmfannkbipaa
end

section
set_option linter.unusedVariables false
set_option linter.unusedSimpArgs false
set_option maxRecDepth 20000
namespace Go.Proofs.Ytpfcmfannkbipaa
open Go.RowKit Go.Deep

attribute [local go_sem] run_store_float
theorem chk_parts {m : Mdl} (h : chkB m = true) : countsB m = true ∧ ¬ isNan m.fin ∧ m.dl.L.all posB = true ∧ m.pl.L.all (fun p => progB p.L) = true ∧ m.ll.L.all (lpB m.pl.L.length) = true ∧ m.il.L.all (initB m.ll.L.length) = true := by
  unfold chkB at h
  simp only [Bool.and_eq_true, Bool.not_eq_true', decide_eq_false_iff_not] at h
  obtain ⟨⟨⟨⟨⟨h1, h2⟩, h3⟩, h4⟩, h5⟩, h6⟩ := h
  exact ⟨h1, h2, h3, h4, h5, h6⟩
theorem chk_counts {m : Mdl} (h : chkB m = true) : 1 ≤ m.ll.L.length ∧ m.ll.L.length ≤ 6 ∧ 1 ≤ m.pl.L.length ∧ m.pl.L.length ≤ 4 ∧ 1 ≤ m.dl.L.length ∧ m.dl.L.length ≤ 8 ∧ m.il.L.length ≤ 16 := by
  have := (chk_parts h).1
  unfold countsB at this
  simpa using this
theorem chk_lp {m : Mdl} (h : chkB m = true) {lp : Int} (h0 : 0 ≤ lp) (h1 : lp < m.ll.L.length) :
    ∃ x s, m.ll.L[lp.toNat]? = some x ∧ m.pl.L[x.1.toNat]? = some s ∧ 0 ≤ x.1 ∧ x.1 < m.pl.L.length ∧ x.2.L.length ≤ 8 ∧ mpl m lp = s.L := by
  have hl : lp.toNat < m.ll.L.length := by omega
  have hx := List.getElem?_eq_getElem hl
  have hb := List.all_eq_true.1 (chk_parts h).2.2.2.2.1 _ (List.getElem_mem hl)
  unfold lpB at hb
  rw [decide_eq_true_eq] at hb
  have hp : (m.ll.L[lp.toNat]).1.toNat < m.pl.L.length := by omega
  refine ⟨_, _, hx, List.getElem?_eq_getElem hp, hb.1, hb.2.1, hb.2.2, ?_⟩
  unfold mpl
  rw [hx]
  simp only
  rw [List.getElem?_eq_getElem hp]
theorem OwnR.sl {α : Type} {d : Dec α} {enc : α → List Value} {ok : World → α → Prop} {e : TypeId} {size : Nat} (hsz : 0 < size) (hlen : ∀ x, (enc x).length = size) (hm : Makes d enc ok) {w : World} {B : Nat} {s : Sl α}
    (h : OwnR e size enc w B s.val s.L) (hok : ∀ x ∈ s.L, ok w x) : s.At d size w := by
  obtain ⟨t, hv, hL, hA⟩ := OwnR.at_ hsz hlen hm h hok
  have e : s = t := by
    obtain ⟨A, k, L⟩ := t
    obtain ⟨A', k', L'⟩ := s
    simp only [Sl.val] at hv hL
    injection hv with e1 e2 e3
    subst e1 e3 hL
    rfl
  rw [e]
  exact hA
theorem Below.swap {a X : World} {B : Nat} {o o' : Obj} (h : Below B a (X.alloc o)) (hs : B ≤ X.heap.size) (ha : a.heap.size ≤ X.heap.size) : Below B a (X.alloc o') :=
  ⟨h.os, h.tape, h.output, Nat.le_trans ha (by simp), fun i hi => (Below.heap_alloc X o' i (Nat.lt_of_lt_of_le hi hs)).trans ((Below.heap_alloc X o i (Nat.lt_of_lt_of_le hi hs)).symm.trans (h.block i hi))⟩
/-- What lies where behind the machine's run, its output in a box. -/
def HanC (W0 : World) (o : OutV) (x : Value) (wx : World) : Prop := ∃ (gx : Nat) (A : Option Addr) (c : Nat) (A' : Option Addr) (c' : Nat), x = .pointer (some ⟨gx, 0, none⟩) ∧ W0.heap.size ≤ gx ∧
  Blk wx gx 115 #[.slice A o.1.length c, .slice A' o.2.1.length c', .int .i64 o.2.2.1, .int .i64 o.2.2.2] ∧ OwnR 3 1 encInt wx W0.heap.size (.slice A o.1.length c) o.1 ∧ OwnR 130 3 encSnt wx W0.heap.size (.slice A' o.2.1.length c') o.2.1 ∧ Below W0.heap.size W0 wx
theorem hanC_late {W0 wR : World} {o : OutV} {A : Option Addr} {c : Nat} {A' : Option Addr} {c' : Nat} (hb : Below W0.heap.size W0 wR) (h1 : OwnR 3 1 encInt wR W0.heap.size (.slice A o.1.length c) o.1) (h2 : OwnR 130 3 encSnt wR W0.heap.size (.slice A' o.2.1.length c') o.2.1) :
    HanC W0 o (.pointer (some ⟨wR.heap.size, 0, none⟩)) (wR.alloc (.cells #[.slice A o.1.length c, .slice A' o.2.1.length c', .int .i64 o.2.2.1, .int .i64 o.2.2.2] 115)) := by
  have ha := (Below.refl wR.heap.size wR).alloc (Nat.le_refl _) (.cells #[.slice A o.1.length c, .slice A' o.2.1.length c', .int .i64 o.2.2.1, .int .i64 o.2.2.2] 115)
  exact ⟨_, A, c, A', c', rfl, hb.size, Blk.new _ _ _, h1.below ha, h2.below ha, below_after hb ha⟩
theorem hanC_first {W0 wR : World} {o : OutV} {A : Option Addr} {c : Nat} {A' : Option Addr} {c' : Nat} {gx : Nat} {cs : Array Value} (hcs : cs.size = 4) (hg : W0.heap.size ≤ gx) (hX : Blk wR gx 115 cs) (hb : Below W0.heap.size W0 wR) (h1 : OwnR 3 1 encInt wR (gx + 1) (.slice A o.1.length c) o.1) (h2 : OwnR 130 3 encSnt wR (gx + 1) (.slice A' o.2.1.length c') o.2.1) :
    HanC W0 o (.pointer (some ⟨gx, 0, none⟩)) ((((wR.setCell ⟨gx, 0, none⟩ (.slice A o.1.length c)).setCell ⟨gx, 1, none⟩ (.slice A' o.2.1.length c')).setCell ⟨gx, 2, none⟩ (.int .i64 o.2.2.1)).setCell ⟨gx, 3, none⟩ (.int .i64 o.2.2.2)) := by
  have hlt : gx < gx + 1 := Nat.lt_succ_self gx
  refine ⟨gx, A, c, A', c', rfl, hg, ?_, ?_, ?_, ?_⟩
  · have := (((hX.set_ 0 (.slice A o.1.length c)).set_ 1 (.slice A' o.2.1.length c')).set_ 2 (.int .i64 o.2.2.1)).set_ 3 (.int .i64 o.2.2.2)
    obtain ⟨l⟩ := cs
    match l, hcs with
    | [c0, c1, c2, c3], _ => simpa using this
  · exact OwnR.lower ((((h1.setCell hlt _).setCell hlt _).setCell hlt _).setCell hlt _) (by omega)
  · exact OwnR.lower ((((h2.setCell hlt _).setCell hlt _).setCell hlt _).setCell hlt _) (by omega)
  · exact (((hb.setCell hg _).setCell hg _).setCell hg _).setCell hg _
end Go.Proofs.Ytpfcmfannkbipaa
end

section
set_option linter.unusedVariables false
set_option linter.unusedSimpArgs false
set_option maxRecDepth 20000
namespace Go.Proofs.Ytpfcmfannkbipaa
open Go.RowKit Go.Deep

attribute [local go_sem] run_store_float
theorem norm_num (t : Nat) : ¬ isNan (normF t) := by
  unfold normF
  split
  · exact zero_num
  · rename_i h
    exact fun hn => h (.inl hn)
theorem later_num (t d : Nat) : ¬ isNan (laterF t d) := by
  unfold laterF
  split
  · exact zero_num
  · exact norm_num _
theorem le_ways (a b : Nat) (ha : ¬ isNan a) (hb : ¬ isNan b) :
    (timesI a b ≤ 0 ∧ FloatKind.f64.format.order a b = some .lt) ∨ (timesI a b ≤ 0 ∧ FloatKind.f64.format.order a b = some .eq) ∨ (¬ timesI a b ≤ 0 ∧ FloatKind.f64.format.order a b = some .gt) := by
  rw [timesI_num ha hb]
  rcases Int.lt_trichotomy (skey a) (skey b) with h | h | h
  · exact .inl ⟨by rw [ordI_lt h]; decide, fo_lt a b ha hb h⟩
  · exact .inr (.inl ⟨by rw [ordI_eq h]; decide, fo_eq a b ha hb h⟩)
  · exact .inr (.inr ⟨by rw [ordI_gt h]; decide, fo_gt a b ha hb h⟩)
/-- One more event behind a row of the call's own. -/
theorem ev_add {wc wr : World} {v : Value} {L : List Ev} (hown : OwnR 37 5 encEv wr wc.heap.size v L) (hb : Below wc.heap.size wc wr) (x : Ev) (hL : L.length ≤ 1000) (ty : TypeId) :
    ∃ (q : Sl Ev) (w2 : World), (Builtin.append_ #[65, 65] ty #[v, .slice (some ⟨wr.heap.size, 0, none⟩) 1 1]).run Try.prog (wr.alloc (.cells #[.float .f64 x.1, .int .i64 x.2.1, .int .i64 x.2.2.1, .int .i64 x.2.2.2.1, .int .i64 x.2.2.2.2] 37)) = .ok q.val w2 ∧
      q.L = L ++ [x] ∧ OwnR 37 5 encEv w2 wc.heap.size q.val (L ++ [x]) ∧ Below wc.heap.size wc w2 := by
  obtain ⟨v2, w2, hrun2, hown2, hext2⟩ := run_append_one (P := Try.prog) 37 65 ty 5 40 (.agg #[.float .f64 0, .int .i64 0, .int .i64 0, .int .i64 0, .int .i64 0]) encEv (by decide) (fun _ => rfl) one_ev Try.underlying65 inf_ev rfl wr wc.heap.size v L x _ rfl hown (by omega) (by omega) hb.size
  obtain ⟨q, rfl, hqL, _, _⟩ := hown2.form
  exact ⟨q, w2, hrun2, hqL, hown2, hb.trans ((Below.refl wc.heap.size wr).grown hext2.1 hb.size fun k hk => hown.base k hk)⟩
set_option maxHeartbeats 1000000 in
theorem rdelay_any (m : Mdl) (n : Int) (w : World) (hm : m.At w) (h1 : 1 ≤ m.dl.L.length) (h2 : m.dl.L.length ≤ 1000) :
    Calls Try.prog 82 #[m.val, .int .i64 n] w fun e w' => e = .returned (.float .f64 (dly m.dl.L n)) ∧ Below w.heap.size w w' := by
  obtain ⟨r, j, j1, j2, j3, j4, j5, j6, j7, j8⟩ := delay_at n m.dl.L.length h1 h2
  have hdly : dly m.dl.L n = m.dl.L.getD j.toNat 0 := by unfold dly; rw [j8]
  have hjl : j.toNat < m.dl.L.length := by omega
  have hget : m.dl.L[j.toNat]? = some (m.dl.L.getD j.toNat 0) := by rw [List.getD_eq_getElem?_getD, List.getElem?_eq_getElem hjl]; rfl
  have hX := Blk.new w 58 #[.int .i64 m.seed, .float .f64 m.fin, m.dl.val, m.pl.val, m.ll.val, m.il.val]
  have hb : Below w.heap.size w (w.alloc (.cells #[.int .i64 m.seed, .float .f64 m.fin, m.dl.val, m.pl.val, m.ll.val, m.il.val] 58)) := (Below.refl _ _).alloc (Nat.le_refl _) _
  obtain ⟨a, ha, hc, _⟩ := (hm.2.2.1.below FlAt.keeps hb).1 j.toNat _ hget
  rw [Nat.mul_one] at hc
  rw [hdly]
  have hn2 : m.dl.L.length ≤ m.dl.c ∧ m.dl.c ≤ 9223372036854775807 := hm.2.2.1.2
  clear hdly hget hm j8 j4
  obtain ⟨seed, fin, ⟨dA, dc, dl⟩, pl, ll, il⟩ := m
  simp only [Mdl.val, Sl.val] at *
  subst ha
  generalize dl.getD j.toNat 0 = D at *
  have q1 : dl.length ≤ 9223372036854775807 := by omega
  have hlen : (dl.length : Int) ≠ 0 := by omega
  have hlen2 : ((dl.length : Int) == 0) = false := by rw [beq_eq_false_iff_ne]; exact hlen
  have hr : (0 ≤ r ∧ j = r) ∨ (r < 0 ∧ j = r + dl.length) := by
    by_cases h : 0 ≤ r
    · have : (r + (dl.length : Int)) % (dl.length : Int) = r := by rw [Int.add_emod_right, Int.emod_eq_of_lt h j3]
      exact .inl ⟨h, by omega⟩
    · have : (r + (dl.length : Int)) % (dl.length : Int) = r + dl.length := Int.emod_eq_of_lt (by omega) (by omega)
      exact .inr ⟨by omega, by omega⟩
  clear j5
  rcases hr with ⟨h0, rfl⟩ | ⟨h0, rfl⟩
  · have hl : ¬ j < 0 := by omega
    have x0 := hX.cell 0
    have x1 := hX.cell 1
    have x2 := hX.cell 2
    have x3 := hX.cell 3
    have x4 := hX.cell 4
    have x5 := hX.cell 5
    simp only [List.getElem?_toArray, List.getElem?_cons_zero, List.getElem?_cons_succ] at x0 x1 x2 x3 x4 x5
    have HB := hide hb
    clear hX hb
    go_enter Try.func82, Try.ntmps82
    go_wp2_with fail
    go_ret
    exact ⟨rfl, HB.out⟩
  · have hw1 : IntKind.i64.wrap (r + (dl.length : Int)) = r + (dl.length : Int) := IntWalk.i64_in _ (by omega)
    have x0 := hX.cell 0
    have x1 := hX.cell 1
    have x2 := hX.cell 2
    have x3 := hX.cell 3
    have x4 := hX.cell 4
    have x5 := hX.cell 5
    simp only [List.getElem?_toArray, List.getElem?_cons_zero, List.getElem?_cons_succ] at x0 x1 x2 x3 x4 x5
    have HB := hide hb
    clear hX hb
    go_enter Try.func82, Try.ntmps82
    go_wp2_with fail
    go_ret
    exact ⟨rfl, HB.out⟩
end Go.Proofs.Ytpfcmfannkbipaa
end

section
set_option linter.unusedVariables false
set_option linter.unusedSimpArgs false
set_option maxRecDepth 20000
namespace Go.Proofs.Ytpfcmfannkbipaa
open Go.RowKit Go.Deep

attribute [local go_sem] run_store_float
/-- A process's words at first. -/
def mwd (m : Mdl) (lp : Int) : List Int := match m.ll.L[lp.toNat]? with | some x => x.2.L | none => []
def firE (m : Mdl) (lp : Int) : Int := if chkB m = true then (if 0 ≤ lp ∧ lp < (m.ll.L.length : Int) then 0 else 2) else 15
def firR (m : Mdl) (lp : Int) : StP := if firE m lp = 0 then (mwd m lp, 0, 0) else ([], 0, 0)
def FirTo (w : World) (m : Mdl) (lp : Int) (e : Ending) (w' : World) : Prop := ∃ (A : Option Addr) (k : Nat), e = .returned (.tuple #[.agg #[.slice A (firR m lp).1.length k, .int .i64 0, .int .i64 0], .int .i64 (firE m lp)]) ∧ OwnR 3 1 encInt w' w.heap.size (.slice A (firR m lp).1.length k) (firR m lp).1 ∧ Below w.heap.size w w'
theorem firR_zero (m : Mdl) (lp : Int) : (firR m lp).2 = (0, 0) := by unfold firR; split <;> rfl
set_option maxHeartbeats 1000000 in
theorem first_any (m : Mdl) (lp : Int) (w : World) (hm : m.At w) : Calls Try.prog 51 #[m.val, .int .i64 lp] w (FirTo w m lp) := by
  have hck := fun W (h : Below w.heap.size w W) => check_any m W (hm.below h)
  obtain ⟨hb0, hX, hR⟩ := box2 w #[.int .i64 m.seed, .float .f64 m.fin, m.dl.val, m.pl.val, m.ll.val, m.il.val] #[.slice none 0 0, .int .i64 0, .int .i64 0] 58 61
  have n1 : m.ll.L.length ≤ m.ll.c ∧ m.ll.c ≤ 9223372036854775807 := hm.2.2.2.2.1.2
  by_cases hc : chkB m = true
  · have hcE : chkE m = 0 := if_pos hc
    rw [hcE] at hck
    by_cases hlp : 0 ≤ lp ∧ lp < (m.ll.L.length : Int)
    · obtain ⟨k, rfl⟩ : ∃ k : Nat, lp = k := ⟨lp.toNat, by omega⟩
      obtain ⟨x, sp, hx, hsp, p0, p1, hx8, hmpl⟩ := chk_lp hc hlp.1 hlp.2
      rw [Int.toNat_natCast] at hx
      have hE0 : firE m k = 0 := by unfold firE; rw [if_pos hc, if_pos hlp]
      have hR0 : firR m k = (x.2.L, 0, 0) := by unfold firR mwd; rw [if_pos hE0, Int.toNat_natCast, hx]
      have hP := fun A c W (h1 : OwnR 3 1 encInt W w.heap.size (.slice A x.2.L.length c) x.2.L) (h2 : Below w.heap.size w W) => (show FirTo w m k (.returned (.tuple #[.agg #[.slice A x.2.L.length c, .int .i64 0, .int .i64 0], .int .i64 0])) W from
        ⟨A, c, by rw [hR0, hE0], by rw [hR0]; exact h1, h2⟩)
      generalize FirTo w m k = Post at *
      have HP := hide hP
      have HM := hide hm
      have HC := hide (hck _ hb0)
      have kI := hlp.2
      have kJ := hlp.1
      clear hP hm hck hE0 hR0 hc hcE hmpl hsp p0 p1 hlp
      obtain ⟨a, ha, a0, a1, _, hxA⟩ := HM.out.2.2.2.2.1.1 k x hx
      obtain ⟨seed, fin, dl, pl, ⟨lA, lc, ll⟩, il⟩ := m
      simp only [Mdl.val, Sl.val] at *
      subst ha
      have q1 : ll.length ≤ 9223372036854775807 := by omega
      have d1 : decide ((k : Int) < 0) = false := decide_eq_false (by omega)
      have d2 : decide ((ll.length : Int) ≤ (k : Int)) = false := decide_eq_false (by omega)
      have HB := hide hb0
      clear hb0 n1
      have x0 := hX.cell 0
      have x1 := hX.cell 1
      have x2 := hX.cell 2
      have x3 := hX.cell 3
      have x4 := hX.cell 4
      have x5 := hX.cell 5
      simp only [List.getElem?_toArray, List.getElem?_cons_zero, List.getElem?_cons_succ] at x0 x1 x2 x3 x4 x5
      go_enter Try.func51, Try.ntmps51
      go_upto_region 1 with fail
      generalize (World.alloc (World.alloc w _) _) = w0 at *
      go_wp2_with fail
      refine HC.out.mono ?_
      rintro e w1 ⟨rfl, hb1⟩
      clear x0 x1 x2 x3 x4 x5
      replace hX := hX.below hb1 hX.lt
      replace hR := hR.below hb1 hR.lt
      have hb2 := below_after HB.out hb1
      obtain ⟨q, w2, hq, hrun, hown, hblk, hb3⟩ := words_run w1 w1 x.2 (hxA.below IntAt.keeps hb2) (Below.refl _ _) (by omega) 59
      have hR2 := hblk _ _ _ hR
      have x0 := hX.cell 0
      have x1 := hX.cell 1
      have x2 := hX.cell 2
      have x3 := hX.cell 3
      have x4 := hX.cell 4
      have x5 := hX.cell 5
      simp only [List.getElem?_toArray, List.getElem?_cons_zero, List.getElem?_cons_succ] at x0 x1 x2 x3 x4 x5
      have r0 := hR2.cell 0
      have r1 := hR2.cell 1
      have r2 := hR2.cell 2
      simp only [List.getElem?_toArray, List.getElem?_cons_zero, List.getElem?_cons_succ] at r0 r1 r2
      have f0 := hR2.frozen 0
      have f1 := hR2.frozen 1
      have f2 := hR2.frozen 2
      have b0 := keepc hb2 a0
      have b1 := keepc hb2 a1
      have hsz := hR.lt
      have HO := hide hown
      have HQ := hide hq
      have HB4 := hide (below_after hb2 hb3)
      obtain ⟨qA, qc, qL⟩ := q
      simp only [Sl.val] at hrun HO HQ b1
      clear hX hR hR2 hblk hb1 hb2 hb3 hown hq a0 a1 HB HC
      go_wp2_with (at_builtin; go_must (refine wpList_of_append rfl _ w2 _ _ 59 _ _ _ rfl rfl rfl hrun ?_))
      obtain rfl := HQ.out
      refine bodyPost_ret (v := .tuple #[.agg #[.slice qA x.2.L.length qc, .int .i64 0, .int .i64 0], .int .i64 0]) (by simp [results, Try.results51, go_sem, r0, r1, r2]) rfl ?_
      refine HP.out qA qc _ ?_ ?_
      · exact OwnR.lower (((HO.out.setCell (by simp only; omega) _).setCell (by simp only; omega) _).setCell (by simp only; omega) _) (by omega)
      · exact ((HB4.out.setCell (by simp only; omega) _).setCell (by simp only; omega) _).setCell (by simp only; omega) _
    · have hE0 : firE m lp = 2 := by unfold firE; rw [if_pos hc, if_neg hlp]
      have hR0 : firR m lp = ([], 0, 0) := by unfold firR; rw [if_neg (by rw [hE0]; decide)]
      have hP := fun W (h2 : Below w.heap.size w W) => (show FirTo w m lp (.returned (.tuple #[.agg #[.slice none 0 0, .int .i64 0, .int .i64 0], .int .i64 2])) W from
        ⟨none, 0, by rw [hR0, hE0]; rfl, by rw [hR0]; exact OwnR.nil, h2⟩)
      generalize FirTo w m lp = Post at *
      have HP := hide hP
      have HC := hide (hck _ hb0)
      clear hP hm hck hE0 hR0 hc hcE
      obtain ⟨seed, fin, dl, pl, ⟨lA, lc, ll⟩, il⟩ := m
      simp only [Mdl.val, Sl.val] at *
      have q1 : ll.length ≤ 9223372036854775807 := by omega
      have HB := hide hb0
      clear hb0 n1
      by_cases h0 : lp < 0
      · have d1 : decide (lp < 0) = true := decide_eq_true h0
        clear hlp h0
        have x0 := hX.cell 0
        have x1 := hX.cell 1
        have x2 := hX.cell 2
        have x3 := hX.cell 3
        have x4 := hX.cell 4
        have x5 := hX.cell 5
        simp only [List.getElem?_toArray, List.getElem?_cons_zero, List.getElem?_cons_succ] at x0 x1 x2 x3 x4 x5
        go_enter Try.func51, Try.ntmps51
        go_upto_region 1 with fail
        generalize (World.alloc (World.alloc w _) _) = w0 at *
        go_wp2_with fail
        refine HC.out.mono ?_
        rintro e w1 ⟨rfl, hb1⟩
        clear x0 x1 x2 x3 x4 x5
        replace hX := hX.below hb1 hX.lt
        replace hR := hR.below hb1 hR.lt
        have x0 := hX.cell 0
        have x1 := hX.cell 1
        have x2 := hX.cell 2
        have x3 := hX.cell 3
        have x4 := hX.cell 4
        have x5 := hX.cell 5
        simp only [List.getElem?_toArray, List.getElem?_cons_zero, List.getElem?_cons_succ] at x0 x1 x2 x3 x4 x5
        have r0 := hR.cell 0
        have r1 := hR.cell 1
        have r2 := hR.cell 2
        simp only [List.getElem?_toArray, List.getElem?_cons_zero, List.getElem?_cons_succ] at r0 r1 r2
        have f0 := hR.frozen 0
        have f1 := hR.frozen 1
        have f2 := hR.frozen 2
        have HB2 := hide (below_after HB.out hb1)
        clear hX hR hb1 HC
        go_wp2_with fail
        refine bodyPost_ret (v := .tuple #[.agg #[.slice none 0 0, .int .i64 0, .int .i64 0], .int .i64 2]) (by simp [results, Try.results51, go_sem, r0, r1, r2]) rfl ?_
        exact HP.out _ (((HB2.out.setCell (by simp only; omega) _).setCell (by simp only; omega) _).setCell (by simp only; omega) _)
      · have d1 : decide (lp < 0) = false := decide_eq_false h0
        have d2 : decide ((ll.length : Int) ≤ lp) = true := decide_eq_true (by omega)
        clear hlp h0
        have x0 := hX.cell 0
        have x1 := hX.cell 1
        have x2 := hX.cell 2
        have x3 := hX.cell 3
        have x4 := hX.cell 4
        have x5 := hX.cell 5
        simp only [List.getElem?_toArray, List.getElem?_cons_zero, List.getElem?_cons_succ] at x0 x1 x2 x3 x4 x5
        go_enter Try.func51, Try.ntmps51
        go_upto_region 1 with fail
        generalize (World.alloc (World.alloc w _) _) = w0 at *
        go_wp2_with fail
        refine HC.out.mono ?_
        rintro e w1 ⟨rfl, hb1⟩
        clear x0 x1 x2 x3 x4 x5
        replace hX := hX.below hb1 hX.lt
        replace hR := hR.below hb1 hR.lt
        have x0 := hX.cell 0
        have x1 := hX.cell 1
        have x2 := hX.cell 2
        have x3 := hX.cell 3
        have x4 := hX.cell 4
        have x5 := hX.cell 5
        simp only [List.getElem?_toArray, List.getElem?_cons_zero, List.getElem?_cons_succ] at x0 x1 x2 x3 x4 x5
        have r0 := hR.cell 0
        have r1 := hR.cell 1
        have r2 := hR.cell 2
        simp only [List.getElem?_toArray, List.getElem?_cons_zero, List.getElem?_cons_succ] at r0 r1 r2
        have f0 := hR.frozen 0
        have f1 := hR.frozen 1
        have f2 := hR.frozen 2
        have HB2 := hide (below_after HB.out hb1)
        clear hX hR hb1 HC
        go_wp2_with fail
        refine bodyPost_ret (v := .tuple #[.agg #[.slice none 0 0, .int .i64 0, .int .i64 0], .int .i64 2]) (by simp [results, Try.results51, go_sem, r0, r1, r2]) rfl ?_
        exact HP.out _ (((HB2.out.setCell (by simp only; omega) _).setCell (by simp only; omega) _).setCell (by simp only; omega) _)
  · have hcE : chkE m = 15 := if_neg hc
    rw [hcE] at hck
    have hE0 : firE m lp = 15 := by unfold firE; rw [if_neg hc]
    have hR0 : firR m lp = ([], 0, 0) := by unfold firR; rw [if_neg (by rw [hE0]; decide)]
    have hP := fun W (h2 : Below w.heap.size w W) => (show FirTo w m lp (.returned (.tuple #[.agg #[.slice none 0 0, .int .i64 0, .int .i64 0], .int .i64 15])) W from
      ⟨none, 0, by rw [hR0, hE0]; rfl, by rw [hR0]; exact OwnR.nil, h2⟩)
    generalize FirTo w m lp = Post at *
    have HP := hide hP
    have HC := hide (hck _ hb0)
    clear hP hm hck hE0 hR0 hc hcE
    obtain ⟨seed, fin, dl, pl, ⟨lA, lc, ll⟩, il⟩ := m
    simp only [Mdl.val, Sl.val] at *
    have HB := hide hb0
    clear hb0 n1
    have x0 := hX.cell 0
    have x1 := hX.cell 1
    have x2 := hX.cell 2
    have x3 := hX.cell 3
    have x4 := hX.cell 4
    have x5 := hX.cell 5
    simp only [List.getElem?_toArray, List.getElem?_cons_zero, List.getElem?_cons_succ] at x0 x1 x2 x3 x4 x5
    go_enter Try.func51, Try.ntmps51
    go_upto_region 1 with fail
    generalize (World.alloc (World.alloc w _) _) = w0 at *
    go_wp2_with fail
    refine HC.out.mono ?_
    rintro e w1 ⟨rfl, hb1⟩
    clear x0 x1 x2 x3 x4 x5
    replace hR := hR.below hb1 hR.lt
    have r0 := hR.cell 0
    have r1 := hR.cell 1
    have r2 := hR.cell 2
    simp only [List.getElem?_toArray, List.getElem?_cons_zero, List.getElem?_cons_succ] at r0 r1 r2
    have f0 := hR.frozen 0
    have f1 := hR.frozen 1
    have f2 := hR.frozen 2
    have HB2 := hide (below_after HB.out hb1)
    clear hX hR hb1 HC
    go_wp2_with fail
    refine bodyPost_ret (v := .tuple #[.agg #[.slice none 0 0, .int .i64 0, .int .i64 0], .int .i64 15]) (by simp [results, Try.results51, go_sem, r0, r1, r2]) rfl ?_
    exact HP.out _ (((HB2.out.setCell (by simp only; omega) _).setCell (by simp only; omega) _).setCell (by simp only; omega) _)
end Go.Proofs.Ytpfcmfannkbipaa
end
