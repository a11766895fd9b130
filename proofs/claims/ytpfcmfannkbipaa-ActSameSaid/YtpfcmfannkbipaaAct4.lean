/- The walk of the closure in act's events: what one more event that is sent does. No condition but sizes. -/
import Derived.Test.YtpfcmfannkbipaaAct3
import Derived.Deep.QuietTactic
import Derived.BigQuiet
set_option linter.unusedVariables false
set_option linter.unusedSimpArgs false
set_option maxRecDepth 20000
namespace Go.Proofs.Ytpfcmfannkbipaa
open Go.RowKit Go.Deep

attribute [local go_sem] run_store_float
/-- How far events has come: what lies where. -/
structure EvS (w : World) (M S E : Array Value) (lp : Int) (v : Value) (L : List Ev) (wr : World) : Prop where
  bel : Below w.heap.size w wr
  siz : w.heap.size + 5 ≤ wr.heap.size
  mB : Blk wr w.heap.size 58 M
  lB : Blk wr (w.heap.size + 1) 3 #[.int .i64 lp]
  sB : Blk wr (w.heap.size + 1 + 1) 61 S
  eB : Blk wr (w.heap.size + 1 + 1 + 1) 37 E
  oB : Blk wr (w.heap.size + 1 + 1 + 1 + 1) 65 #[v]
  own : OwnR 37 5 encEv wr (w.heap.size + 5) v L
section
variable {w wr w' : World} {M S E : Array Value} {lp : Int} {v : Value} {L : List Ev}
theorem EvS.below (h : EvS w M S E lp v L wr) (hb : Below wr.heap.size wr w') : EvS w M S E lp v L w' :=
  ⟨below_after h.bel hb, Nat.le_trans h.siz hb.size, h.mB.below hb h.mB.lt, h.lB.below hb h.lB.lt, h.sB.below hb h.sB.lt, h.eB.below hb h.eB.lt, h.oB.below hb h.oB.lt, h.own.below hb⟩
theorem EvS.addE (h : EvS w M S E lp v L wr) (x : Ev) (hL : L.length ≤ 1000) (ty : TypeId) :
    ∃ (q : Sl Ev) (w2 : World), (Builtin.append_ #[65, 65] ty #[v, .slice (some ⟨wr.heap.size, 0, none⟩) 1 1]).run Try.prog (wr.alloc (.cells #[.float .f64 x.1, .int .i64 x.2.1, .int .i64 x.2.2.1, .int .i64 x.2.2.2.1, .int .i64 x.2.2.2.2] 37)) = .ok q.val w2 ∧
      q.L = L ++ [x] ∧ EvS w M S E lp q.val (L ++ [x]) (w2.setCell ⟨w.heap.size + 1 + 1 + 1 + 1, 0, none⟩ q.val) ∧
      w2.cell? ⟨w.heap.size + 1 + 1 + 1 + 1, 0, none⟩ = some v ∧ w2.frozen? ⟨w.heap.size + 1 + 1 + 1 + 1, 0, none⟩ = false := by
  obtain ⟨v2, w2, hrun2, hown2, hext2⟩ := run_append_one (P := Try.prog) 37 65 ty 5 40 (.agg #[.float .f64 0, .int .i64 0, .int .i64 0, .int .i64 0, .int .i64 0]) encEv (by decide) (fun _ => rfl) one_ev Try.underlying65 inf_ev rfl wr (w.heap.size + 5) v L x _ rfl h.own (by omega) (by omega) h.siz
  obtain ⟨q, rfl, hqL, _, _⟩ := hown2.form
  have hg := hext2.1
  have hblk : ∀ {g : Nat} {t : TypeId} {cs : Array Value}, Blk wr g t cs → g < w.heap.size + 5 → Blk w2 g t cs := fun hb hlt => OwnR.blk h.own hb hlt hg
  have o2 := hblk h.oB (by omega)
  refine ⟨q, w2, hrun2, hqL, ⟨?_, ?_, ?_, ?_, ?_, ?_, ?_, ?_⟩, o2.cell 0, o2.frozen 0⟩
  · refine Below.setCell ?_ (by simp only; omega) _
    exact h.bel.trans ((Below.refl w.heap.size wr).grown hg (Nat.le_trans (by omega) h.siz) fun k hk => Nat.le_trans (by omega) (h.own.base k hk))
  · simpa [World.setCell] using Nat.le_trans h.siz hg.size
  · exact (hblk h.mB (by omega)).far (p := ⟨w.heap.size + 1 + 1 + 1 + 1, 0, none⟩) (by simp only; omega) _
  · exact (hblk h.lB (by omega)).far (p := ⟨w.heap.size + 1 + 1 + 1 + 1, 0, none⟩) (by simp only; omega) _
  · exact (hblk h.sB (by omega)).far (p := ⟨w.heap.size + 1 + 1 + 1 + 1, 0, none⟩) (by simp only; omega) _
  · exact (hblk h.eB (by omega)).far (p := ⟨w.heap.size + 1 + 1 + 1 + 1, 0, none⟩) (by simp only; omega) _
  · have := o2.set_ 0 q.val
    simpa using this
  · exact hown2.setCell (by simp only; omega) _
end
/-- The class of worlds in which one more event is reckoned. -/
structure EvW (w : World) (M S E : Array Value) (lp : Int) (v : Value) (L : List Ev) (g : Nat) (X : Array Value) (w1 W : World) : Prop where
  st : EvS w M S E lp v L W
  x : Blk W g 130 X
  b : Below w1.heap.size w1 W
theorem EvW.hidden (w : World) (M S E : Array Value) (lp : Int) (v : Value) (L : List Ev) (g : Nat) (X : Array Value) (w1 W0 : World) (h : EvW w M S E lp v L g X w1 W0) :
    ∃ p : World → Prop, Outlives p ∧ p W0 ∧ Nonempty (Wo p) ∧ (∀ i : Wo p, EvW w M S E lp v L g X w1 i.W) :=
  ⟨EvW w M S E lp v L g X w1, fun _ _ h hb => ⟨h.st.below hb, h.x.below hb h.x.lt, below_after h.b hb⟩, h, ⟨⟨W0, h⟩⟩, fun i => i.ok⟩
/-- What one more event that is sent does. -/
def PutTo (w : World) (M S E : Array Value) (lp : Int) (L : List Ev) (b : Bool) (e : Ending) (w' : World) : Prop := e = .returned (.bool b) ∧ ∃ v', EvS w M S E lp v' L w'
/-- The delay's place. -/
theorem delay_at (x : Int) (n : Nat) (hn : 1 ≤ n) (hn2 : n ≤ 1000) : ∃ r j : Int, x.tmod n = r ∧ -(n : Int) < r ∧ r < n ∧ (r + n).tmod n = j ∧ (r + n) % n = j ∧ 0 ≤ j ∧ j < n ∧ x % (n : Int) = j := by
  have h1 : x.tmod n = if 0 ≤ x then x % n else -((-x) % n) := by
    split
    · exact Int.tmod_eq_emod_of_nonneg (by assumption)
    · rename_i h
      have h2 : (-x).tmod n = (-x) % n := Int.tmod_eq_emod_of_nonneg (by omega)
      rw [Int.neg_tmod] at h2
      omega
  have hp : (0 : Int) < n := by omega
  have a1 := Int.emod_nonneg x (b := (n : Int)) (by omega)
  have a2 := Int.emod_lt_of_pos x hp
  have b1 := Int.emod_nonneg (-x) (b := (n : Int)) (by omega)
  have b2 := Int.emod_lt_of_pos (-x) hp
  have hr : -(n : Int) < x.tmod n ∧ x.tmod n < n := by rw [h1]; split <;> omega
  have hmod : (x.tmod n + n) % n = x % n := by
    rw [Int.add_emod_right]
    have h3 := Int.mul_tdiv_add_tmod x n
    have h4 : x % n = (x.tmod n) % n := by
      conv => lhs; rw [← h3]
      rw [Int.add_comm, Int.add_mul_emod_self_left]
    exact h4.symm
  exact ⟨_, x % n, rfl, hr.1, hr.2, by rw [Int.tmod_eq_emod_of_nonneg (by omega)]; exact hmod, hmod, a1, a2, rfl⟩
set_option maxHeartbeats 4000000 in
theorem put_any (w wr : World) (seed : Int) (fin : Nat) (dl : Sl Nat) (v3 v4 v5 v6 v7 v8 v9 v10 v11 : Value) (t : Nat) (lp sent : Int) (v : Value) (L : List Ev) (k : Nat) (x : Snt)
    (hS : EvS w #[.int .i64 seed, .float .f64 fin, dl.val, v3, v4, v5] #[v6, .int .i64 sent, v7] #[.float .f64 t, v8, v9, v10, v11] lp v L wr) (hd : dl.At FlAt 1 wr) (h1 : 1 ≤ dl.L.length) (h2 : dl.L.length ≤ 1000)
    (hL : L.length ≤ 1000) (hk : k ≤ 1000) (hs : 0 ≤ sent) (hs2 : sent ≤ 1099511627776) :
    Calls Try.prog 103 #[.int .i64 k, .agg #[.int .i64 x.1, .int .i64 x.2.1, .int .i64 x.2.2], .pointer (some ⟨w.heap.size, 0, none⟩), .pointer (some ⟨w.heap.size + 1 + 1 + 1, 0, none⟩), .pointer (some ⟨w.heap.size + 1 + 1 + 1 + 1, 0, none⟩), .pointer (some ⟨w.heap.size + 1, 0, none⟩), .pointer (some ⟨w.heap.size + 1 + 1, 0, none⟩)] wr
      (PutTo w #[.int .i64 seed, .float .f64 fin, dl.val, v3, v4, v5] #[v6, .int .i64 sent, v7] #[.float .f64 t, v8, v9, v10, v11] lp (if sndOk dl.L t x then L ++ sndF dl.L t fin lp sent k x else L) (sndOk dl.L t x)) := by
  obtain ⟨d, dn, pay⟩ := x
  obtain ⟨r, j, j1, j2, j3, j4, j5, j6, j7, j8⟩ := delay_at dn dl.L.length h1 h2
  have hdly : dly dl.L dn = dl.L.getD j.toNat 0 := by unfold dly; rw [j8]
  have hjl : j.toNat < dl.L.length := by omega
  have hget : dl.L[j.toNat]? = some (dl.L.getD j.toNat 0) := by rw [List.getD_eq_getElem?_getD, List.getElem?_eq_getElem hjl]; rfl
  have hD : ∀ W, Below wr.heap.size wr W → ∃ a, dl.A = some a ∧ W.cell? (a.add j.toNat) = some (.float .f64 (dl.L.getD j.toNat 0)) := fun W hb => by
    obtain ⟨a, ha, hc, _⟩ := (hd.below FlAt.keeps hb).1 j.toNat _ hget
    exact ⟨a, ha, by simpa using hc⟩
  have hok : sndOk dl.L t (d, dn, pay) = decide (laterE t (dly dl.L dn) = 0) := rfl
  have hF : sndF dl.L t fin lp sent k (d, dn, pay) = if timesI (laterF t (dly dl.L dn)) fin ≤ 0 then [(laterF t (dly dl.L dn), lp, sent + (k : Int), d, pay)] else [] := rfl
  rw [hok, hF, hdly]
  clear hok hF hdly hget j8
  have hX := Blk.new wr 130 #[.int .i64 d, .int .i64 dn, .int .i64 pay]
  have hb0 : Below wr.heap.size wr (wr.alloc (.cells #[.int .i64 d, .int .i64 dn, .int .i64 pay] 130)) := (Below.refl _ _).alloc (Nat.le_refl _) _
  have hS0 := hS.below hb0
  have hl2 := hd.2
  obtain ⟨A, dc, l⟩ := dl
  simp only [Sl.val] at *
  obtain ⟨a, rfl, _⟩ := hD wr (Below.refl _ _)
  have hD : ∀ W, Below wr.heap.size wr W → W.cell? (a.add j.toNat) = some (.float .f64 (l.getD j.toNat 0)) := fun W hb => by
    obtain ⟨a', ha, hc⟩ := hD W hb
    simp only [Option.some.injEq] at ha
    rw [ha]
    exact hc
  have j9 : (j.toNat : Int) = j := by omega
  have hlen : (l.length : Int) ≠ 0 := by omega
  have hlen2 : ((l.length : Int) == 0) = false := by rw [beq_eq_false_iff_ne]; exact hlen
  have hq : sent + (k : Int) ≤ 1000000000000000 := by omega
  have hl3 : l.length ≤ 9223372036854775807 := by omega
  have hw1 : IntKind.i64.wrap (r + (l.length : Int)) = r + (l.length : Int) := IntWalk.i64_in _ (by omega)
  generalize l.getD j.toNat 0 = D at *
  have hla := fun W => later_any t D W
  generalize hT : laterF t D = T at *
  generalize hU : laterE t D = U at *
  clear hT hU
  have hP0 := fun v' W (h : EvS w #[.int .i64 seed, .float .f64 fin, .slice (some a) l.length dc, v3, v4, v5] #[v6, .int .i64 sent, v7] #[.float .f64 t, v8, v9, v10, v11] lp v' (if decide (U = 0) = true then L ++ (if timesI T fin ≤ 0 then [(T, lp, sent + (k : Int), d, pay)] else []) else L) W) =>
    (show PutTo w #[.int .i64 seed, .float .f64 fin, .slice (some a) l.length dc, v3, v4, v5] #[v6, .int .i64 sent, v7] #[.float .f64 t, v8, v9, v10, v11] lp (if decide (U = 0) = true then L ++ (if timesI T fin ≤ 0 then [(T, lp, sent + (k : Int), d, pay)] else []) else L) (decide (U = 0)) (.returned (.bool (decide (U = 0)))) W from ⟨rfl, v', h⟩)
  generalize PutTo _ _ _ _ _ _ _ = Post at *
  have hP := hide hP0
  clear hP0
  have HD := hide hD
  clear hD
  have hm2 := hS0.mB.cell 2
  simp only [List.getElem?_toArray, List.getElem?_cons_zero, List.getElem?_cons_succ] at hm2
  have HS := hide hS
  have HB := hide hb0
  clear hd hS HS
  obtain ⟨p, hO, h0, hne, hI⟩ := EvW.hidden w _ _ _ lp v L wr.heap.size #[.int .i64 d, .int .i64 dn, .int .i64 pay] wr ((wr.alloc (.cells #[.int .i64 d, .int .i64 dn, .int .i64 pay] 130)).drew) ⟨hS0.below (Below.refl _ _).drew, hX.drew, hb0.drew⟩
  have kD : ∀ i : Wo p, i.W.cell? (a.add j.toNat) = some (.float .f64 D) := fun i => HD.out _ (hI i).b
  have k0 := fun i : Wo p => (hI i).st.eB.cell 0
  have k1 := fun i : Wo p => (hI i).st.mB.cell 2
  have k2 := fun i : Wo p => (hI i).x.cell 1
  simp only [List.getElem?_toArray, List.getElem?_cons_zero, List.getElem?_cons_succ] at k0 k1 k2
  have HI := hide hI
  have HP := hide hO
  have H0 := hide h0
  have HS0 := hide hS0
  have HX := hide hX
  clear hI hO h0 hS0 hX hb0 HD HB
  go_enter Try.func103, Try.ntmps103
  go_upto_region 2 with fail
  refine wp_region_quietC (by kernel_rfl) (by kernel_rfl) H0.out ?_
  repeat (go_big_quiet_step (first
    | (go_at_call 104; exact Calls.quietC HP.out (hla _))))
  refine wpQuiet_nil ?_
  intro _ hw'
  obtain ⟨i, rfl⟩ := hw'
  have hi := HI.out i
  generalize i.W = W at *
  clear k0 k1 k2 kD HI HP H0 hne i
  by_cases hU : U = 0
  · subst hU
    have hm1 := hi.st.mB.cell 1
    simp only [List.getElem?_toArray, List.getElem?_cons_zero, List.getElem?_cons_succ] at hm1
    have HT := hide hi
    clear hi
    go_wp2_with fail
    refine (times_any _ _ _).mono ?_
    rintro e w2 ⟨rfl, rfl⟩
    by_cases hc : timesI T fin ≤ 0
    · have hP1 := hP.out
      simp only [decide_true, if_true, if_pos hc] at hP1
      have HPP := hide hP1
      obtain ⟨⟨qA, qc, qL⟩, w2, hrun, hqL, hS2, o1, o2⟩ := HT.out.st.addE (T, lp, sent + (k : Int), d, pay) hL 65
      simp only [Sl.val] at *
      have l0 := HT.out.st.lB.cell 0
      simp only [List.getElem?_toArray, List.getElem?_cons_zero, List.getElem?_cons_succ] at l0
      have o0 := HT.out.st.oB.cell 0
      simp only [List.getElem?_toArray, List.getElem?_cons_zero, List.getElem?_cons_succ] at o0
      have s0 := HT.out.st.sB.cell 0
      have s1 := HT.out.st.sB.cell 1
      have s2 := HT.out.st.sB.cell 2
      simp only [List.getElem?_toArray, List.getElem?_cons_zero, List.getElem?_cons_succ] at s0 s1 s2
      have x0 := HT.out.x.cell 0
      have x1 := HT.out.x.cell 1
      have x2 := HT.out.x.cell 2
      simp only [List.getElem?_toArray, List.getElem?_cons_zero, List.getElem?_cons_succ] at x0 x1 x2
      have HS2 := hide hS2
      have hw2 : IntKind.i64.wrap (sent + (k : Int)) = sent + (k : Int) := IntWalk.i64_in _ (by omega)
      clear hP1 hS2 hP hqL
      go_wp2_with (at_builtin; go_must (refine wpList_of_append rfl _ w2 _ _ 65 _ _ _ rfl rfl rfl hrun ?_))
      exact HPP.out _ _ HS2.out
    · have hP1 := hP.out
      simp only [decide_true, if_true, if_neg hc, List.append_nil] at hP1
      have HPP := hide hP1
      clear hP1 hP
      go_wp2_with fail
      exact HPP.out _ _ HT.out.st
  · have hP1 := hP.out
    rw [decide_eq_false hU] at hP1
    simp only [Bool.false_eq_true, if_false] at hP1
    have HPP := hide hP1
    have HT := hide hi
    have hne : (U != 0) = true := by rw [bne_iff_ne]; exact hU
    have hdec : decide (U = 0) = false := decide_eq_false hU
    clear hP1 hP hi hU
    go_wp2_with fail
    exact HPP.out _ _ HT.out.st
end Go.Proofs.Ytpfcmfannkbipaa
