/- Texts of this claim in one. No condition. -/
import Derived.Test.YtpfcmfannkbipaaJ51
import Derived.Test.YtpfcmfannkbipaaJ21
section
set_option linter.unusedVariables false
set_option linter.unusedSimpArgs false
set_option maxRecDepth 20000
namespace Go.Proofs.Ytpfcmfannkbipaa
open Go.RowKit Go.Deep Go.Maps

attribute [local go_sem] run_store_float
/-- A state whose words lie in a row of one's own. -/
structure StO (B : Nat) (x : St) (w : World) : Prop where
  own : OwnR 3 1 encInt w B x.wd.val x.wd.L
  wi : ∀ z ∈ x.wd.L, I64 z
  si : I64 x.sent
  di : I64 x.dice
section
variable {B : Nat} {x : St} {w w' : World}
theorem StO.at (h : StO B x w) : x.At w := ⟨OwnR.sl (size := 1) (by decide) (fun _ => rfl) makes_int h.own h.wi, h.si, h.di⟩
theorem StO.lower {N : Nat} (h : StO B x w) (hN : N ≤ B) : StO N x w := ⟨OwnR.lower h.own hN, h.wi, h.si, h.di⟩
theorem StO.below (h : StO B x w) (hb : Below w.heap.size w w') : StO B x w' := ⟨h.own.below hb, h.wi, h.si, h.di⟩
theorem StO.off {T : Nat → Prop} (h : StO B x w) (ho : Off T w w') (hT : ∀ k, B ≤ k → ¬ T k) : StO B x w' := ⟨ho.own h.own fun k hk => hT k (h.own.base k hk), h.wi, h.si, h.di⟩
end
set_option maxHeartbeats 1000000 in
theorem state9p_own {lo g b : Nat} {m : Mdl} {n : Nat} {s : Sm9} {Sv : Value} {w : World} (h : Pk9 lo g b m n s Sv w) (lp : Int) : Calls Try.prog 60 #[.pointer (some ⟨g, 0, none⟩), .int .i64 lp] w fun e w' => ∃ x : St, e = .returned x.val ∧ x.pl = stAt s.1 lp ∧ StO w.heap.size x w' ∧ Below w.heap.size w w' := by
  obtain ⟨c, S, L, nx, hd, hP, _, _, _, hS, _, _, _, _, hw8, _⟩ := h
  have hX := Blk.new w 61 #[.slice none 0 0, .int .i64 0, .int .i64 0]
  have hb := (Below.refl w.heap.size w).alloc (Nat.le_refl _) (.cells #[.slice none 0 0, .int .i64 0, .int .i64 0] 61)
  have hP1 := hP.below hb
  have c6 := hP1.box.cell 6
  simp only [simC, Sl.val, List.getElem?_toArray, List.getElem?_cons_zero, List.getElem?_cons_succ] at c6
  have hz0 : I64 0 := ⟨by decide, by decide⟩
  have HX := hide hX
  have HB := hide hb
  have hlen : S.L.length = s.1.length := by rw [← hS, List.length_map]
  obtain ⟨Post, hPost⟩ : ∃ P : Ending → World → Prop, P = fun e w' => ∃ x : St, e = .returned x.val ∧ x.pl = stAt s.1 lp ∧ StO w.heap.size x w' ∧ Below w.heap.size w w' := ⟨_, rfl⟩
  rw [← hPost]
  have HPO := hide hPost
  clear hPost hX hb
  by_cases hin : 0 ≤ lp ∧ lp < (S.L.length : Int)
  · obtain ⟨k, rfl⟩ : ∃ k : Nat, lp = k := ⟨lp.toNat, by omega⟩
    have hkl : k < S.L.length := by omega
    have hsk := List.getElem?_eq_getElem hkl
    have hmem := List.getElem_mem hkl
    generalize S.L[k] = sk at *
    have hTS : TRow 61 StB 3 _ S := TRow.of_own (ok := fun _ _ => True) (by decide) (fun _ => rfl) makes_stb hP1.st (fun _ _ => trivial)
    obtain ⟨bS, hbS, t0, t1, t2⟩ := hTS.at_.1 k _ hsk
    have hwd := hP1.wds _ hmem
    have h8 : sk.wd.L.length ≤ 8 := hw8 sk.pl (by rw [← hS]; exact List.mem_map_of_mem hmem)
    have HC := hide (copy8_any sk _ ⟨hwd.1.at_, hwd.2⟩ (by omega))
    have HSK := hide (show sk.pl = stAt s.1 (k : Int) by
      unfold stAt
      rw [if_pos ⟨by omega, by omega⟩, ← hS, List.getD_eq_getElem?_getD, Int.toNat_natCast, List.getElem?_map, hsk]
      rfl)
    have HWD := hide hwd.2
    have HI := hide (sl_ints hwd.1.at_)
    have HBA := hide (fun W (hb : Below _ _ W) => below_after HB.out hb)
    rw [hbS] at c6
    have l0 : ¬ (k : Int) < 0 := by omega
    have l1 : (k : Int) < (S.L.length : Int) := by omega
    have l2 : ¬ (S.L.length : Int) ≤ (k : Int) := by omega
    have kJ : (0 : Int) ≤ (k : Int) := by omega
    clear hTS hwd h8 hP hP1 hS hw8 hmem hsk hin hlen hbS
    obtain ⟨⟨sA, sc, sl⟩, ss, sd⟩ := sk
    unfold St.val Sl.val at HC
    simp only at t0 t1 t2 HC
    unfold Sl.val at t0
    simp only at t0
    go_enter Try.func60, Try.ntmps60
    go_upto_region 1 with fail
    generalize World.alloc w _ = w1 at *
    generalize hn : w.heap.size = nb at *
    go_wp2_with fail
    refine HC.out.mono ?_
    rintro e w2 ⟨⟨⟨cA, cc, cl⟩, cs, cd⟩, rfl, hpl, how, hb2⟩
    have hX2 := HX.out.below hb2 HX.out.lt
    simp only [St.pl, Prod.mk.injEq] at hpl
    obtain ⟨rfl, rfl, rfl⟩ := hpl
    have HFIN := hide (fun a0 a1 a2 => (show Post (.returned (St.val ⟨⟨cA, cc, cl⟩, cs, cd⟩)) (((w2.setCell ⟨nb, 0, none⟩ a0).setCell ⟨nb, 1, none⟩ a1).setCell ⟨nb, 2, none⟩ a2) by
      rw [HPO.out]
      have hlt := HX.out.lt
      have hI : ∀ z ∈ cl, I64 z := HI.out
      refine ⟨_, rfl, HSK.out, ⟨OwnR.lower (((how.setCell (p := ⟨nb, 0, none⟩) hlt a0).setCell (p := ⟨nb, 1, none⟩) hlt a1).setCell (p := ⟨nb, 2, none⟩) hlt a2) (Nat.le_of_lt hlt), hI, HWD.out.1, HWD.out.2⟩, ?_⟩
      exact (((HBA.out _ hb2).setCell (p := ⟨nb, 0, none⟩) (Nat.le_refl _) a0).setCell (p := ⟨nb, 1, none⟩) (Nat.le_refl _) a1).setCell (p := ⟨nb, 2, none⟩) (Nat.le_refl _) a2))
    have f0 := hX2.frozen 0
    have f1 := hX2.frozen 1
    have f2 := hX2.frozen 2
    have x0 := hX2.cell 0
    have x1 := hX2.cell 1
    have x2 := hX2.cell 2
    simp only [List.getElem?_toArray, List.getElem?_cons_zero, List.getElem?_cons_succ] at x0 x1 x2
    clear hX2 how hb2 c6 t0 t1 t2 HX HB HC
    unfold St.val Sl.val at HFIN ⊢
    simp only at HFIN ⊢
    go_wp2_with fail
    refine bodyPost_ret (v := .agg #[.slice cA cl.length cc, .int .i64 cs, .int .i64 cd]) (by simp [results, Try.results60, go_sem, x0, x1, x2]) rfl ?_
    exact HFIN.out _ _ _
  · have HFIN := hide (fun W (hb : Below w.heap.size w W) => (show Post (.returned (St.val ⟨⟨none, 0, []⟩, 0, 0⟩)) W by
      rw [HPO.out]
      refine ⟨_, rfl, ?_, ⟨OwnR.nil, fun z hz => by simp at hz, hz0, hz0⟩, hb⟩
      unfold stAt
      rw [if_neg (by rw [← hlen]; exact hin)]
      rfl))
    have hX := HX.out
    have f0 := hX.frozen 0
    have f1 := hX.frozen 1
    have f2 := hX.frozen 2
    have x0 := hX.cell 0
    have x1 := hX.cell 1
    have x2 := hX.cell 2
    simp only [List.getElem?_toArray, List.getElem?_cons_zero, List.getElem?_cons_succ] at x0 x1 x2
    have hw : lp < 0 ∨ (¬ lp < 0 ∧ (S.L.length : Int) ≤ lp) := by omega
    clear hP hP1 hS hw8 hin hlen hX HX
    unfold St.val Sl.val at HFIN
    rcases hw with l0 | ⟨l0, l1⟩
    all_goals
      go_enter Try.func60, Try.ntmps60
      go_upto_region 1 with fail
      generalize World.alloc w _ = w1 at *
      generalize hn : w.heap.size = nb at *
      go_wp2_with fail
      refine bodyPost_ret (v := .agg #[.slice none 0 0, .int .i64 0, .int .i64 0]) (by simp [results, Try.results60, go_sem, x0, x1, x2]) rfl ?_
      exact HFIN.out _ (((HB.out.setCell (p := ⟨nb, 0, none⟩) (Nat.le_refl _) _).setCell (p := ⟨nb, 1, none⟩) (Nat.le_refl _) _).setCell (p := ⟨nb, 2, none⟩) (Nat.le_refl _) _)
/-- The states that a round has laid into its list. -/
structure Col9 (sts : List StP) (B : Nat) (wr : World) (i : Nat) (q : Sl St) (wy : World) : Prop where
  pl : q.L.map St.pl = sts.take i
  own : OwnR 61 3 encSt wy B q.val q.L
  st : ∀ x ∈ q.L, StO B x wy
  bel : Below B wr wy
  sz : B ≤ wr.heap.size
section
variable {sts : List StP} {B i : Nat} {wr wy w3 w' : World} {q : Sl St}
theorem Col9.start (sts : List StP) (hB : B ≤ wr.heap.size) : Col9 sts B wr 0 ⟨none, 0, []⟩ wr := ⟨rfl, OwnR.nil, fun x hx => by simp at hx, Below.refl _ _, hB⟩
theorem Col9.below (h : Col9 sts B wr i q wy) (hb : Below wy.heap.size wy w') : Col9 sts B wr i q w' := ⟨h.pl, h.own.below hb, fun x hx => (h.st x hx).below hb, h.bel.trans (hb.mono (Nat.le_trans h.sz h.bel.size)), h.sz⟩
theorem Col9.add (h : Col9 sts B wr i q wy) {x : St} (hi : i < sts.length) (hs : sts.length ≤ 1000) (hx : x.pl = stAt sts (i : Int)) (ho : StO wy.heap.size x w3) (hb : Below wy.heap.size wy w3) (ty : TypeId) :
    ∃ (q' : Sl St) (w4 : World), (Builtin.append_ #[92, 92] ty #[q.val, .slice (some ⟨w3.heap.size, 0, none⟩) 1 1]).run Try.prog (w3.alloc (.cells #[x.wd.val, .int .i64 x.sent, .int .i64 x.dice] 61)) = .ok q'.val w4 ∧ Col9 sts B wr (i + 1) q' w4 := by
  have h3 := h.below hb
  have hql : q.L.length ≤ 1000 := by
    have := congrArg List.length h.pl
    simp only [List.length_map, List.length_take] at this
    omega
  have hB3 : B ≤ w3.heap.size := Nat.le_trans h3.sz h3.bel.size
  obtain ⟨v', w4, hrun, hown, hg⟩ := run_append_one (P := Try.prog) 61 92 ty 3 40 (.agg #[.slice none 0 0, .int .i64 0, .int .i64 0]) encSt (by decide) (fun _ => rfl) one_st Try.underlying92 inf_st rfl w3 B q.val q.L x #[x.wd.val, .int .i64 x.sent, .int .i64 x.dice] rfl h3.own (by omega) (by omega) hB3
  obtain ⟨q', rfl, hL, _, _⟩ := hown.form
  have hO : Off (fun k => q.val.ownBlock = some k) w3 w4 := Off.of_grown hg.1 fun k e => e
  have hint : ∀ y : St, StO B y w3 → StO B y w4 := fun y hy => ⟨hO.own hy.own fun k hk e => by
    obtain ⟨c1, h1⟩ := hy.own.typ hk
    obtain ⟨c2, h2⟩ := h3.own.typ e
    exact Blk.ne_ (w := w3) (g := k) (g' := k) h1 h2 (by decide) rfl, hy.wi, hy.si, hy.di⟩
  refine ⟨q', w4, hrun, ⟨?_, by rw [hL]; exact hown, fun y hy => ?_, h3.bel.trans (hg.below hB3 fun k hk => h3.own.base k hk), h3.sz⟩⟩
  · rw [hL, List.map_append, h.pl, List.take_succ_eq_append_getElem hi]
    congr 1
    simp only [List.map_cons, List.map_nil, hx]
    unfold stAt
    rw [if_pos ⟨by omega, by omega⟩, Int.toNat_natCast, List.getD_eq_getElem?_getD, List.getElem?_eq_getElem hi]
    rfl
  · rw [hL] at hy
    rcases List.mem_append.1 hy with hy | hy
    · exact hint y (h3.st y hy)
    · obtain rfl := List.mem_singleton.1 hy
      exact hint y (ho.lower (Nat.le_trans h.sz h.bel.size))
/-- What turns below the round's own memory leaves them. -/
theorem Col9.off {T : Nat → Prop} (h : Col9 sts B wr i q wy) (ho : Off T wy w') (hT : ∀ k, T k → k < B) : OwnR 61 3 encSt w' B q.val q.L ∧ ∀ x ∈ q.L, StO B x w' :=
  ⟨ho.own h.own fun k hk ht => by have := h.own.base k hk; have := hT k ht; omega, fun x hx => (h.st x hx).off ho fun k hk ht => by have := hT k ht; omega⟩
end
end Go.Proofs.Ytpfcmfannkbipaa
end

section
set_option linter.unusedVariables false
set_option linter.unusedSimpArgs false
set_option maxRecDepth 20000
namespace Go.Proofs.Ytpfcmfannkbipaa
open Go.RowKit Go.Deep Go.Maps

attribute [local go_sem] run_store_float
theorem Pk9.ok {lo g b : Nat} {m : Mdl} {n : Nat} {s : Sm9} {Sv : Value} {w : World} (h : Pk9 lo g b m n s Sv w) : Ok9 m n s := by
  obtain ⟨c, S, L, nx, hd, _, _, hcon, _, _, _, _, hok, _⟩ := h
  exact ⟨fun x hx => ⟨(hok.wt x hx).ok, (hok.wt x hx).d0, by rw [← hcon.ll_len]; exact (hok.wt x hx).d1, (hok.wt x hx).num, by rw [← hcon.fin]; exact (hok.wt x hx).le⟩, hok.sort, hok.len, by rw [← hcon.ll_len]; exact hok.sl, hok.dl⟩
/-- A simulation k steps on, the model's box ahead of it. -/
structure Ct9 (m : Mdl) (cs : Array Value) (w : World) (nb lo g b : Nat) (Sv : Value) (k : Nat) (wr : World) : Prop where
  pk : Pk9 lo g b m k (run9 m k (new9 m)) Sv wr
  bx : Blk wr nb 58 cs
  bel : Below w.heap.size w wr
section
variable {m : Mdl} {cs : Array Value} {w wr w' : World} {nb lo g b k : Nat} {Sv : Value}
theorem Ct9.below (h : Ct9 m cs w nb lo g b Sv k wr) (hb : Below wr.heap.size wr w') : Ct9 m cs w nb lo g b Sv k w' := ⟨h.pk.below hb, h.bx.below hb h.bx.lt, below_after h.bel hb⟩
theorem Ct9.step (h : Ct9 m cs w nb lo g b Sv k wr) (hlo : nb < lo) (hw : w.heap.size ≤ lo) (hk : k ≤ 10000) : Calls Try.prog 61 #[.pointer (some ⟨g, 0, none⟩)] wr fun x w1 => x = .returned (stepV m (run9 m k (new9 m))) ∧ Ct9 m cs w nb lo g b Sv (k + 1) w1 ∧ Off (tchv g b Sv) wr w1 := by
  refine (step9p_all h.pk hk).mono ?_
  rintro x w1 ⟨rfl, hP, hO⟩
  exact ⟨rfl, ⟨by rw [run9_succ]; exact hP, hO.blk h.bx (fun e => by have := (h.pk.tlo e).1; omega), h.bel.trans (hO.below h.bel.size fun i e => by have := (h.pk.tlo e).1; omega)⟩, hO⟩
end
set_option maxHeartbeats 4000000 in
theorem counts09_walk (m : Mdl) (n : Int) (w : World) (hm : m.At w) (hn0 : 0 ≤ n) (hn1 : n ≤ 255) : Calls Try.prog 17 #[m.val, .int .u8 n] w fun e w' => e = .returned (.bool true) ∧ Below w.heap.size w w' := by
  have hX := Blk.new w 58 #[.int .i64 m.seed, .float .f64 m.fin, m.dl.val, m.pl.val, m.ll.val, m.il.val]
  have hb := (Below.refl w.heap.size w).alloc (Nat.le_refl _) (.cells #[.int .i64 m.seed, .float .f64 m.fin, m.dl.val, m.pl.val, m.ll.val, m.il.val] 58)
  have hM1 := hm.below hb
  have HLI := hide (L08.light_any m _ hM1)
  have HM1 := hide hM1
  have HB := hide hb
  have HX := hide hX
  have HCH := hide (fun W (h : m.At W) => rcheck_any m W h)
  have HNG := hide (fun W (h : m.At W) hc => new9p_any m W h hc)
  have HHD := hide (fun lp s e W (h : m.At W) (hs : St.At W s) (he : EvOk e) hc => Calls.mono (R := RHanW W s.wd (hE m lp s.pl e) (hR m lp s.pl e)) (rhandlew_any m lp s e W h hs he hc) (fun _ _ h => rhanQ h))
  have HM0 := hide hm
  clear hm hb hM1
  obtain ⟨lA, nl, lc, hVl, hnl⟩ : ∃ A n c, m.ll.val = .slice A n c ∧ n = m.ll.L.length := ⟨_, _, _, rfl, rfl⟩
  simp only [Mdl.val, hVl] at hX HX HLI HCH HNG HHD HM1 HB ⊢
  have HNL := hide hnl
  clear hVl hnl
  generalize m.dl.val = Vd at *
  generalize m.pl.val = Vp at *
  generalize m.il.val = Vi at *
  generalize L08.lightB m = li at *
  have x0 := hX.cell 0
  have x1 := hX.cell 1
  have x2 := hX.cell 2
  have x3 := hX.cell 3
  have x4 := hX.cell 4
  have x5 := hX.cell 5
  simp only [List.getElem?_toArray, List.getElem?_cons_zero, List.getElem?_cons_succ] at x0 x1 x2 x3 x4 x5
  clear hX
  go_enter Try.func17, Try.ntmps17
  go_upto_region 1 with fail
  generalize World.alloc w _ = w1 at *
  generalize hnb : w.heap.size = nb at *
  go_wp2_with fail
  refine HLI.out.mono ?_
  rintro e w2 ⟨rfl, hb2⟩
  have HM2 := hide (HM1.out.below hb2)
  have hX2 := HX.out.below hb2 HX.out.lt
  have HX2 := hide hX2
  have HB2 := hide (show Below nb w w2 from hnb ▸ below_after (hnb.symm ▸ HB.out) hb2)
  clear x0 x1 x2 x3 x4 x5 hb2 HM1 HX HB HLI
  have HNBE := hide hnb
  clear hnb
  cases li with
  | false =>
    clear HX2 HM2 HCH HNG hX2 HHD
    go_wp2_with fail
    refine (awake09 _).mono ?_
    rintro e w3 ⟨rfl, hb3⟩
    have HB3 := hide (below_after (HNBE.out.symm ▸ HB2.out) hb3)
    clear hb3
    go_wp2_with fail
    go_ret
    exact ⟨rfl, HB3.out⟩
  | true =>
    have x0 := hX2.cell 0
    have x1 := hX2.cell 1
    have x2 := hX2.cell 2
    have x3 := hX2.cell 3
    have x4 := hX2.cell 4
    have x5 := hX2.cell 5
    simp only [List.getElem?_toArray, List.getElem?_cons_zero, List.getElem?_cons_succ] at x0 x1 x2 x3 x4 x5
    clear hX2
    have HC2 := hide (HCH.out w2 HM2.out)
    clear HCH
    cases hck : chkB m with
    | false =>
      rw [show chkE m = 15 by unfold chkE; rw [hck]; rfl] at HC2
      clear HNG hck HHD
      go_wp2_with fail
      refine HC2.out.mono ?_
      rintro e w3 ⟨rfl, hb3⟩
      have HB3 := hide (below_after (HNBE.out.symm ▸ HB2.out) hb3)
      clear hb3 HC2 x0 x1 x2 x3 x4 x5
      go_wp2_with fail
      refine (awake09 _).mono ?_
      rintro e w4 ⟨rfl, hb4⟩
      have HB4 := hide (below_after HB3.out hb4)
      clear hb4 HB3
      go_wp2_with fail
      go_ret
      exact ⟨rfl, HB4.out⟩
    | true =>
      rw [show chkE m = 0 by unfold chkE; rw [hck]; rfl] at HC2
      have HCK := hide hck
      clear hck
      go_wp2_with fail
      refine HC2.out.mono ?_
      rintro e w3 ⟨rfl, hb3⟩
      have HM3 := hide (HM2.out.below hb3)
      have hX3 := HX2.out.below hb3 HX2.out.lt
      have HX3 := hide hX3
      have HB3 := hide (below_after (HNBE.out.symm ▸ HB2.out) hb3)
      have HN3 := hide (HNG.out w3 HM3.out HCK.out)
      clear hb3 HC2 x0 x1 x2 x3 x4 x5 HM2 HX2 HB2
      have x0 := hX3.cell 0
      have x1 := hX3.cell 1
      have x2 := hX3.cell 2
      have x3 := hX3.cell 3
      have x4 := hX3.cell 4
      have x5 := hX3.cell 5
      simp only [List.getElem?_toArray, List.getElem?_cons_zero, List.getElem?_cons_succ] at x0 x1 x2 x3 x4 x5
      clear hX3
      go_wp2_with fail
      refine HN3.out.mono ?_
      intro e w4 hN
      obtain ⟨lo, g, b, Sv, rfl, hlo, hP, hb4⟩ := new9_start HM3.out HCK.out hN
      have HM4 := hide (HM3.out.below hb4)
      have hX4 := HX3.out.below hb4 HX3.out.lt
      have HB4 := hide (below_after HB3.out hb4)
      have HLO := hide (show nb < lo ∧ w.heap.size ≤ lo from ⟨Nat.lt_of_lt_of_le HX3.out.lt hlo, by have := HX3.out.lt; have := HNBE.out; omega⟩)
      have HC := hide (show Ct9 m _ w nb lo g b Sv 0 w4 from ⟨hP, hX4, HNBE.out.symm ▸ HB4.out⟩)
      clear hN HN3 hb4 hlo hP HX3 HM3 HB3 HNG x0 x1 x2 x3 x4 x5 hX4 HM4 HB4
      generalize hcs : (#[.int .i64 m.seed, .float .f64 m.fin, Vd, Vp, .slice lA nl lc, Vi] : Array Value) = cs at HC
      have HCS := hide hcs
      clear hcs
      obtain ⟨N, hN, hNl⟩ : ∃ N : Nat, n % 60 = (N : Int) ∧ N < 60 := ⟨(n % 60).toNat, by omega, by omega⟩
      go_wp2_with fail
      go_loopw [7] (fun i wr => ∃ k : Nat, k ≤ N ∧ i = .int .i64 k ∧ Ct9 m cs w nb lo g b Sv k wr) (fun i _ => N - (intOf i).toNat)
      case atStart => exact ⟨0, Nat.zero_le _, rfl, HC.out⟩
      case round =>
        clear HC
        obtain ⟨k, hk, rfl, hC⟩ := hrel
        by_cases hlt : k < N
        · have l1 : (k : Int) < n % 60 := by omega
          obtain ⟨s, hs⟩ : ∃ s, run9 m k (new9 m) = s := ⟨_, rfl⟩
          have HC := hide hC
          have hok := hC.pk.ok
          have hwt := waiting9p_any hC.pk
          have HSP := hide (fun W (hb : Below wr.heap.size wr W) => (hC.below hb).step HLO.out.1 HLO.out.2 (by omega))
          have HSA := hide (fun W (hb : Below wr.heap.size wr W) (i : Int) => state9p_own (hC.pk.below hb) i)
          have hX := hC.bx
          have HTC := hide (fun i (hi : tchv g b Sv i) => (hC.pk.tlo hi).2)
          rw [hs] at hok hwt HSP HSA
          obtain ⟨nw, hnw⟩ : ∃ nw : Nat, s.2.1.length = nw := ⟨_, rfl⟩
          rw [hnw] at hwt
          have HNW := hide hnw
          clear hnw
          rw [← HCS.out] at hX
          have HOK := hide hok
          have HWT := hide hwt
          have HX := hide hX
          have HS := hide hs
          have HNS := hide (show s.1.length = nl by rw [hok.sl, HNL.out])
          have HNB := hide (show nl ≤ 1000 by have := chk_counts HCK.out; have := HNL.out; omega)
          clear hC hok hwt hs hX
          go_wp2_with fail
          refine HWT.out.mono ?_
          rintro e w5 ⟨rfl, rfl⟩
          clear HWT
          go_wp2_with fail
          go_loopw [9, 10] (fun l j wy => ∃ (i : Nat) (q : Sl St), i ≤ nl ∧ l = q.val ∧ j = .int .i64 i ∧ Col9 s.1 wr.heap.size wr i q wy) (fun _ j _ => nl - (intOf j).toNat)
          case atStart => exact ⟨0, ⟨none, 0, []⟩, Nat.zero_le _, rfl, rfl, Col9.start _ (Nat.le_refl _)⟩
          case round =>
            rename_i wy _
            obtain ⟨i, q, hi, rfl, rfl, hQ⟩ := hrel
            have hX := HX.out.below hQ.bel HX.out.lt
            have x0 := hX.cell 0
            have x1 := hX.cell 1
            have x2 := hX.cell 2
            have x3 := hX.cell 3
            have x4 := hX.cell 4
            have x5 := hX.cell 5
            simp only [List.getElem?_toArray, List.getElem?_cons_zero, List.getElem?_cons_succ] at x0 x1 x2 x3 x4 x5
            unfold Sl.val
            by_cases hil : i < nl
            · have l2 : (i : Int) < (nl : Int) := by omega
              have HSI := hide (HSA.out _ hQ.bel (i : Int))
              have HQ := hide hQ
              clear hX hQ
              have hnk : nl ≤ 1000 := HNB.out
              go_wp2_with fail
              refine HSI.out.mono ?_
              rintro e w6 ⟨⟨⟨xA, xc, xL⟩, xs, xd⟩, rfl, hx, ho, hb⟩
              obtain ⟨q', w7, hrun, hQ7⟩ := HQ.out.add (by have := HNS.out; omega) (by have := HNS.out; have := HNB.out; omega) hx ho hb 92
              have HQ7 := hide hQ7
              clear hx ho hb hQ7 HQ HSI
              unfold Sl.val at hrun
              unfold St.val Sl.val
              simp only at hrun ⊢
              go_wp2_with (at_builtin; go_must (refine wpList_of_append rfl _ w7 _ _ 92 _ _ _ rfl rfl rfl hrun ?_))
              go_roundw
              case rel => exact ⟨i + 1, q', by omega, rfl, by go_num, HQ7.out⟩
              case measure => simp [intOf]; omega
            · obtain rfl : i = nl := by omega
              have HPL := hide (show q.L.map St.pl = s.1 by rw [hQ.pl, ← HNS.out, List.take_length])
              have HSN := hide (HSP.out _ hQ.bel)
              have l2 : ¬ ((i : Nat) : Int) < ((i : Nat) : Int) := by omega
              cases hW : s.2.1 with
              | nil =>
                obtain rfl : nw = 0 := by rw [← HNW.out, hW]; rfl
                rw [stepV_none hW] at HSN
                have HW := hide hW
                unfold stepNone at HSN
                clear hW hX hQ
                go_wp2_with fail
                refine HSN.out.mono ?_
                rintro e w6 ⟨rfl, hC6, hO6⟩
                have hba := (Below.refl w6.heap.size w6).alloc (Nat.le_refl _) (.cells #[.float .f64 0, .int .i64 0, .int .i64 0, .int .i64 0, .int .i64 0, .int .i64 0] 39)
                have HC7 := hide (hC6.below hba)
                clear hC6 hO6 hba HSN x0 x1 x2 x3 x4 x5
                go_upto_region 14 with fail
                generalize w6.alloc (.cells #[.float .f64 0, .int .i64 0, .int .i64 0, .int .i64 0, .int .i64 0, .int .i64 0] 39) = w7 at *
                go_wp2_with fail
                refine (awake09 _).mono ?_
                rintro e w8 ⟨rfl, hb8⟩
                have HC8 := hide (HC7.out.below hb8)
                have hwt := waiting9p_any HC8.out.pk
                rw [run9_succ, HS.out, step9_stop HW.out, HW.out] at hwt
                have HWT := hide hwt
                clear hb8 HC7 hwt
                go_wp2_with fail
                refine HWT.out.mono ?_
                rintro e w9 ⟨rfl, rfl⟩
                go_wp2_with fail
                go_ret
                exact ⟨rfl, HC8.out.bel⟩
              | cons e r =>
                obtain ⟨et, es, en, ed, ep⟩ := e
                have hwt9 := HOK.out.wt (et, es, en, ed, ep) (by rw [hW]; simp)
                have hd0 := hwt9.d0
                have hd1 := hwt9.d1
                simp only at hd0 hd1
                obtain ⟨dk, rfl⟩ : ∃ dk : Nat, ed = dk := ⟨ed.toNat, by omega⟩
                have hqn : q.L.length = i := by rw [← HNS.out, ← HPL.out, List.length_map]
                have hdl : dk < q.L.length := by have := HNL.out; omega
                have hsk := List.getElem?_eq_getElem hdl
                have hmem := List.getElem_mem hdl
                generalize q.L[dk] = sk at *
                have hst : hr9 m s (et, es, en, (dk : Int), ep) = hR m (dk : Int) sk.pl (et, es, en, (dk : Int), ep) := by
                  unfold hr9 stOf
                  simp only
                  rw [← HPL.out, List.getD_eq_getElem?_getD, List.getElem?_map, Int.toNat_natCast, hsk]
                  rfl
                have hel := (hR_ok (lp := (dk : Int)) (s := sk) (e := (et, es, en, (dk : Int), ep)) (HM0.out.below (HC.out.below hQ.bel).bel) (hQ.st _ hmem).at hwt9.ok).el
                have hh := fun W (h1 : m.At W) (h2 : St.At W sk) => HHD.out (dk : Int) sk (et, es, en, (dk : Int), ep) W h1 h2 hwt9.ok HCK.out
                rw [stepV_some hW, hst] at HSN
                have hstep := step9_eq (m := m) hW
                rw [hst] at hstep
                generalize hR m (dk : Int) sk.pl (et, es, en, (dk : Int), ep) = R at hh HSN hstep hel
                generalize hE m (dk : Int) sk.pl (et, es, en, (dk : Int), ep) = F at hh
                simp only [dnC, dnOf] at HSN hh
                have hn1 : nw = r.length + 1 := by rw [← HNW.out, hW]; rfl
                have hnn : ((step9 m s).2.1.length : Int) = (nw : Int) - 1 + (R.2.1.length : Int) := by
                  rw [hstep]
                  simp only
                  rw [insAll_len9]
                  omega
                have hn2 : nw ≤ 16 + 4 * k := by rw [← HNW.out]; exact HOK.out.len
                have HNN := hide hnn
                have HH := hide hh
                have HQ := hide hQ
                have hnw1 : (1 : Int) ≤ (nw : Int) := by omega
                have hnw2 : (nw : Int) ≤ 1000 := by omega
                have hel2 : ((R.2.1.length : Nat) : Int) ≤ 4 := by omega
                clear hW hX hQ hwt9 hst hstep hn1 hn2 hnn hh hel
                go_wp2_with fail
                refine HSN.out.mono ?_
                rintro e w6 ⟨rfl, hC6, hO6⟩
                have hba := (Below.refl w6.heap.size w6).alloc (Nat.le_refl _) (.cells #[.float .f64 et, .int .i64 es, .int .i64 en, .int .i64 dk, .int .i64 ep, .int .i64 R.2.2] 39)
                have hX6 := Blk.new w6 39 #[.float .f64 et, .int .i64 es, .int .i64 en, .int .i64 dk, .int .i64 ep, .int .i64 R.2.2]
                obtain ⟨ho6, hs6⟩ := HQ.out.off hO6 HTC.out
                have ho7 := ho6.below hba
                have hs7 := ((hs6 _ hmem).below hba).at
                have HC7 := hide (hC6.below hba)
                clear hC6 hO6 hba HSN x0 x1 x2 x3 x4 x5 ho6 hs6 hmem HQ
                go_upto_region 16 with fail
                generalize w6.alloc (.cells #[.float .f64 et, .int .i64 es, .int .i64 en, .int .i64 dk, .int .i64 ep, .int .i64 R.2.2] 39) = w7 at *
                generalize w6.heap.size = gd at *
                have hTS : TRow 61 StB 3 w7 q := TRow.of_own (ok := fun _ _ => True) (by decide) (fun _ => rfl) makes_stb ho7 (fun _ _ => trivial)
                obtain ⟨bS, hbS, t0, t1, t2⟩ := hTS.at_.1 dk _ hsk
                clear hTS
                obtain ⟨qA, qc, qL⟩ := q
                simp only at hqn hbS hsk ⊢
                subst hbS
                obtain ⟨⟨sA, sc, sL⟩, ss, sd⟩ := sk
                have hm7 := HM0.out.below HC7.out.bel
                have hbx := HC7.out.bx
                rw [← HCS.out] at hbx
                have HRH := hide (fun W (hb : Below w7.heap.size w7 W) => HH.out W (hm7.below hb) (hs7.below hb))
                simp only [St.val, Sl.val] at HRH t0 t1 t2
                have HSS : Hid (∀ W', Below w7.heap.size w7 W' → (W'.cell? ⟨nb, 0, none⟩ = some (.int .i64 m.seed) ∧ W'.cell? ⟨nb, 1, none⟩ = some (.float .f64 m.fin) ∧ W'.cell? ⟨nb, 2, none⟩ = some Vd ∧ W'.cell? ⟨nb, 3, none⟩ = some Vp ∧ W'.cell? ⟨nb, 4, none⟩ = some (.slice lA i lc) ∧ W'.cell? ⟨nb, 5, none⟩ = some Vi ∧ W'.cell? ⟨gd, 0, none⟩ = some (.float .f64 et) ∧ W'.cell? ⟨gd, 1, none⟩ = some (.int .i64 es) ∧ W'.cell? ⟨gd, 2, none⟩ = some (.int .i64 en) ∧ W'.cell? ⟨gd, 3, none⟩ = some (.int .i64 dk) ∧ W'.cell? ⟨gd, 4, none⟩ = some (.int .i64 ep) ∧ W'.cell? (bS.add (dk * 3)) = some (.slice sA sL.length sc) ∧ W'.cell? ⟨(bS.add (dk * 3)).block, (bS.add (dk * 3)).off + 1, none⟩ = some (.int .i64 ss) ∧ W'.cell? ⟨(bS.add (dk * 3)).block, (bS.add (dk * 3)).off + 2, none⟩ = some (.int .i64 sd) ∧ Below w7.heap.size w7 W')) :=
                  hide fun W' h => ⟨keepc h (hbx.cell 0), keepc h (hbx.cell 1), keepc h (hbx.cell 2), keepc h (hbx.cell 3), keepc h (hbx.cell 4), keepc h (hbx.cell 5), keepc h (hX6.cell 0), keepc h (hX6.cell 1), keepc h (hX6.cell 2), keepc h (hX6.cell 3), keepc h (hX6.cell 4), keepc h t0, keepc h t1, keepc h t2, h⟩
                have hD : Below w7.heap.size w7 w7.drew := (Below.refl _ _).drew
                have HX6 := hide hX6
                have HQN := hide hqn
                have hdl' : dk < qL.length := hdl
                have kL : (dk : Int) < ((i : Nat) : Int) := by omega
                have kJ : (0 : Int) ≤ (dk : Int) := by omega
                clear hm7 hbx hX6 t0 t1 t2 ho7 hs7 hsk HH HNS HPL hqn hdl hdl' hd0 hd1
                go_cut [13, 14, 15, 16] (fun x l f e wx => StC w7 ⟨sA, sc, sL⟩ R x l f wx)
                case first =>
                  go_region_held3 (fun W' => W'.cell? ⟨nb, 0, none⟩ = some (.int .i64 m.seed) ∧ W'.cell? ⟨nb, 1, none⟩ = some (.float .f64 m.fin) ∧ W'.cell? ⟨nb, 2, none⟩ = some Vd ∧ W'.cell? ⟨nb, 3, none⟩ = some Vp ∧ W'.cell? ⟨nb, 4, none⟩ = some (.slice lA i lc) ∧ W'.cell? ⟨nb, 5, none⟩ = some Vi ∧ W'.cell? ⟨gd, 0, none⟩ = some (.float .f64 et) ∧ W'.cell? ⟨gd, 1, none⟩ = some (.int .i64 es) ∧ W'.cell? ⟨gd, 2, none⟩ = some (.int .i64 en) ∧ W'.cell? ⟨gd, 3, none⟩ = some (.int .i64 dk) ∧ W'.cell? ⟨gd, 4, none⟩ = some (.int .i64 ep) ∧ W'.cell? (bS.add (dk * 3)) = some (.slice sA sL.length sc) ∧ W'.cell? ⟨(bS.add (dk * 3)).block, (bS.add (dk * 3)).off + 1, none⟩ = some (.int .i64 ss) ∧ W'.cell? ⟨(bS.add (dk * 3)).block, (bS.add (dk * 3)).off + 2, none⟩ = some (.int .i64 sd) ∧ Below w7.heap.size w7 W')
                    (first
                      | exact HSS.out _ hD
                      | (go_split_ands; exact HSS.out _ (below_after (by assumption) hbR))
                      | (go_split_ands; with_reducible exact HSS.out _ (Below.alloc (by assumption) (Below.size (by assumption)) _))
                      | (go_split_ands; with_reducible exact HSS.out _ (Below.swap (by assumption) hsR hsR))
                      | (go_split_ands; exact HSS.out _ (Below.setCell (Below.setCell (Below.setCell (by assumption) (by simp) _) (by simp) _) (by simp) _)))
                    (first
                      | (go_at_call 44; go_split_ands; refine (HRH.out _ (by assumption)).mono ?_; rintro e wR ⟨rA, rc, qA, qc, rfl, hr5, hr6, hr7, hbR⟩; have hsR := Nat.le_trans (Below.size (by assumption : Below w7.heap.size w7 _)) hbR.size; try (have hG : Blk wR w7.heap.size 61 #[.slice none 0 0, .int .i64 0, .int .i64 0] := Blk.below (by first | exact (Blk.new w7 _ _).drew | exact Blk.new w7.drew _ _) hbR (by simp); have g0 := hG.cell 0; have g1 := hG.cell 1; have g2 := hG.cell 2; have u0 := hG.frozen 0; have u1 := hG.frozen 1; have u2 := hG.frozen 2; simp only [List.getElem?_toArray, List.getElem?_cons_zero, List.getElem?_cons_succ] at g0 g1 g2)))
                  all_goals go_split_ands
                  all_goals (try go_wp2_with fail)
                  all_goals go_meet
                  all_goals first
                    | (have hbb : Below w7.heap.size w7 wR := below_after (((Below.refl _ _).alloc (Nat.le_refl _) _).drew) hbR
                       have h1 : (⟨rA, rc, R.1.1⟩ : Sl Int) = ⟨sA, sc, sL⟩ ∨ OwnR 3 1 encInt wR (w7.heap.size + 1) (.slice rA R.1.1.length rc) R.1.1 := by have := hr5.out; simpa using this
                       have h2 : OwnR 37 5 encEv wR (w7.heap.size + 1) (.slice qA R.2.1.length qc) R.2.1 := by have := hr6.out; simpa using this
                       with_reducible exact stC_first rfl (Nat.le_refl _) (by assumption) hr7.out hbb h1 h2)
                    | (have hbb : Below w7.heap.size w7 wR := below_after hD hbR
                       have h1 : (⟨rA, rc, R.1.1⟩ : Sl Int) = ⟨sA, sc, sL⟩ ∨ OwnR 3 1 encInt wR w7.heap.size (.slice rA R.1.1.length rc) R.1.1 := hr5.out
                       have h2 : OwnR 37 5 encEv wR w7.heap.size (.slice qA R.2.1.length qc) R.2.1 := hr6.out
                       with_reducible exact stC_late hr7.out hbb h1 h2)
                case rest =>
                  obtain ⟨gx, wA, wk, vA, vc, rfl, rfl, rfl, hgx, hB, hW5, hQ6, hz7, hb4⟩ := hcut
                  have hX4 := HX6.out.below hb4 HX6.out.lt
                  have hC8 := HC7.out.below hb4
                  have hwt := waiting9p_any hC8.pk
                  rw [run9_succ, HS.out, HNN.out] at hwt
                  have HWT := hide hwt
                  have HC8 := hide hC8
                  have y0 := hX4.cell 0
                  have y1 := hX4.cell 1
                  have y2 := hX4.cell 2
                  have y3 := hX4.cell 3
                  have y4 := hX4.cell 4
                  have y5 := hX4.cell 5
                  simp only [List.getElem?_toArray, List.getElem?_cons_zero, List.getElem?_cons_succ] at y0 y1 y2 y3 y4 y5
                  clear hX4 hC8 hwt hB hW5 hQ6 hz7 hb4 HSS HRH HC7 HX6
                  go_wp2_with fail
                  refine HWT.out.mono ?_
                  rintro e w9 ⟨rfl, rfl⟩
                  clear HWT
                  go_wp2_with fail
                  go_roundw
                  case rel => exact ⟨k + 1, by omega, by go_num, HC8.out⟩
                  case measure => simp [intOf]; omega
        · have l1 : ¬ (k : Int) < n % 60 := by omega
          have HB := hide hC.bel
          clear hC
          go_wp2_with fail
          refine (awake09 _).mono ?_
          rintro e w6 ⟨rfl, hb6⟩
          have HB6 := hide (below_after HB.out hb6)
          clear hb6 HB
          go_wp2_with fail
          go_ret
          exact ⟨rfl, HB6.out⟩
end Go.Proofs.Ytpfcmfannkbipaa
end
