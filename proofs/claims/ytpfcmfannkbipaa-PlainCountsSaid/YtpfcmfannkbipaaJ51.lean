/- Texts of this claim in one. No condition. -/
import Derived.Test.YtpfcmfannkbipaaJ50
import Derived.Test.YtpfcmfannkbipaaJ39
section
set_option linter.unusedVariables false
set_option linter.unusedSimpArgs false
set_option maxRecDepth 20000
namespace Go.Proofs.Ytpfcmfannkbipaa
open Go.RowKit Go.Deep Go.Maps

attribute [local go_sem] run_store_float
theorem step9_done (m : Mdl) (s : Sm9) : ∃ M, (step9 m s).2.2 = s.2.2 ++ M := by
  cases h : s.2.1 with
  | nil => exact ⟨[], by rw [step9_stop h]; simp⟩
  | cons e r => exact ⟨_, by rw [step9_eq h]⟩
theorem run9_done (m : Mdl) : ∀ (n : Nat) (s : Sm9), ∃ M, (run9 m n s).2.2 = s.2.2 ++ M
  | 0, s => ⟨[], by simp [run9]⟩
  | n + 1, s => by
    obtain ⟨M, hM⟩ := step9_done m s
    obtain ⟨M', hM'⟩ := run9_done m n (step9 m s)
    exact ⟨M ++ M', by rw [run9, hM', hM, List.append_assoc]⟩
/-- What a run of n steps handles. -/
def runL (m : Mdl) (n : Nat) (s : Sm9) : List Dn := (run9 m n s).2.2.drop s.2.2.length
theorem runL_eq (m : Mdl) (n : Nat) (s : Sm9) : s.2.2 ++ runL m n s = (run9 m n s).2.2 := by
  obtain ⟨M, hM⟩ := run9_done m n s
  unfold runL
  rw [hM, List.drop_left]
theorem runL_of {m : Mdl} {n : Nat} {s : Sm9} {M : List Dn} (h : s.2.2 ++ M = (run9 m n s).2.2) : M = runL m n s := by
  unfold runL
  rw [← h, List.drop_left]
/-- What Run hands back. -/
def Run9pTo (w : World) (lo g b : Nat) (m : Mdl) (n0 n : Nat) (s : Sm9) (Sv : Value) (e : Ending) (w' : World) : Prop :=
  ∃ q : Sl Dn, e = .returned q.val ∧ q.L = runL m n s ∧ OwnR 39 6 encDn w' w.heap.size q.val q.L ∧ Pk9 lo g b m (n0 + n) (run9 m n s) Sv w' ∧ Off (tchv g b Sv) w w'
theorem own_off9 {lo g b : Nat} {m : Mdl} {n : Nat} {s : Sm9} {Sv : Value} {w w' : World} {B : Nat} {v : Value} {L : List Dn} (hP : Pk9 lo g b m n s Sv w) (ho : OwnR 39 6 encDn w B v L) (hO : Off (tchv g b Sv) w w') : OwnR 39 6 encDn w' B v L :=
  hO.own ho fun k hk => by
    obtain ⟨cur, hc⟩ := ho.typ hk
    exact hP.typ (t := 39) hc (by decide) (by decide)
theorem Pk9.grown9 {lo g b : Nat} {m : Mdl} {n : Nat} {s : Sm9} {Sv : Value} {w w' : World} {B : Nat} {v v' : Value} {L : List Dn} (hP : Pk9 lo g b m n s Sv w) (ho : OwnR 39 6 encDn w B v L) (hg : GExt w w' v v') : Pk9 lo g b m n s Sv w' := by
  refine hP.off (T := fun k => v.ownBlock = some k) (Off.of_grown hg.1 fun k e => e) (fun k hk e => ?_) fun k t cs hk ht e => ?_
  · obtain ⟨cur, hc⟩ := ho.typ e
    exact hP.typ (t := 39) hc (by decide) (by decide) hk
  · obtain ⟨cur, hc⟩ := ho.typ e
    exact Blk.ne_ hk hc (mtyp_done t ht) rfl
set_option maxHeartbeats 2000000 in
theorem run9p_any {lo g b : Nat} {m : Mdl} {n0 : Nat} {s : Sm9} {Sv : Value} {w : World} (h : Pk9 lo g b m n0 s Sv w) (n : Nat) (hn : n0 + n ≤ 10000) :
    Calls Try.prog 57 #[.pointer (some ⟨g, 0, none⟩), .int .i64 n] w (Run9pTo w lo g b m n0 n s Sv) := by
  obtain ⟨Post, hPost⟩ : ∃ P, P = Run9pTo w lo g b m n0 n s Sv := ⟨_, rfl⟩
  rw [← hPost]
  have HPO := hide hPost
  have HP := hide h
  clear hPost h
  go_enter Try.func57, Try.ntmps57
  go_wp2_with fail
  go_loopg [5] n (fun gk v wr => ∃ (k : Nat) (q : Sl Dn), k + gk = n ∧ v = q.val ∧ q.L.length = k ∧ s.2.2 ++ q.L = (run9 m k s).2.2 ∧ OwnR 39 6 encDn wr w.heap.size q.val q.L ∧ Pk9 lo g b m (n0 + k) (run9 m k s) Sv wr ∧ Off (tchv g b Sv) w wr)
  case atStart => exact ⟨0, ⟨none, 0, []⟩, by omega, rfl, rfl, by simp [run9], OwnR.nil, HP.out, Off.refl _ _⟩
  case round =>
    clear HP
    obtain ⟨k, q, hk, rfl, hql, hqs, hown, hP, hO⟩ := hrel
    have HSK := hide (step9p_all hP (by omega))
    have HQS := hide hqs
    have HO := hide hO
    have HOW := hide hown
    have HP := hide hP
    have HQL := hide hql
    have HKG := hide hk
    obtain ⟨qA, qc, qL⟩ := q
    unfold Sl.val at HOW ⊢
    simp only at hql HQL HQS HOW ⊢
    by_cases hlt : k < n
    · have l1 : (qL.length : Int) < (n : Int) := by omega
      clear hqs hO hown hP hk hql
      cases hW : (run9 m k s).2.1 with
      | nil =>
        have HW := hide hW
        rw [stepV_none hW] at HSK
        clear hW
        unfold stepNone at HSK
        go_wp2_with fail
        refine HSK.out.mono ?_
        rintro e w3 ⟨rfl, hP', hO'⟩
        have hb3 := (Below.refl w3.heap.size w3).alloc (Nat.le_refl _) (.cells #[.float .f64 0, .int .i64 0, .int .i64 0, .int .i64 0, .int .i64 0, .int .i64 0] 39)
        have HEND := hide (show Post (.returned (.slice qA qL.length qc)) (w3.alloc (.cells #[.float .f64 0, .int .i64 0, .int .i64 0, .int .i64 0, .int .i64 0, .int .i64 0] 39)) by
          rw [HPO.out]
          have hr : run9 m n s = run9 m k s := by
            obtain ⟨d, rfl⟩ := Nat.exists_eq_add_of_le (Nat.le_of_lt hlt)
            rw [run9_add, run9_stop _ HW.out]
          refine ⟨⟨qA, qc, qL⟩, rfl, ?_, (own_off9 HP.out HOW.out hO').below hb3, ?_, (HO.out.trans hO').after hb3⟩
          · exact runL_of (by rw [hr]; exact HQS.out)
          · rw [hr]
            rw [step9_stop HW.out] at hP'
            exact (hP'.mono (by omega)).below hb3)
        clear hP' hO' hb3 HSK HW HP HOW HO HQS HQL HKG
        go_wp2_with fail
        first | exact HEND.out | (go_ret; exact HEND.out)
      | cons e r =>
        have hW2 := stepV_some (m := m) hW
        have hst := step9_eq (m := m) hW
        obtain ⟨x, hx⟩ : ∃ x, x = dnOf e (hr9 m (run9 m k s) e).2.2 := ⟨_, rfl⟩
        rw [← hx] at hW2 hst
        rw [hW2] at HSK
        have HST := hide hst
        clear hW hW2 hst hx
        obtain ⟨xt, xs, xn, xd, xp, xf⟩ := x
        unfold dnC at HSK
        simp only at HSK
        go_wp2_with fail
        refine HSK.out.mono ?_
        rintro e' w3 ⟨rfl, hP', hO'⟩
        have hb3 := (Below.refl w3.heap.size w3).alloc (Nat.le_refl _) (.cells #[.float .f64 xt, .int .i64 xs, .int .i64 xn, .int .i64 xd, .int .i64 xp, .int .i64 xf] 39)
        have hown3 := (own_off9 HP.out HOW.out hO').below hb3
        have hsz : w.heap.size ≤ (w3.alloc (.cells #[.float .f64 xt, .int .i64 xs, .int .i64 xn, .int .i64 xd, .int .i64 xp, .int .i64 xf] 39)).heap.size := (((HO.out.trans hO').after hb3)).size
        obtain ⟨v2, w4, hrun, hown4, hg4⟩ := run_append_one (P := Try.prog) 39 22 22 6 48 (.agg #[.float .f64 0, .int .i64 0, .int .i64 0, .int .i64 0, .int .i64 0, .int .i64 0]) encDn (by decide) (fun _ => rfl) one_dn Try.underlying22 inf_dn rfl _ w.heap.size _ qL (xt, xs, xn, xd, xp, xf) #[.float .f64 xt, .int .i64 xs, .int .i64 xn, .int .i64 xd, .int .i64 xp, .int .i64 xf] rfl hown3 (by omega) (by omega) hsz
        obtain ⟨q2, rfl, hq2L, _, _⟩ := hown4.form
        have hr1 : run9 m (k + 1) s = step9 m (run9 m k s) := run9_succ m k s
        have HP4 := hide (show Pk9 lo g b m (n0 + (k + 1)) (run9 m (k + 1) s) Sv w4 by
          rw [hr1]
          exact (hP'.below hb3).grown9 hown3 hg4)
        have HO4 := hide (show Off (tchv g b Sv) w w4 from ((HO.out.trans hO').after hb3).then_ (T' := fun k => (Value.slice qA qL.length qc).ownBlock = some k) (Off.of_grown hg4.1 fun k e => e) fun i e => .inr (hown3.base i e))
        have HOW4 := hide (show OwnR 39 6 encDn w4 w.heap.size q2.val q2.L by rw [hq2L]; exact hown4)
        have HL4 := hide (show q2.L.length = k + 1 by rw [hq2L, List.length_append, HQL.out]; rfl)
        have HS4 := hide (show s.2.2 ++ q2.L = (run9 m (k + 1) s).2.2 by
          rw [hr1, HST.out, hq2L, ← List.append_assoc, HQS.out])
        rw [show (w3.alloc (.cells #[.float .f64 xt, .int .i64 xs, .int .i64 xn, .int .i64 xd, .int .i64 xp, .int .i64 xf] 39)).heap.size = w3.heap.size + 1 from Array.size_push ..] at hrun
        unfold Sl.val at hrun
        clear hP' hO' hb3 hown3 hsz hown4 hg4 hq2L hr1 HSK HP HOW HO HQS HST HQL
        go_wp2_with (at_builtin; go_must (refine wpList_of_append rfl _ w4 _ _ 22 _ _ _ rfl rfl rfl hrun ?_))
        obtain ⟨gm, hgm⟩ : ∃ gm, gk = gm + 1 := ⟨gk - 1, by have := HKG.out; omega⟩
        go_roundg gm
        case rel => exact ⟨k + 1, q2, by have := HKG.out; omega, rfl, HL4.out, HS4.out, HOW4.out, HP4.out, HO4.out⟩
        case measure => omega
    · have hkn : k = n := by omega
      have l1 : ¬ (qL.length : Int) < (n : Int) := by omega
      have HEND := hide (show Post (.returned (.slice qA qL.length qc)) wr by
        rw [HPO.out]
        rw [hkn] at hP
        refine ⟨⟨qA, qc, qL⟩, rfl, runL_of (by rw [← hkn]; exact HQS.out), HOW.out, hP, HO.out⟩)
      clear hqs hO hown hP hk hql HSK HP HOW HO HQS HQL HKG
      go_wp2_with fail
      first | exact HEND.out | (go_ret; exact HEND.out)
end Go.Proofs.Ytpfcmfannkbipaa
end

section
set_option linter.unusedVariables false
set_option linter.unusedSimpArgs false
set_option maxRecDepth 20000
namespace Go.Proofs.Ytpfcmfannkbipaa
open Go.RowKit Go.Deep Go.Maps

attribute [local go_sem] run_store_float
/-- A process's state. -/
def stAt (S : List StP) (lp : Int) : StP := if 0 ≤ lp ∧ lp < (S.length : Int) then S.getD lp.toNat ([], 0, 0) else ([], 0, 0)
theorem waiting9p_any {lo g b : Nat} {m : Mdl} {n : Nat} {s : Sm9} {Sv : Value} {w : World} (h : Pk9 lo g b m n s Sv w) : Calls Try.prog 59 #[.pointer (some ⟨g, 0, none⟩)] w fun e w' => e = .returned (.int .i64 s.2.1.length) ∧ w = w' := by
  obtain ⟨c, S, L, nx, hd, hP, _, _, _, _, hL, _⟩ := h
  obtain ⟨D, hm, hR⟩ := hP.mp
  have c7 := hP.box.cell 7
  simp only [simC, List.getElem?_toArray, List.getElem?_cons_zero, List.getElem?_cons_succ] at c7
  have hsz : ((size D : Nat) : Int) = (s.2.1.length : Int) := by rw [hR.sz, ← hL, List.length_map]
  have HSZ := hide hsz
  clear hR hP hL hsz
  go_enter Try.func59, Try.ntmps59
  go_wp2_with (at_len; refine wpList_len_own _ rfl _ 134 rfl 3 37 Try.underlying134 _ b _ _ rfl hm ?_)
  go_ret
  exact ⟨by rw [HSZ.out]; rfl, rfl⟩
theorem handled9p_any {lo g b : Nat} {m : Mdl} {n : Nat} {s : Sm9} {Sv : Value} {w : World} (h : Pk9 lo g b m n s Sv w) : Calls Try.prog 58 #[.pointer (some ⟨g, 0, none⟩)] w fun e w' => e = .returned (.int .i64 s.2.2.length) ∧ w = w' := by
  obtain ⟨c, S, L, nx, hd, hP, _, _, _, _, _, rfl, _⟩ := h
  have c9 := hP.box.cell 9
  simp only [simC, List.getElem?_toArray, List.getElem?_cons_zero, List.getElem?_cons_succ] at c9
  clear hP
  go_enter Try.func58, Try.ntmps58
  go_wp2_with fail
  go_ret
  exact ⟨rfl, rfl⟩
set_option maxHeartbeats 1000000 in
theorem state9p_any {lo g b : Nat} {m : Mdl} {n : Nat} {s : Sm9} {Sv : Value} {w : World} (h : Pk9 lo g b m n s Sv w) (lp : Int) : Calls Try.prog 60 #[.pointer (some ⟨g, 0, none⟩), .int .i64 lp] w fun e w' => ∃ x : St, e = .returned x.val ∧ x.pl = stAt s.1 lp ∧ x.At w' ∧ Below w.heap.size w w' := by
  obtain ⟨c, S, L, nx, hd, hP, _, _, _, hS, _, _, _, _, hw8, _⟩ := h
  have hX := Blk.new w 61 #[.slice none 0 0, .int .i64 0, .int .i64 0]
  have hb := (Below.refl w.heap.size w).alloc (Nat.le_refl _) (.cells #[.slice none 0 0, .int .i64 0, .int .i64 0] 61)
  have hP1 := hP.below hb
  have c6 := hP1.box.cell 6
  simp only [simC, Sl.val, List.getElem?_toArray, List.getElem?_cons_zero, List.getElem?_cons_succ] at c6
  have hz0 : I64 0 := ⟨by decide, by decide⟩
  have HX := hide hX
  have HB := hide hb
  have hlen : S.L.length = s.1.length := by rw [← hS, List.length_map]
  obtain ⟨Post, hPost⟩ : ∃ P : Ending → World → Prop, P = fun e w' => ∃ x : St, e = .returned x.val ∧ x.pl = stAt s.1 lp ∧ x.At w' ∧ Below w.heap.size w w' := ⟨_, rfl⟩
  rw [← hPost]
  have HPO := hide hPost
  clear hPost hX hb
  by_cases hin : 0 ≤ lp ∧ lp < (S.L.length : Int)
  · obtain ⟨k, rfl⟩ : ∃ k : Nat, lp = k := ⟨lp.toNat, by omega⟩
    have hkl : k < S.L.length := by omega
    have hsk := List.getElem?_eq_getElem hkl
    have hmem := List.getElem_mem hkl
    generalize S.L[k] = sk at *
    have hTS : TRow 61 StB 3 _ S := TRow.of_own (ok := fun _ _ => True) (by decide) (fun _ => rfl) makes_stb hP1.st (fun _ _ => trivial)
    obtain ⟨bS, hbS, t0, t1, t2⟩ := hTS.at_.1 k _ hsk
    have hwd := hP1.wds _ hmem
    have h8 : sk.wd.L.length ≤ 8 := hw8 sk.pl (by rw [← hS]; exact List.mem_map_of_mem hmem)
    have HC := hide (copy8_any sk _ ⟨hwd.1.at_, hwd.2⟩ (by omega))
    have HSK := hide (show sk.pl = stAt s.1 (k : Int) by
      unfold stAt
      rw [if_pos ⟨by omega, by omega⟩, ← hS, List.getD_eq_getElem?_getD, Int.toNat_natCast, List.getElem?_map, hsk]
      rfl)
    have HWD := hide hwd.2
    have HI := hide (sl_ints hwd.1.at_)
    have HBA := hide (fun W (hb : Below _ _ W) => below_after HB.out hb)
    rw [hbS] at c6
    have l0 : ¬ (k : Int) < 0 := by omega
    have l1 : (k : Int) < (S.L.length : Int) := by omega
    have l2 : ¬ (S.L.length : Int) ≤ (k : Int) := by omega
    have kJ : (0 : Int) ≤ (k : Int) := by omega
    clear hTS hwd h8 hP hP1 hS hw8 hmem hsk hin hlen hbS
    obtain ⟨⟨sA, sc, sl⟩, ss, sd⟩ := sk
    unfold St.val Sl.val at HC
    simp only at t0 t1 t2 HC
    unfold Sl.val at t0
    simp only at t0
    go_enter Try.func60, Try.ntmps60
    go_upto_region 1 with fail
    generalize World.alloc w _ = w1 at *
    generalize hn : w.heap.size = nb at *
    go_wp2_with fail
    refine HC.out.mono ?_
    rintro e w2 ⟨⟨⟨cA, cc, cl⟩, cs, cd⟩, rfl, hpl, how, hb2⟩
    have hX2 := HX.out.below hb2 HX.out.lt
    simp only [St.pl, Prod.mk.injEq] at hpl
    obtain ⟨rfl, rfl, rfl⟩ := hpl
    have HFIN := hide (fun a0 a1 a2 => (show Post (.returned (St.val ⟨⟨cA, cc, cl⟩, cs, cd⟩)) (((w2.setCell ⟨nb, 0, none⟩ a0).setCell ⟨nb, 1, none⟩ a1).setCell ⟨nb, 2, none⟩ a2) by
      rw [HPO.out]
      have hlt := HX.out.lt
      have hI : ∀ z ∈ cl, I64 z := HI.out
      refine ⟨_, rfl, HSK.out, ⟨OwnR.sl (size := 1) (by decide) (fun _ => rfl) makes_int (((how.setCell (p := ⟨nb, 0, none⟩) hlt a0).setCell (p := ⟨nb, 1, none⟩) hlt a1).setCell (p := ⟨nb, 2, none⟩) hlt a2) hI, HWD.out⟩, ?_⟩
      exact (((HBA.out _ hb2).setCell (p := ⟨nb, 0, none⟩) (Nat.le_refl _) a0).setCell (p := ⟨nb, 1, none⟩) (Nat.le_refl _) a1).setCell (p := ⟨nb, 2, none⟩) (Nat.le_refl _) a2))
    have f0 := hX2.frozen 0
    have f1 := hX2.frozen 1
    have f2 := hX2.frozen 2
    have x0 := hX2.cell 0
    have x1 := hX2.cell 1
    have x2 := hX2.cell 2
    simp only [List.getElem?_toArray, List.getElem?_cons_zero, List.getElem?_cons_succ] at x0 x1 x2
    clear hX2 how hb2 c6 t0 t1 t2 HX HB HC
    unfold St.val Sl.val at HFIN ⊢
    simp only at HFIN ⊢
    go_wp2_with fail
    refine bodyPost_ret (v := .agg #[.slice cA cl.length cc, .int .i64 cs, .int .i64 cd]) (by simp [results, Try.results60, go_sem, x0, x1, x2]) rfl ?_
    exact HFIN.out _ _ _
  · have HFIN := hide (fun W (hb : Below w.heap.size w W) => (show Post (.returned (St.val ⟨⟨none, 0, []⟩, 0, 0⟩)) W by
      rw [HPO.out]
      refine ⟨_, rfl, ?_, ⟨⟨fun i x hx => by simp at hx, Nat.le_refl _, Nat.zero_le _⟩, hz0, hz0⟩, hb⟩
      unfold stAt
      rw [if_neg (by rw [← hlen]; exact hin)]
      rfl))
    have hX := HX.out
    have f0 := hX.frozen 0
    have f1 := hX.frozen 1
    have f2 := hX.frozen 2
    have x0 := hX.cell 0
    have x1 := hX.cell 1
    have x2 := hX.cell 2
    simp only [List.getElem?_toArray, List.getElem?_cons_zero, List.getElem?_cons_succ] at x0 x1 x2
    have hw : lp < 0 ∨ (¬ lp < 0 ∧ (S.L.length : Int) ≤ lp) := by omega
    clear hP hP1 hS hw8 hin hlen hX HX
    unfold St.val Sl.val at HFIN
    rcases hw with l0 | ⟨l0, l1⟩
    all_goals
      go_enter Try.func60, Try.ntmps60
      go_upto_region 1 with fail
      generalize World.alloc w _ = w1 at *
      generalize hn : w.heap.size = nb at *
      go_wp2_with fail
      refine bodyPost_ret (v := .agg #[.slice none 0 0, .int .i64 0, .int .i64 0]) (by simp [results, Try.results60, go_sem, x0, x1, x2]) rfl ?_
      exact HFIN.out _ (((HB.out.setCell (p := ⟨nb, 0, none⟩) (Nat.le_refl _) _).setCell (p := ⟨nb, 1, none⟩) (Nat.le_refl _) _).setCell (p := ⟨nb, 2, none⟩) (Nat.le_refl _) _)
end Go.Proofs.Ytpfcmfannkbipaa
end

section
set_option linter.unusedVariables false
set_option linter.unusedSimpArgs false
set_option maxRecDepth 20000
namespace Go.Proofs.Ytpfcmfannkbipaa
open Go.RowKit Go.Deep Go.Maps

attribute [local go_sem] run_store_float
/-- The ticker, its rows from the block g on. -/
def tkM (g : Nat) : Mdl := ⟨0, 4611686018427387904, ⟨some ⟨g, 0, none⟩, 1, [4602678819172646912]⟩, ⟨some ⟨g + 1 + 1, 0, none⟩, 1, [⟨some ⟨g + 1, 0, none⟩, 1, [(12, 1, 5, 0)]⟩]⟩, ⟨some ⟨g + 1 + 1 + 1, 0, none⟩, 1, [(0, ⟨none, 0, []⟩)]⟩, ⟨some ⟨g + 1 + 1 + 1 + 1, 0, none⟩, 1, [(4607182418800017408, 0, 7)]⟩⟩
theorem tk_con (g : Nat) : Con9 (tkM g) (tkM 0) := ⟨rfl, rfl, rfl, rfl, rfl, rfl⟩
def tkL : List Dn := [(4607182418800017408, -1, 0, 0, 7, 0), (4609434218613702656, 0, 0, 0, 7, 0), (4611686018427387904, 0, 1, 0, 7, 0)]
theorem tk_chk0 : chkB (tkM 0) = true := by decide +kernel
theorem tk_chk (g : Nat) : chkB (tkM g) = true := by rw [(tk_con g).chk]; exact tk_chk0
theorem tk_run0 : runL (tkM 0) 9 (new9 (tkM 0)) = tkL := by decide +kernel
theorem tk_wait0 : (run9 (tkM 0) 9 (new9 (tkM 0))).2.1 = [] := by decide +kernel
theorem tk_dn0 : (run9 (tkM 0) 9 (new9 (tkM 0))).2.2.length = 3 := by decide +kernel
theorem tk_run (g : Nat) : runL (tkM g) 9 (new9 (tkM g)) = tkL := by unfold runL; rw [(tk_con g).run9, (tk_con g).new9]; exact tk_run0
theorem tk_wait (g : Nat) : (run9 (tkM g) 9 (new9 (tkM g))).2.1 = [] := by rw [(tk_con g).run9, (tk_con g).new9]; exact tk_wait0
theorem tk_dn (g : Nat) : (run9 (tkM g) 9 (new9 (tkM g))).2.2.length = 3 := by rw [(tk_con g).run9, (tk_con g).new9]; exact tk_dn0
theorem tk_at {w : World} {g : Nat} (b0 : Blk w g 27 #[.float .f64 4602678819172646912]) (b1 : Blk w (g + 1) 142 #[.int .i64 12, .int .i64 1, .int .i64 5, .int .i64 0]) (b2 : Blk w (g + 1 + 1) 118 #[.slice (some ⟨g + 1, 0, none⟩) 1 1])
    (b3 : Blk w (g + 1 + 1 + 1) 120 #[.int .i64 0, .slice none 0 0]) (b4 : Blk w (g + 1 + 1 + 1 + 1) 125 #[.float .f64 4607182418800017408, .int .i64 0, .int .i64 7]) : (tkM g).At w := by
  have I := ech_i
  have h0 : Sl.At IntAt 1 w ⟨none, 0, []⟩ := ⟨fun i x hx => by simp at hx, Nat.le_refl 0, by simp⟩
  have hp : Sl.At InsAt 4 w ⟨some ⟨g + 1, 0, none⟩, 1, [(12, 1, 5, 0)]⟩ := ech_one ⟨b1.cell 0, b1.cell 1, b1.cell 2, b1.cell 3, I _ (by decide) (by decide), I _ (by decide) (by decide), I _ (by decide) (by decide), I _ (by decide) (by decide)⟩
  exact ⟨I 0 (by decide) (by decide), (by decide : 4611686018427387904 < 18446744073709551616), ech_one ⟨b0.cell 0, by decide⟩, ech_one ⟨b2.cell 0, hp⟩, ech_one ⟨b3.cell 0, b3.cell 1, I 0 (by decide) (by decide), h0⟩, ech_one ⟨b4.cell 0, b4.cell 1, b4.cell 2, by decide, I _ (by decide) (by decide), I _ (by decide) (by decide)⟩⟩
def tkC (w : World) : Array Value := #[.int .i64 0, .float .f64 4611686018427387904, .slice (some ⟨w.heap.size + 1, 0, none⟩) 1 1, .slice (some ⟨w.heap.size + 1 + 1 + 1, 0, none⟩) 1 1, .slice (some ⟨w.heap.size + 1 + 1 + 1 + 1, 0, none⟩) 1 1, .slice (some ⟨w.heap.size + 1 + 1 + 1 + 1 + 1, 0, none⟩) 1 1]
def TkTo (w : World) (e : Ending) (w' : World) : Prop := e = .returned (tkM (w.heap.size + 1)).val ∧ (tkM (w.heap.size + 1)).At w' ∧ Below w.heap.size w w'
set_option maxHeartbeats 1000000 in
theorem tick_any (w : World) : Calls Try.prog 89 #[] w (TkTo w) := by
  have hP := fun W (h1 : (tkM (w.heap.size + 1)).At W) (h2 : Below w.heap.size w W) => (show TkTo w (.returned (.agg (tkC w))) W from ⟨rfl, h1, h2⟩)
  generalize TkTo w = Post at *
  have HP := hide hP
  clear hP
  go_enter Try.func89, Try.ntmps89
  go_wp2_with fail
  refine bodyPost_ret (v := .agg (tkC w)) (by simp [results, Try.results89, go_sem, tkC]) rfl ?_
  have hb := allocs_below [(tkC w, 58), (#[.float .f64 4602678819172646912], 27), (#[.int .i64 12, .int .i64 1, .int .i64 5, .int .i64 0], 142), (#[.slice (some ⟨w.heap.size + 1 + 1, 0, none⟩) 1 1], 118), (#[.int .i64 0, .slice none 0 0], 120), (#[.float .f64 4607182418800017408, .int .i64 0, .int .i64 7], 125)] w
  have hB := allocs_blk [(tkC w, 58), (#[.float .f64 4602678819172646912], 27), (#[.int .i64 12, .int .i64 1, .int .i64 5, .int .i64 0], 142), (#[.slice (some ⟨w.heap.size + 1 + 1, 0, none⟩) 1 1], 118), (#[.int .i64 0, .slice none 0 0], 120), (#[.float .f64 4607182418800017408, .int .i64 0, .int .i64 7], 125)] w
  exact HP.out _ (tk_at (hB 1 _ rfl) (hB 2 _ rfl) (hB 3 _ rfl) (hB 4 _ rfl) (hB 5 _ rfl)) hb
/-! A nil simulation. -/
theorem stepnil_any (w : World) : Calls Try.prog 61 #[.pointer none] w fun e w' => e = .returned stepNone ∧ Below w.heap.size w w' := by
  have hX := Blk.new w 39 #[.float .f64 0, .int .i64 0, .int .i64 0, .int .i64 0, .int .i64 0, .int .i64 0]
  have hb := (Below.refl w.heap.size w).alloc (Nat.le_refl _) (.cells #[.float .f64 0, .int .i64 0, .int .i64 0, .int .i64 0, .int .i64 0, .int .i64 0] 39)
  have HB := hide hb
  have f0 := hX.frozen 0
  have f1 := hX.frozen 1
  have f2 := hX.frozen 2
  have f3 := hX.frozen 3
  have f4 := hX.frozen 4
  have f5 := hX.frozen 5
  have x0 := hX.cell 0
  have x1 := hX.cell 1
  have x2 := hX.cell 2
  have x3 := hX.cell 3
  have x4 := hX.cell 4
  have x5 := hX.cell 5
  simp only [List.getElem?_toArray, List.getElem?_cons_zero, List.getElem?_cons_succ] at x0 x1 x2 x3 x4 x5
  clear hX hb
  go_enter Try.func61, Try.ntmps61
  go_upto_region 1 with fail
  generalize World.alloc w _ = w1 at *
  go_wp2_with fail
  refine bodyPost_ret (v := stepNone) (by simp [results, Try.results61, go_sem, stepNone, x0, x1, x2, x3, x4, x5]) rfl ?_
  exact ⟨rfl, (((((HB.out.setCell (p := ⟨w.heap.size, 0, none⟩) (Nat.le_refl _) _).setCell (p := ⟨w.heap.size, 1, none⟩) (Nat.le_refl _) _).setCell (p := ⟨w.heap.size, 2, none⟩) (Nat.le_refl _) _).setCell (p := ⟨w.heap.size, 3, none⟩) (Nat.le_refl _) _).setCell (p := ⟨w.heap.size, 4, none⟩) (Nat.le_refl _) _).setCell (p := ⟨w.heap.size, 5, none⟩) (Nat.le_refl _) _⟩
theorem runnil_any (n : Int) (w : World) : Calls Try.prog 57 #[.pointer none, .int .i64 n] w fun e w' => e = .returned (.slice none 0 0) ∧ Below w.heap.size w w' := by
  have HS := hide (fun W => stepnil_any W)
  by_cases h0 : 0 < n
  · go_enter Try.func57, Try.ntmps57
    go_wp2_with fail
    refine wp_loop_rounds 1 ?_
    rw [rounds_succ]
    go_wp2_with fail
    refine (HS.out _).mono ?_
    rintro e w1 ⟨rfl, hb⟩
    have ha := (Below.refl w1.heap.size w1).alloc (Nat.le_refl _) (.cells #[.float .f64 0, .int .i64 0, .int .i64 0, .int .i64 0, .int .i64 0, .int .i64 0] 39)
    have HB := hide (below_after hb ha)
    clear hb ha HS
    unfold stepNone
    go_wp2_with fail
    first | exact ⟨rfl, HB.out⟩ | (go_ret; exact ⟨rfl, HB.out⟩)
  · go_enter Try.func57, Try.ntmps57
    go_wp2_with fail
    refine wp_loop_rounds 1 ?_
    rw [rounds_succ]
    go_wp2_with fail
    first | exact ⟨rfl, Below.refl _ _⟩ | (go_ret; exact ⟨rfl, Below.refl _ _⟩)
theorem statenil_any (lp : Int) (w : World) : Calls Try.prog 60 #[.pointer none, .int .i64 lp] w fun e w' => e = .returned (.agg #[.slice none 0 0, .int .i64 0, .int .i64 0]) ∧ Below w.heap.size w w' := by
  have hX := Blk.new w 61 #[.slice none 0 0, .int .i64 0, .int .i64 0]
  have hb := (Below.refl w.heap.size w).alloc (Nat.le_refl _) (.cells #[.slice none 0 0, .int .i64 0, .int .i64 0] 61)
  have HB := hide hb
  have f0 := hX.frozen 0
  have f1 := hX.frozen 1
  have f2 := hX.frozen 2
  have x0 := hX.cell 0
  have x1 := hX.cell 1
  have x2 := hX.cell 2
  simp only [List.getElem?_toArray, List.getElem?_cons_zero, List.getElem?_cons_succ] at x0 x1 x2
  clear hX hb
  go_enter Try.func60, Try.ntmps60
  go_upto_region 1 with fail
  generalize World.alloc w _ = w1 at *
  go_wp2_with fail
  refine bodyPost_ret (v := .agg #[.slice none 0 0, .int .i64 0, .int .i64 0]) (by simp [results, Try.results60, go_sem, x0, x1, x2]) rfl ?_
  exact ⟨rfl, ((HB.out.setCell (p := ⟨w.heap.size, 0, none⟩) (Nat.le_refl _) _).setCell (p := ⟨w.heap.size, 1, none⟩) (Nat.le_refl _) _).setCell (p := ⟨w.heap.size, 2, none⟩) (Nat.le_refl _) _⟩
theorem waitingnil_any (w : World) : Calls Try.prog 59 #[.pointer none] w fun e w' => e = .returned (.int .i64 0) ∧ w = w' := by
  go_enter Try.func59, Try.ntmps59
  go_wp2_with fail
  go_ret
  exact ⟨rfl, rfl⟩
theorem handlednil_any (w : World) : Calls Try.prog 58 #[.pointer none] w fun e w' => e = .returned (.int .i64 0) ∧ w = w' := by
  go_enter Try.func58, Try.ntmps58
  go_wp2_with fail
  go_ret
  exact ⟨rfl, rfl⟩
set_option maxHeartbeats 2000000 in
theorem awake09 (w : World) : Calls Try.prog 55 #[] w fun e w' => e = .returned (.bool true) ∧ Below w.heap.size w w' := by
  have f1 := fo_self 4607182418800017408 (by decide)
  have f2 := fo_self 4609434218613702656 (by decide)
  have f3 := fo_self 4611686018427387904 (by decide)
  go_enter Try.func55, Try.ntmps55
  go_wp2_with fail
  refine (tick_any _).mono ?_
  rintro e w1 ⟨rfl, hA, hb1⟩
  generalize w.heap.size + 1 = gt at *
  have HN := hide (new9p_any (tkM gt) w1 hA (tk_chk _))
  have HA := hide hA
  clear hA
  go_wp2_with fail
  refine HN.out.mono ?_
  intro e w2 hN
  obtain ⟨lo, g, b, Sv, rfl, hlo, hP, hb2⟩ := new9_start HA.out (tk_chk _) hN
  have hgl := hP.glt
  have HTL := hide (fun k (hk : tchv g b Sv k) => Nat.le_trans hb1.size (Nat.le_trans hlo (hP.tlo hk).1))
  have HR := hide (run9p_any hP 9 (by decide))
  rw [show (((9 : Nat) : Int)) = 9 from rfl] at HR
  have HB2 := hide (below_after hb1 hb2)
  clear hN HN HA hP hb2 hb1
  go_wp2_with fail
  refine HR.out.mono ?_
  rintro e w3 ⟨⟨qA, qc, qL⟩, rfl, hq, hown, hP3, hO3⟩
  rw [tk_run] at hq
  simp only at hq
  subst hq
  obtain ⟨⟨fA, fc, fL⟩, hfv, hfL, hfc, hff⟩ := hown.form
  simp only [Sl.val] at hfv hfL
  injection hfv with e1 e2 e3
  subst e1 e3
  obtain ⟨gq, hqa, _, _, hcell⟩ := hff (show 0 < tkL.length by decide)
  have hA2 : qA = some ⟨gq, 0, none⟩ := hqa
  clear hqa
  subst hA2
  have c0 := hcell 0 _ rfl
  have c6 := hcell 6 _ rfl
  have c12 := hcell 12 _ rfl
  have c16 := hcell 16 _ rfl
  have hc := hfc.2
  clear hcell hff hfL
  have HWT := hide (waiting9p_any hP3)
  have HHD := hide (handled9p_any hP3)
  rw [tk_wait] at HWT
  rw [tk_dn] at HHD
  have HB3 := hide (HB2.out.trans (hO3.below HB2.out.size HTL.out))
  unfold Sl.val
  simp only [show tkL.length = 3 from rfl] at hfc ⊢
  clear hown hP3 hO3 HR HB2 e2
  go_wp2_with fail
  refine HWT.out.mono ?_
  rintro e w4 ⟨rfl, rfl⟩
  go_wp2_with fail
  refine HHD.out.mono ?_
  rintro e w4 ⟨rfl, rfl⟩
  go_wp2_with fail
  go_ret
  exact ⟨rfl, HB3.out⟩
end Go.Proofs.Ytpfcmfannkbipaa
end
