/- The law ModelLent walked. No condition. -/
import Derived.Test.YtegegljpmelomaaLent
import Derived.Deep.Cut
import Derived.Deep.DeepCutAuto
set_option linter.unusedVariables false
set_option linter.unusedSimpArgs false
set_option maxRecDepth 20000
namespace Go.Proofs.Ytegegljpmelomaa
open Go.RowKit Go.Deep

attribute [local go_sem] run_store_float
theorem lent_dark (m : Mdl) (w : World) (h : m.At w) (q : L05.lightB m = false) : Calls Try.prog 7 #[m.val] w fun e w' => e = .returned (.bool true) ∧ Below w.heap.size w w' := by
  obtain ⟨hX, hb⟩ := mbox w m h
  have hli := L05.light_any m _ (h.below hb)
  rw [q] at hli
  obtain ⟨seed, fin, ⟨dA, dc, dl⟩, ⟨pA, pc, pl⟩, ⟨lA, lc, ll⟩, ⟨iA, ic, il⟩⟩ := m
  simp only [Sl.val, Mdl.val] at *
  clear h q
  go_enter Try.func7, Try.ntmps7
  go_wp2_with fail
  refine hli.mono ?_
  clear hli
  rintro e w1 ⟨rfl, hb1⟩
  go_wp2_with fail
  refine (awake05 _).mono ?_
  rintro e w2 ⟨rfl, hb2⟩
  go_wp2
  go_ret
  exact ⟨rfl, below_after (below_after hb hb1) hb2⟩
set_option maxHeartbeats 4000000 in
theorem lent_light (m : Mdl) (w : World) (h : m.At w) (q : L05.lightB m = true) : Calls Try.prog 7 #[m.val] w fun e w' => e = .returned (.bool true) ∧ Below w.heap.size w w' := by
  obtain ⟨hX, hb⟩ := mbox w m h
  have hli := L05.light_any m _ (h.below hb)
  rw [q] at hli
  have HCP := hide (fun W (hb : Below w.heap.size w W) => copy_any m W (h.below hb) (light_small q))
  have HM := hide h
  have HMV := hide (show m.val = .agg m.cs from rfl)
  obtain ⟨M, hMeq⟩ : ∃ M, M = m := ⟨_, rfl⟩
  have HMQ := hide hMeq
  clear hMeq h q
  obtain ⟨seed, fin, ⟨dA, dc, dl⟩, ⟨pA, pc, pl⟩, ⟨lA, lc, ll⟩, ⟨iA, ic, il⟩⟩ := m
  simp only [Sl.val, Mdl.val] at hX hb hli HCP ⊢
  go_enter Try.func7, Try.ntmps7
  go_wp2_with fail
  refine hli.mono ?_
  clear hli
  rintro e w1 ⟨rfl, hb1⟩
  have hX := hX.below hb1 hX.lt
  have HB := hide (below_after hb hb1)
  clear hb hb1
  have k0 := hX.cell 0
  have k1 := hX.cell 1
  have k2 := hX.cell 2
  have k3 := hX.cell 3
  have k4 := hX.cell 4
  have k5 := hX.cell 5
  simp only [List.getElem?_toArray, List.getElem?_cons_zero, List.getElem?_cons_succ] at k0 k1 k2 k3 k4 k5
  go_upto_region 3 with fail
  have HF := hide (fun W (hb : Below w1.heap.size w1 W) => (show W.cell? ⟨w.heap.size, 0, none⟩ = some (.int .i64 seed) ∧ W.cell? ⟨w.heap.size, 1, none⟩ = some (.float .f64 fin) ∧ W.cell? ⟨w.heap.size, 2, none⟩ = some (.slice dA dl.length dc) ∧ W.cell? ⟨w.heap.size, 3, none⟩ = some (.slice pA pl.length pc) ∧ W.cell? ⟨w.heap.size, 4, none⟩ = some (.slice lA ll.length lc) ∧ W.cell? ⟨w.heap.size, 5, none⟩ = some (.slice iA il.length ic) ∧ Below w1.heap.size w1 W from ⟨keepc hb k0, keepc hb k1, keepc hb k2, keepc hb k3, keepc hb k4, keepc hb k5, hb⟩))
  have HX := hide hX
  clear hX k0 k1 k2 k3 k4 k5
  refine wp_region_typed (fun W => W.cell? ⟨w.heap.size, 0, none⟩ = some (.int .i64 seed) ∧ W.cell? ⟨w.heap.size, 1, none⟩ = some (.float .f64 fin) ∧ W.cell? ⟨w.heap.size, 2, none⟩ = some (.slice dA dl.length dc) ∧ W.cell? ⟨w.heap.size, 3, none⟩ = some (.slice pA pl.length pc) ∧ W.cell? ⟨w.heap.size, 4, none⟩ = some (.slice lA ll.length lc) ∧ W.cell? ⟨w.heap.size, 5, none⟩ = some (.slice iA il.length ic) ∧ Below w1.heap.size w1 W) (fun W W' => Below W.heap.size W W') (TM w1 M) CM [0, 2] 6 [1, 3, 4, 5] (by kernel_rfl) (by kernel_rfl) (HF.out _ (Below.refl _ _).drew) (fun _ _ h => h.size) (fun i vs W W' _ _ h ht => ht.below h) (TM.dep _ _ (by kernel_rfl)) ?_
  simp only [List.filterMap_cons, List.filterMap_nil, List.getElem?_cons_succ, List.getElem?_cons_zero, List.drop_succ_cons, List.drop_zero]
  repeat (refine head_step ?_ (by rfl) ?_ (fun _ _ _ h => h) ?_; rotate_left; (intro w' hs; obtain ⟨z0, z1, z2, z3, z4, z5, _⟩ := hs; go_simp; (try with_reducible rfl)); (try simp only [Act.put, List.setIfInBounds_toArray, List.set_cons_zero, List.set_cons_succ]))
  refine head_nil ?_
  refine ty_one rfl (by rfl) (fun W hS hT => ?_) fun v1 => ty_one rfl (by rfl) (fun W hS hT => ?_) fun v3 => ty_one rfl (by rfl) (fun W hS hT => ?_) fun v4 => ty_one rfl (by rfl) (fun W hS hT => ?_) fun v5 => ty_nil ?_
  · have hSb := hS.2.2.2.2.2.2
    refine OpTo.enter (g := 21) (args := #[.agg #[.int .i64 seed, .float .f64 fin, .slice dA dl.length dc, .slice pA pl.length pc, .slice lA ll.length lc, .slice iA il.length ic]]) (w' := W) (by go_simp) ((HCP.out W (below_after HB.out hSb)).mono ?_)
    rintro e w'' ⟨c, rfl, hsc, hown, hb⟩
    exact ⟨_, rfl, HF.out _ (below_after hSb hb), hb, show cpM M c.val w'' from ⟨c, rfl, by rw [HMQ.out]; exact hsc, hown.lower (Nat.zero_le _)⟩, fun g hg => absurd (.inl rfl) hg.1⟩
  · have hSb := hS.2.2.2.2.2.2
    obtain ⟨a, rfl, hsa, hoa⟩ : cpM M v1 W := hT 1 (by simp) (by kernel_rfl)
    refine OpTo.enter (g := 21) (args := #[.agg #[.int .i64 seed, .float .f64 fin, .slice dA dl.length dc, .slice pA pl.length pc, .slice lA ll.length lc, .slice iA il.length ic]]) (w' := W) (by go_simp) ((HCP.out W (below_after HB.out hSb)).mono ?_)
    rintro e w'' ⟨c, rfl, hsc, hown, hb⟩
    exact ⟨_, rfl, HF.out _ (below_after hSb hb), hb, show cpN w1 M a.val c.val w'' from ⟨a, c, W.heap.size, rfl, hsa, hoa.below hb, hoa.low, rfl, hown.lower (by omega), hSb.size⟩, fun g hg => absurd (.inr rfl) hg.1⟩
  · have hSb := hS.2.2.2.2.2.2
    have hb := (Below.refl W.heap.size W).alloc (Nat.le_refl _) (.cells zM 28)
    obtain ⟨h1, h2⟩ := bxM_made (W0 := w1) (w := W) (m := M) (i := 4) (vs := updV (updV (updV (fun _ => undef) 1 v1) 3 v3) 4 (.pointer (some ⟨W.heap.size, 0, none⟩))) (by decide) hSb.size rfl
    exact OpTo.value (by go_simp; first | rfl | exact ⟨rfl, rfl⟩) ⟨HF.out _ (below_after hSb hb), hb, h1, h2⟩
  · have hSb := hS.2.2.2.2.2.2
    have hb := (Below.refl W.heap.size W).alloc (Nat.le_refl _) (.cells zM 28)
    obtain ⟨h1, h2⟩ := bxM_made (W0 := w1) (w := W) (m := M) (i := 5) (vs := updV (updV (updV (updV (fun _ => undef) 1 v1) 3 v3) 4 v4) 5 (.pointer (some ⟨W.heap.size, 0, none⟩))) (by decide) hSb.size rfl
    exact OpTo.value (by go_simp; first | rfl | exact ⟨rfl, rfl⟩) ⟨HF.out _ (below_after hSb hb), hb, h1, h2⟩
  · intro X hS hT hC
    obtain ⟨a, c, N, gc, gd, e1, e3, e4, e5, hsa, hoa, hla, hoc, hN, hne, hgc, hgd, bc, bd⟩ := two_lent (hT 3 (by simp)) (hT 4 (by simp)) (hT 5 (by simp)) (hC 4 (by simp) 5 (by simp) (by decide))
    have e1 : v1 = a.val := e1
    have e3 : v3 = c.val := e3
    have e4 : v4 = .pointer (some ⟨gc, 0, none⟩) := e4
    have e5 : v5 = .pointer (some ⟨gd, 0, none⟩) := e5
    subst e1 e3 e4 e5
    have hSb := hS.2.2.2.2.2.2
    have qd := hoc.dls.form
    have qp := hoc.pls.form
    have qps := fun s hs => (hoc.ps s hs).form
    have ql := hoc.lls.form
    have qls := fun x hx => (hoc.ls x hx).form
    have qi := hoc.ils.form
    obtain ⟨bseed, bfin, ⟨dA', dc', dl'⟩, ⟨pA', pc', pl'⟩, ⟨lA', lc', ll'⟩, ⟨iA', ic', il'⟩⟩ := c
    obtain ⟨aseed, afin, ⟨dA2, dc2, dl2⟩, ⟨pA2, pc2, pl2⟩, ⟨lA2, lc2, ll2⟩, ⟨iA2, ic2, il2⟩⟩ := a
    have hd63 : dl'.length ≤ 9223372036854775807 := by obtain ⟨_, _, _, ⟨h, h'⟩, _⟩ := qd; exact Nat.le_trans h h'
    have hp63 : pl'.length ≤ 9223372036854775807 := by obtain ⟨_, _, _, ⟨h, h'⟩, _⟩ := qp; exact Nat.le_trans h h'
    have hl63 : ll'.length ≤ 9223372036854775807 := by obtain ⟨_, _, _, ⟨h, h'⟩, _⟩ := ql; exact Nat.le_trans h h'
    have hi63 : il'.length ≤ 9223372036854775807 := by obtain ⟨_, _, _, ⟨h, h'⟩, _⟩ := qi; exact Nat.le_trans h h'
    have HPS := hide (fun (s : Sl Ins4) (hs : s ∈ pl') => (show s.L.length ≤ 9223372036854775807 by obtain ⟨_, _, _, ⟨h, h'⟩, _⟩ := qps s hs; exact Nat.le_trans h h'))
    have HLS := hide (fun (x : LP2) (hx : x ∈ ll') => (show x.2.L.length ≤ 9223372036854775807 by obtain ⟨_, _, _, ⟨h, h'⟩, _⟩ := qls x hx; exact Nat.le_trans h h'))
    clear qd qp qps ql qls qi
    simp only [Mdl.val, Sl.val]
    have bc' := blk_far6 (blk_st6 bc (.int .i64 aseed) (.float .f64 afin) (.slice dA2 dl2.length dc2) (.slice pA2 pl2.length pc2) (.slice lA2 ll2.length lc2) (.slice iA2 il2.length ic2)) hne (.int .i64 bseed) (.float .f64 bfin) (.slice dA' dl'.length dc') (.slice pA' pl'.length pc') (.slice lA' ll'.length lc') (.slice iA' il'.length ic')
    have bdx := blk_far6 bd (Ne.symm hne) (.int .i64 aseed) (.float .f64 afin) (.slice dA2 dl2.length dc2) (.slice pA2 pl2.length pc2) (.slice lA2 ll2.length lc2) (.slice iA2 il2.length ic2)
    have bd' := blk_st6 bdx (.int .i64 bseed) (.float .f64 bfin) (.slice dA' dl'.length dc') (.slice pA' pl'.length pc') (.slice lA' ll'.length lc') (.slice iA' il'.length ic')
    have hoc' := own_st6 (own_st6 hoc bc (.int .i64 aseed) (.float .f64 afin) (.slice dA2 dl2.length dc2) (.slice pA2 pl2.length pc2) (.slice lA2 ll2.length lc2) (.slice iA2 il2.length ic2)) bdx (.int .i64 bseed) (.float .f64 bfin) (.slice dA' dl'.length dc') (.slice pA' pl'.length pc') (.slice lA' ll'.length lc') (.slice iA' il'.length ic')
    have hoa' := own_st6 (own_st6 hoa bc (.int .i64 aseed) (.float .f64 afin) (.slice dA2 dl2.length dc2) (.slice pA2 pl2.length pc2) (.slice lA2 ll2.length lc2) (.slice iA2 il2.length ic2)) bdx (.int .i64 bseed) (.float .f64 bfin) (.slice dA' dl'.length dc') (.slice pA' pl'.length pc') (.slice lA' ll'.length lc') (.slice iA' il'.length ic')
    have hbb := below_st6 (below_st6 hSb hgc (.int .i64 aseed) (.float .f64 afin) (.slice dA2 dl2.length dc2) (.slice pA2 pl2.length pc2) (.slice lA2 ll2.length lc2) (.slice iA2 il2.length ic2)) hgd (.int .i64 bseed) (.float .f64 bfin) (.slice dA' dl'.length dc') (.slice pA' pl'.length pc') (.slice lA' ll'.length lc') (.slice iA' il'.length ic')
    unfold st6 at bc' bd' hoc' hoa' hbb
    unfold zM at bc bd
    have c0 := bc.cell 0
    have c1 := bc.cell 1
    have c2 := bc.cell 2
    have c3 := bc.cell 3
    have c4 := bc.cell 4
    have c5 := bc.cell 5
    simp only [List.getElem?_toArray, List.getElem?_cons_zero, List.getElem?_cons_succ] at c0 c1 c2 c3 c4 c5
    have m0 := bd.cell 0
    have m1 := bd.cell 1
    have m2 := bd.cell 2
    have m3 := bd.cell 3
    have m4 := bd.cell 4
    have m5 := bd.cell 5
    simp only [List.getElem?_toArray, List.getElem?_cons_zero, List.getElem?_cons_succ] at m0 m1 m2 m3 m4 m5
    have f0 := bc.frozen 0
    have f1 := bc.frozen 1
    have f2 := bc.frozen 2
    have f3 := bc.frozen 3
    have f4 := bc.frozen 4
    have f5 := bc.frozen 5
    have g0 := bd.frozen 0
    have g1 := bd.frozen 1
    have g2 := bd.frozen 2
    have g3 := bd.frozen 3
    have g4 := bd.frozen 4
    have g5 := bd.frozen 5
    have ne2 := Ne.symm hne
    have HL := hide (Lent.start bc' bd' hoc')
    have HOA := hide hoa'
    have HSA := hide hsa
    have HLA := hide hla
    have HBB := hide hbb
    clear bc' bd' bdx hoc' hoa' hsa hla hbb hoc hoa bc bd hT hC hS hSb hgc hgd HF HCP hX HMV
    go_upto_region 4 with fail
    generalize World.setCell (World.setCell (World.setCell (World.setCell (World.setCell (World.setCell (World.setCell (World.setCell (World.setCell (World.setCell (World.setCell (World.setCell X _ _) _ _) _ _) _ _) _ _) _ _) _ _) _ _) _ _) _ _) _ _) _ _ = W1 at *
    clear c0 c1 c2 c3 c4 c5 m0 m1 m2 m3 m4 m5 f0 f1 f2 f3 f4 f5 g0 g1 g2 g3 g4 g5 hne ne2 e1 e3
    generalize hC : (#[.int .i64 aseed, .float .f64 afin, .slice dA2 dl2.length dc2, .slice pA2 pl2.length pc2, .slice lA2 ll2.length lc2, .slice iA2 il2.length ic2] : Array Value) = C at *
    have HC := hide hC
    clear hC
    go_wp2_with fail
    go_loopw [5] (fun u wr => ∃ j : Nat, j ≤ dl'.length ∧ u = .int .i64 j ∧ Lent N W1 gc gd C ⟨bseed, bfin, ⟨dA', dc', dl'⟩, ⟨pA', pc', pl'⟩, ⟨lA', lc', ll'⟩, ⟨iA', ic', il'⟩⟩ wr) (fun u _ => dl'.length - (intOf u).toNat)
    case atStart => exact ⟨0, Nat.zero_le _, rfl, HL.out⟩
    case round =>
      clear HL
      obtain ⟨j, hj, rfl, hS⟩ := hrel
      by_cases hlt : j < dl'.length
      · obtain ⟨g, cur, hA, hNg, hblk, hsz⟩ := hS.d (by simp only; omega)
        have hA' : dA' = some ⟨g, 0, none⟩ := hA
        have y2 : wr.cell? ⟨gd, 2, none⟩ = some (.slice (some ⟨g, 0, none⟩) dl'.length dc') := by have h := hS.y.cell 2; rw [← hA']; exact h
        obtain ⟨u, hu⟩ : ∃ u, wr.cell? ⟨g, j, none⟩ = some u := ⟨_, (hblk.cell j).trans (Array.getElem?_eq_getElem (by simp only at hsz; omega))⟩
        have hf := hblk.frozen j
        have HN := hide (hS.set hblk hNg (by decide) (by decide) j (fun h => absurd h (by decide)) (.float .f64 4619567317775286272))
        have kI : (j : Int) < (dl'.length : Int) := by omega
        have kJ : (0 : Int) ≤ (j : Int) := by omega
        clear hS hblk hsz hA hA'
        go_wp2_with fail
        go_roundw
        case rel => exact ⟨j + 1, by omega, by go_num, HN.out⟩
        case measure => simp [intOf]; omega
      · obtain rfl : j = dl'.length := by omega
        have y2 : wr.cell? ⟨gd, 2, none⟩ = some (.slice dA' dl'.length dc') := hS.y.cell 2
        have HS := hide hS
        clear hS hlt hj
        go_upto_region 8 with fail
        clear y2
        go_wp2_with fail
        go_loopw [6] (fun u wr => ∃ j : Nat, j ≤ pl'.length ∧ u = .int .i64 j ∧ Lent N W1 gc gd C ⟨bseed, bfin, ⟨dA', dc', dl'⟩, ⟨pA', pc', pl'⟩, ⟨lA', lc', ll'⟩, ⟨iA', ic', il'⟩⟩ wr) (fun u _ => pl'.length - (intOf u).toNat)
        case atStart => exact ⟨0, Nat.zero_le _, rfl, HS.out⟩
        case round =>
          clear HS
          obtain ⟨j, hj, rfl, hS⟩ := hrel
          by_cases hlt : j < pl'.length
          · have hx := List.getElem?_eq_getElem hlt
            have hmem := List.getElem_mem hlt
            have hs63 := HPS.out _ hmem
            generalize pl'[j] = s at *
            obtain ⟨sA, sc, sL⟩ := s
            simp only at hs63
            have HS := hide hS
            have kI : (j : Int) < (pl'.length : Int) := by omega
            have kJ : (0 : Int) ≤ (j : Int) := by omega
            obtain ⟨gP, cs, hPA, hPb, hPs⟩ := hS.pt (by simp only; omega)
            have hPA' : pA' = some ⟨gP, 0, none⟩ := hPA
            have y3 : wr.cell? ⟨gd, 3, none⟩ = some (.slice (some ⟨gP, 0, none⟩) pl'.length pc') := by have h := hS.y.cell 3; rw [← hPA']; exact h
            clear hS hPA hPb hPs
            go_upto_region 11 with fail
            clear y3 hPA'
            go_wp2_with fail
            go_loopw [7] (fun u wr => ∃ k : Nat, k ≤ sL.length ∧ u = .int .i64 k ∧ Lent N W1 gc gd C ⟨bseed, bfin, ⟨dA', dc', dl'⟩, ⟨pA', pc', pl'⟩, ⟨lA', lc', ll'⟩, ⟨iA', ic', il'⟩⟩ wr) (fun u _ => sL.length - (intOf u).toNat)
            case atStart => exact ⟨0, Nat.zero_le _, rfl, HS.out⟩
            case round =>
              clear HS
              obtain ⟨k, hk, rfl, hS⟩ := hrel
              obtain ⟨gP, cs, hPA, hPb, hPs⟩ := hS.pt (by simp only; omega)
              have hPA' : pA' = some ⟨gP, 0, none⟩ := hPA
              have y3 : wr.cell? ⟨gd, 3, none⟩ = some (.slice (some ⟨gP, 0, none⟩) pl'.length pc') := by have h := hS.y.cell 3; rw [← hPA']; exact h
              have p0 := (hPb.cell j).trans (hPs j _ hx)
              by_cases hlt2 : k < sL.length
              · obtain ⟨g, cur, hA, hNg, hblk, hsz⟩ := hS.ps _ hmem (by simp only; omega)
                have hA' : sA = some ⟨g, 0, none⟩ := hA
                have p1 : wr.cell? ⟨gP, j, none⟩ = some (.slice (some ⟨g, 0, none⟩) sL.length sc) := by rw [← hA']; exact p0
                obtain ⟨u0, hu0⟩ : ∃ u, wr.cell? ⟨g, k * 4, none⟩ = some u := ⟨_, (hblk.cell (k * 4)).trans (Array.getElem?_eq_getElem (by simp only at hsz; omega))⟩
                have hf0 := hblk.frozen (k * 4)
                obtain ⟨u1, hu1⟩ : ∃ u, wr.cell? ⟨g, k * 4 + 1, none⟩ = some u := ⟨_, (hblk.cell (k * 4 + 1)).trans (Array.getElem?_eq_getElem (by simp only at hsz; omega))⟩
                have hf1 := hblk.frozen (k * 4 + 1)
                obtain ⟨u2, hu2⟩ : ∃ u, wr.cell? ⟨g, k * 4 + 2, none⟩ = some u := ⟨_, (hblk.cell (k * 4 + 2)).trans (Array.getElem?_eq_getElem (by simp only at hsz; omega))⟩
                have hf2 := hblk.frozen (k * 4 + 2)
                obtain ⟨u3, hu3⟩ : ∃ u, wr.cell? ⟨g, k * 4 + 3, none⟩ = some u := ⟨_, (hblk.cell (k * 4 + 3)).trans (Array.getElem?_eq_getElem (by simp only at hsz; omega))⟩
                have hf3 := hblk.frozen (k * 4 + 3)
                have HN := hide ((((hS.set hblk hNg (by decide) (by decide) (k * 4) (fun h => absurd h (by decide)) (.int .i64 99)).set (hblk.set_ (k * 4) _) hNg (by decide) (by decide) (k * 4 + 1) (fun h => absurd h (by decide)) (.int .i64 0)).set ((hblk.set_ (k * 4) _).set_ (k * 4 + 1) _) hNg (by decide) (by decide) (k * 4 + 2) (fun h => absurd h (by decide)) (.int .i64 0)).set (((hblk.set_ (k * 4) _).set_ (k * 4 + 1) _).set_ (k * 4 + 2) _) hNg (by decide) (by decide) (k * 4 + 3) (fun h => absurd h (by decide)) (.int .i64 0))
                have nI : (k : Int) < (sL.length : Int) := by omega
                have nJ : (0 : Int) ≤ (k : Int) := by omega
                clear hS hblk hsz hA hA' p0 hPA hPA' hPb hPs
                go_wp2_with fail
                go_roundw
                case rel => exact ⟨k + 1, by omega, by go_num, HN.out⟩
                case measure => simp [intOf]; omega
              · obtain rfl : k = sL.length := by omega
                have p1 : wr.cell? ⟨gP, j, none⟩ = some (.slice sA sL.length sc) := p0
                have HN := hide hS
                clear hS p0 hPA hPA' hPb hPs hlt2 hk
                go_wp2_with fail
                go_roundw
                case rel => exact ⟨j + 1, by omega, by go_num, HN.out⟩
                case measure => simp [intOf]; omega
          · obtain rfl : j = pl'.length := by omega
            have y3 : wr.cell? ⟨gd, 3, none⟩ = some (.slice pA' pl'.length pc') := hS.y.cell 3
            have HS := hide hS
            clear hS hlt hj
            go_upto_region 15 with fail
            clear y3
            go_wp2_with fail
            go_loopw [8] (fun u wr => ∃ j : Nat, j ≤ ll'.length ∧ u = .int .i64 j ∧ Lent N W1 gc gd C ⟨bseed, bfin, ⟨dA', dc', dl'⟩, ⟨pA', pc', pl'⟩, ⟨lA', lc', ll'⟩, ⟨iA', ic', il'⟩⟩ wr) (fun u _ => ll'.length - (intOf u).toNat)
            case atStart => exact ⟨0, Nat.zero_le _, rfl, HS.out⟩
            case round =>
              clear HS
              obtain ⟨j, hj, rfl, hS⟩ := hrel
              by_cases hlt : j < ll'.length
              · have hx := List.getElem?_eq_getElem hlt
                have hmem := List.getElem_mem hlt
                have hs63 := HLS.out _ hmem
                generalize ll'[j] = x at *
                obtain ⟨xp, xA, xc, xL⟩ := x
                simp only at hs63
                have HS := hide hS
                have kI : (j : Int) < (ll'.length : Int) := by omega
                have kJ : (0 : Int) ≤ (j : Int) := by omega
                obtain ⟨gL, cs, hLA, hLN, hLb, hLsz, hLs⟩ := hS.lt (by simp only; omega)
                have hLA' : lA' = some ⟨gL, 0, none⟩ := hLA
                have y4 : wr.cell? ⟨gd, 4, none⟩ = some (.slice (some ⟨gL, 0, none⟩) ll'.length lc') := by have h := hS.y.cell 4; rw [← hLA']; exact h
                clear hS hLA hLb hLs hLsz hLN
                go_upto_region 18 with fail
                clear y4 hLA'
                go_wp2_with fail
                go_loopw [9] (fun u wr => ∃ k : Nat, k ≤ xL.length ∧ u = .int .i64 k ∧ Lent N W1 gc gd C ⟨bseed, bfin, ⟨dA', dc', dl'⟩, ⟨pA', pc', pl'⟩, ⟨lA', lc', ll'⟩, ⟨iA', ic', il'⟩⟩ wr) (fun u _ => xL.length - (intOf u).toNat)
                case atStart => exact ⟨0, Nat.zero_le _, rfl, HS.out⟩
                case round =>
                  clear HS
                  obtain ⟨k, hk, rfl, hS⟩ := hrel
                  obtain ⟨gL, cs, hLA, hLN, hLb, hLsz, hLs⟩ := hS.lt (by simp only; omega)
                  have hLA' : lA' = some ⟨gL, 0, none⟩ := hLA
                  have y4 : wr.cell? ⟨gd, 4, none⟩ = some (.slice (some ⟨gL, 0, none⟩) ll'.length lc') := by have h := hS.y.cell 4; rw [← hLA']; exact h
                  have p0 := (hLb.cell (j * 2 + 1)).trans (hLs j _ hx)
                  by_cases hlt2 : k < xL.length
                  · obtain ⟨g, cur, hA, hNg, hblk, hsz⟩ := hS.ls _ hmem (by simp only; omega)
                    have hA' : xA = some ⟨g, 0, none⟩ := hA
                    have p1 : wr.cell? ⟨gL, j * 2 + 1, none⟩ = some (.slice (some ⟨g, 0, none⟩) xL.length xc) := by rw [← hA']; exact p0
                    obtain ⟨u0, hu0⟩ : ∃ u, wr.cell? ⟨g, k, none⟩ = some u := ⟨_, (hblk.cell k).trans (Array.getElem?_eq_getElem (by simp only at hsz; omega))⟩
                    have hf0 := hblk.frozen k
                    have HN := hide (hS.set hblk hNg (by decide) (by decide) k (fun h => absurd h (by decide)) (.int .i64 77))
                    have nI : (k : Int) < (xL.length : Int) := by omega
                    have nJ : (0 : Int) ≤ (k : Int) := by omega
                    clear hS hblk hsz hA hA' p0 hLA hLA' hLb hLs hLsz hLN
                    go_wp2_with fail
                    go_roundw
                    case rel => exact ⟨k + 1, by omega, by go_num, HN.out⟩
                    case measure => simp [intOf]; omega
                  · obtain rfl : k = xL.length := by omega
                    have p1 : wr.cell? ⟨gL, j * 2 + 1, none⟩ = some (.slice xA xL.length xc) := p0
                    obtain ⟨u0, hu0⟩ : ∃ u, wr.cell? ⟨gL, j * 2, none⟩ = some u := ⟨_, (hLb.cell (j * 2)).trans (Array.getElem?_eq_getElem (by simp only at hLsz; omega))⟩
                    have hf0 := hLb.frozen (j * 2)
                    have HN := hide (hS.set hLb hLN (by decide) (by decide) (j * 2) (fun _ => by omega) (.int .i64 9))
                    clear hS p0 hLA hLA' hLb hLs hLsz hLN hlt2 hk
                    go_wp2_with fail
                    go_roundw
                    case rel => exact ⟨j + 1, by omega, by go_num, HN.out⟩
                    case measure => simp [intOf]; omega
              · obtain rfl : j = ll'.length := by omega
                have y4 : wr.cell? ⟨gd, 4, none⟩ = some (.slice lA' ll'.length lc') := hS.y.cell 4
                have HS := hide hS
                clear hS hlt hj
                go_upto_region 23 with fail
                clear y4
                go_wp2_with fail
                go_loopw [10] (fun u wr => ∃ j : Nat, j ≤ il'.length ∧ u = .int .i64 j ∧ Lent N W1 gc gd C ⟨bseed, bfin, ⟨dA', dc', dl'⟩, ⟨pA', pc', pl'⟩, ⟨lA', lc', ll'⟩, ⟨iA', ic', il'⟩⟩ wr) (fun u _ => il'.length - (intOf u).toNat)
                case atStart => exact ⟨0, Nat.zero_le _, rfl, HS.out⟩
                case round =>
                  clear HS
                  obtain ⟨j, hj, rfl, hS⟩ := hrel
                  by_cases hlt : j < il'.length
                  · obtain ⟨g, cur, hA, hNg, hblk, hsz⟩ := hS.i (by simp only; omega)
                    have hA' : iA' = some ⟨g, 0, none⟩ := hA
                    have y5 : wr.cell? ⟨gd, 5, none⟩ = some (.slice (some ⟨g, 0, none⟩) il'.length ic') := by have h := hS.y.cell 5; rw [← hA']; exact h
                    obtain ⟨u, hu⟩ : ∃ u, wr.cell? ⟨g, j * 3 + 1, none⟩ = some u := ⟨_, (hblk.cell (j * 3 + 1)).trans (Array.getElem?_eq_getElem (by simp only at hsz; omega))⟩
                    have hf := hblk.frozen (j * 3 + 1)
                    have HN := hide (hS.set hblk hNg (by decide) (by decide) (j * 3 + 1) (fun h => absurd h (by decide)) (.int .i64 99))
                    have kI : (j : Int) < (il'.length : Int) := by omega
                    have kJ : (0 : Int) ≤ (j : Int) := by omega
                    clear hS hblk hsz hA hA'
                    go_wp2_with fail
                    go_roundw
                    case rel => exact ⟨j + 1, by omega, by go_num, HN.out⟩
                    case measure => simp [intOf]; omega
                  · obtain rfl : j = il'.length := by omega
                    have y5 : wr.cell? ⟨gd, 5, none⟩ = some (.slice iA' il'.length ic') := hS.y.cell 5
                    have HS := hide hS
                    clear hS hlt hj
                    go_upto_region 27 with fail
                    clear y5
                    have hSx := HS.out.x
                    rw [← HC.out] at hSx
                    have hbw := below_after HB.out (Below.trans (HBB.out) (HS.out.b.mono hN))
                    have hbx := Below.trans HBB.out (HS.out.b.mono hN)
                    have hXr := HX.out.below hbx HX.out.lt
                    have hoa := HOA.out.keep HLA.out HS.out.b
                    have HA := hide (hoa.at_ HSA.out (by rw [HMQ.out]; exact HM.out))
                    have HMR := hide (HM.out.below hbw)
                    have HSB := hide (sameB_con HSA.out)
                    rw [HMQ.out] at HSB
                    have HBW := hide hbw
                    clear hbw hbx hoa HOA HLA HS HC HBB HX HSA HB
                    have c0 := hSx.cell 0
                    have c1 := hSx.cell 1
                    have c2 := hSx.cell 2
                    have c3 := hSx.cell 3
                    have c4 := hSx.cell 4
                    have c5 := hSx.cell 5
                    simp only [List.getElem?_toArray, List.getElem?_cons_zero, List.getElem?_cons_succ] at c0 c1 c2 c3 c4 c5
                    have k0 := hXr.cell 0
                    have k1 := hXr.cell 1
                    have k2 := hXr.cell 2
                    have k3 := hXr.cell 3
                    have k4 := hXr.cell 4
                    have k5 := hXr.cell 5
                    simp only [List.getElem?_toArray, List.getElem?_cons_zero, List.getElem?_cons_succ] at k0 k1 k2 k3 k4 k5
                    go_wp2_with fail
                    refine (awake05 _).mono ?_
                    rintro e w2 ⟨rfl, hb2⟩
                    have HRS := hide (rsame_any _ _ w2 (HA.out.below hb2) (HMR.out.below hb2))
                    rw [HSB.out] at HRS
                    have HB2 := hide (below_after HBW.out hb2)
                    simp only [Mdl.val, Sl.val] at HRS
                    clear c0 c1 c2 c3 c4 c5 k0 k1 k2 k3 k4 k5
                    replace hSx := hSx.below hb2 hSx.lt
                    replace hXr := hXr.below hb2 hXr.lt
                    have c0 := hSx.cell 0
                    have c1 := hSx.cell 1
                    have c2 := hSx.cell 2
                    have c3 := hSx.cell 3
                    have c4 := hSx.cell 4
                    have c5 := hSx.cell 5
                    simp only [List.getElem?_toArray, List.getElem?_cons_zero, List.getElem?_cons_succ] at c0 c1 c2 c3 c4 c5
                    have k0 := hXr.cell 0
                    have k1 := hXr.cell 1
                    have k2 := hXr.cell 2
                    have k3 := hXr.cell 3
                    have k4 := hXr.cell 4
                    have k5 := hXr.cell 5
                    simp only [List.getElem?_toArray, List.getElem?_cons_zero, List.getElem?_cons_succ] at k0 k1 k2 k3 k4 k5
                    clear hb2 HA HMR HM HSB HBW
                    go_wp2_with fail
                    refine HRS.out.mono ?_
                    rintro e w3 ⟨rfl, hb3⟩
                    have HE := hide (below_after HB2.out hb3)
                    clear hb3 hSx hXr HRS
                    clear c0 c1 c2 c3 c4 c5 k0 k1 k2 k3 k4 k5
                    go_wp2_with fail
                    go_ret
                    exact ⟨rfl, HE.out⟩
theorem lent_walk (m : Mdl) (w : World) (h : m.At w) : Calls Try.prog 7 #[m.val] w fun e w' => e = .returned (.bool true) ∧ Below w.heap.size w w' := by
  cases q : L05.lightB m
  · exact lent_dark m w h q
  · exact lent_light m w h q
end Go.Proofs.Ytegegljpmelomaa
