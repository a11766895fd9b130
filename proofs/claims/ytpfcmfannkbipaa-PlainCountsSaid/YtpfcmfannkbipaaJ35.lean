/- Texts of this claim in one. No condition. -/
import Derived.Test.YtpfcmfannkbipaaJ34
section
set_option linter.unusedVariables false
set_option linter.unusedSimpArgs false
set_option maxRecDepth 20000
namespace Go.Proofs.Ytpfcmfannkbipaa
open Go.RowKit Go.Deep

attribute [local go_sem] run_store_float
section
variable {w wx : World} {C : Array Value} {x : Dn}
theorem Sm34.bad {n : Int} {L : List Dn} {k fi la : Nat} {o : Bool} (h : Sm34 w (sumC n L k fi la o) wx) (hx : L[k]? = some x) : (x.2.2.2.2.2 = 0 → Sm34 w (sumB n L k (k + 1) fi la o) wx) ∧ (¬ x.2.2.2.2.2 = 0 → Sm34 w (sumB n L k (k + 1) fi la o) (wx.setCell ⟨w.heap.size + 1, 1, none⟩ (.int .i64 (cntI badP L k + 1)))) :=
  ⟨fun hf => sum_good hx hf ▸ h, fun hf => sum_bad hx hf ▸ h.set 1 _⟩
theorem Sm34.proc {n : Int} {L : List Dn} {k fi la : Nat} {o : Bool} (h : Sm34 w (sumB n L k (k + 1) fi la o) wx) (hx : L[k]? = some x) : ((x.2.2.2.1 < 0 ∨ 5 < x.2.2.2.1) → Sm34 w (sumC n L (k + 1) fi la o) wx) ∧ (∀ d : Nat, d < 6 → x.2.2.2.1 = d → Sm34 w (sumC n L (k + 1) fi la o) (wx.setCell ⟨w.heap.size + 1, 2 + d, none⟩ (.int .i64 (cntI (ofP d) L k + 1)))) :=
  ⟨fun hf => sum_out hx hf ▸ h, fun d hd hf => sum_in hd hx hf ▸ h.set (2 + d) _⟩
theorem Sm34.ord {n : Int} {L : List Dn} {k fi la : Nat} {o : Bool} (h : Sm34 w (sumC n L k fi la o) wx) (o' : Bool) : Sm34 w (sumC n L k fi la o') (wx.setCell ⟨w.heap.size + 1, 10, none⟩ (.bool o')) := h.set 10 _
theorem Sm34.fi {n : Int} {L : List Dn} {k fi la : Nat} {o : Bool} (h : Sm34 w (sumC n L k fi la o) wx) (t : Nat) : Sm34 w (sumC n L k t la o) (wx.setCell ⟨w.heap.size + 1, 8, none⟩ (.float .f64 t)) := h.set 8 _
theorem Sm34.la {n : Int} {L : List Dn} {k fi la : Nat} {o : Bool} (h : Sm34 w (sumC n L k fi la o) wx) (t : Nat) : Sm34 w (sumC n L k fi t o) (wx.setCell ⟨w.heap.size + 1, 9, none⟩ (.float .f64 t)) := h.set 9 _
end
def fiK (L : List Dn) (k : Nat) : Nat := if k = 0 then 0 else firT L
theorem lasT_succ {L : List Dn} {k : Nat} {x : Dn} (h : L[k]? = some x) : lasT L (k + 1) = x.1 := by
  unfold lasT
  rw [Nat.add_sub_cancel, h]
  simp
/-- Is it still ordered, one ahead? -/
theorem sum_ordered2 {L : List Dn} {k : Nat} {x : Dn} (hx : L[k]? = some x) : (L.length ≤ k + 1 → ordUp L (k + 1 + 1) = ordUp L (k + 1)) ∧ (∀ y, L[k + 1]? = some y → (cD x y ≤ 0 → ordUp L (k + 1 + 1) = ordUp L (k + 1)) ∧ (¬ cD x y ≤ 0 → ordUp L (k + 1 + 1) = false)) := by
  rw [ordUp_succ L (k + 1)]
  refine ⟨fun h => ?_, fun y hy => ?_⟩
  · have h1 : ordAt L (k + 1) = true := by unfold ordAt; rw [Nat.add_sub_cancel, hx, List.getElem?_eq_none h]
    rw [h1]; simp
  · have h1 : ordAt L (k + 1) = decide (cD x y ≤ 0) := by unfold ordAt; rw [Nat.add_sub_cancel, hx, hy]
    rw [h1, decide_eq_false (by omega : ¬ k + 1 = 0)]
    exact ⟨fun h2 => by simp [h2], fun h2 => by simp [h2]⟩
def RsRel (w : World) (L : List Dn) (i : Value) (wr : World) : Prop := ∃ k : Nat, k ≤ L.length ∧ i = .int .i64 k ∧ Sm34 w (sumC L.length L k (fiK L k) (lasT L k) (ordUp L (k + 1))) wr
set_option maxHeartbeats 8000000 in
theorem rsum34_any (s : Sl Dn) (w : World) (hs : s.At DnB 6 w) (hl : s.L.length ≤ 1000000) : Calls Try.prog 24 #[s.val] w (SumTo w s.L) := by
  obtain ⟨A, c, L⟩ := s
  obtain ⟨hr, hn, hc⟩ := hs
  simp only [Sl.val] at *
  have hl2 : L.length ≤ 9223372036854775807 := by omega
  obtain ⟨hb0, hR, hX⟩ := box2 w (sumC 0 [] 0 0 0 false) (sumC L.length L 0 0 0 true) 29 29
  have HP := hide (fun W (h : Below w.heap.size w W) => (show SumTo w L (.returned (.agg (sumR L))) W from ⟨rfl, h⟩))
  generalize SumTo w L = Post at *
  have h01 : ordUp L (0 + 1) = true := by rw [ordUp_succ]; rfl
  have h02 : lasT L 0 = 0 := by
    unfold lasT
    cases L[0 - 1]? <;> rfl
  have HX := hide (show Sm34 w (sumC L.length L 0 (fiK L 0) (lasT L 0) (ordUp L (0 + 1))) _ from by rw [h01, h02]; exact ⟨hX, hR, hb0⟩)
  clear hX hR hb0 h01 h02
  go_enter Try.func24, Try.ntmps24
  go_upto_region 2 with fail
  change Code.wp _ _ _ _ (World.alloc (World.alloc w (.cells (sumC 0 [] 0 0 0 false) 29)) (.cells (sumC L.length L 0 0 0 true) 29))
  generalize (World.alloc (World.alloc w _) _) = w0 at *
  go_wp2_with fail
  go_loopw [4] (fun i wr => RsRel w L i wr) (fun i _ => L.length - (intOf i).toNat)
  case atStart => exact ⟨0, Nat.zero_le _, rfl, HX.out⟩
  case round =>
    clear HX
    obtain ⟨k, hk, rfl, hS⟩ := hrel
    by_cases hlt : k < L.length
    · have hx := List.getElem?_eq_getElem hlt
      obtain ⟨a, hA, g0, g1, g2, g3, g4, g5⟩ := (hr.below DnB.keeps hS.2.2) k _ hx
      have hA2 : A = some a := hA
      clear hA
      subst hA2
      have kI : (k : Int) < (L.length : Int) := by omega
      have kJ : (0 : Int) ≤ (k : Int) := by omega
      have HBD := hide (fun wx (h : Sm34 w (sumC L.length L k (fiK L k) (lasT L k) (ordUp L (k + 1))) wx) => h.bad hx)
      have HIN := hide (fun wx (h : Sm34 w (sumB L.length L k (k + 1) (fiK L k) (lasT L k) (ordUp L (k + 1))) wx) => h.proc hx)
      have HOR := hide (sum_ordered2 hx)
      have HLA := hide (lasT_succ hx)
      have HFI := hide (show fiK L (k + 1) = if k = 0 then L[k].1 else fiK L k by
        unfold fiK
        by_cases h : k = 0
        · subst h
          rw [if_pos rfl, if_neg (by omega), firT_at hx]
        · rw [if_neg h, if_neg (by omega), if_neg h])
      have HS1 := hide hS
      obtain ⟨aw, hAw, gw, gwr⟩ := hr k _ hx
      obtain rfl : a = aw := Option.some.inj hAw
      have HGW := hide gw
      clear gw gwr hAw
      have HRK := hide (fun W (h : Below w.heap.size w W) => (hr.below DnB.keeps h) k _ hx)
      have HRN := hide (fun W (h : Below w.heap.size w W) (hn : k + 1 < L.length) => (hr.below DnB.keeps h) (k + 1) _ (List.getElem?_eq_getElem hn))
      have HNX := hide (fun hn : k + 1 < L.length => List.getElem?_eq_getElem hn)
      generalize L[k] = x at *
      clear hx
      generalize fiK L k = fi at *
      generalize lasT L k = la at *
      generalize ordUp L (k + 1) = o at *
      have b1 := cntI_rng badP L k
      obtain ⟨xt, xs, xn, xd, xp, xf⟩ := x
      simp only at *
      have v1 := hS.1.cell 1
      have fz := hS.1.frozen 1
      unfold sumC at v1
      simp only [List.getElem?_toArray, List.getElem?_cons_zero, List.getElem?_cons_succ] at v1
      clear hS
      go_upto_if 20 with fail
      go_cut [] (fun wx => Sm34 w (sumB L.length L k (k + 1) fi la o) wx)
      case first =>
        have HX := hide (HBD.out wr HS1.out)
        generalize cntI badP L k = C at *
        by_cases hf : xf = 0
        · have hq : (xf != 0) = false := by simp [hf]
          go_wp2_with fail
          go_meet
          exact HX.out.1 hf
        · have hq : (xf != 0) = true := by simp [hf]
          go_wp2_with fail
          go_meet
          exact HX.out.2 hf
      case rest =>
        have HS2 := hide (HIN.out wc hcut)
        have hfz := fun d => hcut.1.frozen d
        have hcd := fun (d : Nat) (hd : d < 6) => (hcut.1.cell (2 + d)).trans (sumB_get _ _ _ _ _ _ _ hd)
        clear v1 fz HS1 HBD g0 g1 g2 g3 g4 g5 HIN b1
        obtain ⟨a', hA', g0, g1, g2, g3, g4, g5⟩ := HRK.out wc hcut.2.2
        obtain rfl : a = a' := Option.some.inj hA'
        simp only at g0 g1 g2 g3 g4 g5
        clear hA' hcut
        go_upto_region 8 with fail
        go_cut [36] (fun b wx => b = .bool (decide (0 ≤ xd ∧ xd ≤ 5)) ∧ wx = wc)
        case first =>
          rcases (by omega : (0 ≤ xd ∧ xd ≤ 5) ∨ xd < 0 ∨ 5 < xd) with hf | hf | hf
          · have h0 := hf.1
            have h5 := hf.2
            clear hf
            go_wp2_with fail
            go_meet
            exact ⟨congrArg Value.bool (decide_eq_true ⟨h0, h5⟩).symm, rfl⟩
          · have h0 : ¬ 0 ≤ xd := by omega
            clear hf
            go_wp2_with fail
            go_meet
            exact ⟨congrArg Value.bool (decide_eq_false (by omega)).symm, rfl⟩
          · have h0 : 0 ≤ xd := by omega
            have h5 : ¬ xd ≤ 5 := by omega
            clear hf
            go_wp2_with fail
            go_meet
            exact ⟨congrArg Value.bool (decide_eq_false (by omega)).symm, rfl⟩
        case rest =>
          obtain ⟨rfl, rfl⟩ := hcut
          go_upto_if 36 with fail
          go_cut [] (fun wx => Sm34 w (sumC L.length L (k + 1) fi la o) wx)
          case first =>
            clear g0 g1 g2 g3 g4 g5
            by_cases hf : 0 ≤ xd ∧ xd ≤ 5
            · rw [decide_eq_true hf]
              obtain ⟨d, hd, rfl⟩ : ∃ d : Nat, d < 6 ∧ xd = d := ⟨xd.toNat, by omega, by omega⟩
              have cd := hcd d hd
              have fd := hfz (2 + d)
              have b2 := cntI_rng (ofP d) L k
              have HS3 := hide (HS2.out.2 d hd rfl)
              have d0 : (0 : Int) ≤ (d : Int) := by omega
              have d6 : (d : Int) < 6 := by omega
              generalize cntI (ofP d) L k = C at *
              clear hcd hfz HS2 hf
              go_wp2_with fail
              go_meet
              exact HS3.out
            · rw [decide_eq_false hf]
              have HS3 := hide (HS2.out.1 (by omega))
              clear hcd hfz HS2 hf
              go_wp2_with fail
              go_meet
              exact HS3.out
          case rest =>
            clear hfz hcd HS2 g0 g1 g2 g3 g4 g5
            have HS3 := hide hcut
            obtain ⟨a', hA', g0, g1, g2, g3, g4, g5⟩ := HRK.out wc HS3.out.2.2
            obtain rfl : a = a' := Option.some.inj hA'
            simp only at g0 g1 g2 g3 g4 g5
            clear hA' hcut
            go_upto_region 10 with fail
            obtain ⟨n, hn⟩ : ∃ n, n = k + 1 := ⟨_, rfl⟩
            have eK : ((k : Int) + 1) = (n : Int) := by omega
            have wK : IntKind.i64.wrap (n : Int) = (n : Int) := IntWalk.i64_in _ (by omega)
            have k1J : (0 : Int) ≤ (n : Int) := by omega
            rw [← hn] at HOR HRN HNX HLA HFI HS3
            have HN := hide hn
            by_cases hnx : n < L.length
            case' neg =>
              have HG := hide (HOR.out.1 (by omega))
              have dg : decide ((n : Int) < (L.length : Int)) = false := decide_eq_false (by omega)
              have dg2 : decide (n < L.length) = false := decide_eq_false (by omega)
              clear HOR HRN HNX g0 g1 g2 g3 g4 g5 hn
              go_quiet (fail)
              replace HS3 := hide (show Sm34 w _ (wc.drewN nq) from HS3.out.below (below_drewN (Below.refl _ _) nq))
              rw [← HG.out] at HS3
              generalize wc.drewN nq = w4 at *
              generalize HO2q : ordUp L (n + 1) = o2 at *
              have HO2 := hide HO2q
              clear HO2q
              clear HG dg dg2
              go_upto_if 67 with fail
            case' pos =>
              obtain ⟨a', hA', m0, m1, m2, m3, m4, m5⟩ := HRN.out wc HS3.out.2.2 hnx
              obtain rfl : a = a' := Option.some.inj hA'
              have HG := hide (HOR.out.2 _ (HNX.out hnx))
              generalize L[n] = y at *
              have hcm := fun W => rcmp_dn (xt, xs, xn, xd, xp, xf) y W
              generalize cD (xt, xs, xn, xd, xp, xf) y = C at *
              obtain ⟨yt, ys, yn, yd, yp, yf⟩ := y
              simp only at m0 m1 m2 m3 m4 m5 hcm
              have dg : decide ((n : Int) < (L.length : Int)) = true := decide_eq_true (by omega)
              have dg2 : decide (n < L.length) = true := decide_eq_true (by omega)
              have nI : (n : Int) < (L.length : Int) := by omega
              obtain ⟨p, hO, h0, hne, hI⟩ := bel_hidden wc wc.drew (Below.refl _ _).drew
              have k0 := fun i : Wo p => keepc (hI i) g0
              have k1 := fun i : Wo p => keepc (hI i) g1
              have k2 := fun i : Wo p => keepc (hI i) g2
              have k3 := fun i : Wo p => keepc (hI i) g3
              have k4 := fun i : Wo p => keepc (hI i) g4
              have j0 := fun i : Wo p => keepc (hI i) m0
              have j1 := fun i : Wo p => keepc (hI i) m1
              have j2 := fun i : Wo p => keepc (hI i) m2
              have j3 := fun i : Wo p => keepc (hI i) m3
              have j4 := fun i : Wo p => keepc (hI i) m4
              have HBI := hide (fun i : Wo p => HS3.out.below (hI i))
              have HP := hide hO
              have H0 := hide h0
              clear hI hO h0 HOR HRN HNX g0 g1 g2 g3 g4 g5 m0 m1 m2 m3 m4 m5 hn hA' HS3
              refine wp_region_quietC (by kernel_rfl) (by kernel_rfl) H0.out ?_
              repeat (go_big_quiet_step (first
                | (go_at_call 32; with_reducible exact Calls.quietC HP.out (hcm _))))
              refine wpQuiet_nil ?_
              intro _ hw'
              obtain ⟨i, rfl⟩ := hw'
              have hi := hide (HBI.out i)
              generalize i.W = W1 at *
              clear k0 k1 k2 k3 k4 j0 j1 j2 j3 j4 HBI HP H0 hne i hcm dg dg2 nI
              by_cases hC : C ≤ 0
              case' pos =>
                have HG := hide (HG.out.1 hC)
                have hC2 : ¬ 0 < C := by omega
                have HS3 := hide hi.out
                rw [← HG.out] at HS3
                generalize HO2q : ordUp L (n + 1) = o2 at *
                have HO2 := hide HO2q
                clear HO2q
                clear HG
                go_upto_if 67 with fail
                generalize W1 = w4 at *
              case' neg =>
                have HG := hide (HG.out.2 hC)
                have hC2 : 0 < C := by omega
                have f10 := hi.out.1.frozen 10
                have c10 := hi.out.1.cell 10
                unfold sumC at c10
                simp only [List.getElem?_toArray, List.getElem?_cons_zero, List.getElem?_cons_succ] at c10
                have HS3 := hide (hi.out.ord false)
                generalize HO2q : ordUp L (n + 1) = o2 at *
                have HO2 := hide HO2q
                clear HO2q
                go_upto_if 67 with fail
                generalize World.setCell W1 _ _ = w4 at *
                rw [← HG.out] at HS3
                clear HG
            all_goals
              obtain ⟨a', hA', g0, g1, g2, g3, g4, g5⟩ := HRK.out w4 HS3.out.2.2
              obtain rfl : a = a' := Option.some.inj hA'
              simp only at g0 g1 g2 g3 g4 g5
              have q8 := HS3.out.1.cell 8
              have q9 := HS3.out.1.cell 9
              have e8 := HS3.out.1.frozen 8
              have e9 := HS3.out.1.frozen 9
              unfold sumC at q8 q9
              simp only [List.getElem?_toArray, List.getElem?_cons_zero, List.getElem?_cons_succ] at q8 q9
              clear g1 g2 g3 g4 g5 hA' HRK
              have hnl : n ≤ L.length := by have := HN.out; omega
              have gs := fun u => keepc (HS3.out.2.2.setCell (p := ⟨w.heap.size + 1, 8, none⟩) (by simp only; omega) u) HGW.out
              by_cases hk0 : k = 0
              · have hb : ((k : Int) == 0) = true := by simp [hk0]
                have hFI := hide (HFI.out.trans (if_pos hk0))
                have HS4 := hide ((HS3.out.fi xt).la xt)
                clear hr hk0
                go_wp2_with fail
                go_roundw
                case rel => exact ⟨n, hnl, by first | rfl | exact congrArg (Value.int .i64) eK | (rw [eK]), by rw [hFI.out, HLA.out, HO2.out]; exact HS4.out⟩
                case measure => simp [intOf]; omega
              · have hb : ((k : Int) == 0) = false := by simp [hk0]
                have hFI := hide (HFI.out.trans (if_neg hk0))
                have HS4 := hide (HS3.out.la xt)
                clear hr hk0
                go_wp2_with fail
                go_roundw
                case rel => exact ⟨n, hnl, by first | rfl | exact congrArg (Value.int .i64) eK | (rw [eK]), by rw [hFI.out, HLA.out, HO2.out]; exact HS4.out⟩
                case measure => simp [intOf]; omega
    · obtain rfl : k = L.length := by omega
      have hx := hS.1
      have hR := hS.2.1
      have HB := hide hS.2.2
      have hge := hS.2.2.size
      have hHB : w.heap.size < wr.heap.size := hS.2.1.lt
      have f0 := hR.frozen 0
      have f1 := hR.frozen 1
      have f2 := hR.frozen 2
      have f3 := hR.frozen 3
      have f4 := hR.frozen 4
      have f5 := hR.frozen 5
      have f6 := hR.frozen 6
      have f7 := hR.frozen 7
      have f8 := hR.frozen 8
      have f9 := hR.frozen 9
      have f10 := hR.frozen 10
      have HAG := hide (show sumR L = sumC L.length L L.length (fiK L L.length) (lasT L L.length) (ordUp L (L.length + 1)) by
        unfold sumR
        rw [ordUp_past L (L.length + 1) (by omega)]
        congr 1
        unfold fiK
        cases L with
        | nil => rfl
        | cons x r => simp [firT])
      generalize fiK L L.length = fi at *
      generalize lasT L L.length = la at *
      generalize ordUp L (L.length + 1) = o at *
      unfold sumC at hx hR
      have x0 := hx.cell 0
      have x1 := hx.cell 1
      have x2 := hx.cell 2
      have x3 := hx.cell 3
      have x4 := hx.cell 4
      have x5 := hx.cell 5
      have x6 := hx.cell 6
      have x7 := hx.cell 7
      have x8 := hx.cell 8
      have x9 := hx.cell 9
      have x10 := hx.cell 10
      simp only [List.getElem?_toArray, List.getElem?_cons_zero, List.getElem?_cons_succ] at x0 x1 x2 x3 x4 x5 x6 x7 x8 x9 x10
      have r0 := hR.cell 0
      have r1 := hR.cell 1
      have r2 := hR.cell 2
      have r3 := hR.cell 3
      have r4 := hR.cell 4
      have r5 := hR.cell 5
      have r6 := hR.cell 6
      have r7 := hR.cell 7
      have r8 := hR.cell 8
      have r9 := hR.cell 9
      have r10 := hR.cell 10
      simp only [List.getElem?_toArray, List.getElem?_cons_zero, List.getElem?_cons_succ] at r0 r1 r2 r3 r4 r5 r6 r7 r8 r9 r10
      clear hR hx hS hr
      simp only [cntI_zero] at r1 r2 r3 r4 r5 r6 r7
      go_wp2_with fail
      refine bodyPost_ret (v := .agg #[.int .i64 L.length, .int .i64 (cntI badP L L.length), .int .i64 (cntI (ofP 0) L L.length), .int .i64 (cntI (ofP 1) L L.length), .int .i64 (cntI (ofP 2) L L.length), .int .i64 (cntI (ofP 3) L L.length), .int .i64 (cntI (ofP 4) L L.length), .int .i64 (cntI (ofP 5) L L.length), .float .f64 fi, .float .f64 la, .bool o]) (by simp [results, Try.results24, go_sem, r0, r1, r2, r3, r4, r5, r6, r7, r8, r9, r10]) rfl ?_
      rw [show (.agg #[.int .i64 L.length, .int .i64 (cntI badP L L.length), .int .i64 (cntI (ofP 0) L L.length), .int .i64 (cntI (ofP 1) L L.length), .int .i64 (cntI (ofP 2) L L.length), .int .i64 (cntI (ofP 3) L L.length), .int .i64 (cntI (ofP 4) L L.length), .int .i64 (cntI (ofP 5) L L.length), .float .f64 fi, .float .f64 la, .bool o] : Value) = .agg (sumR L) by rw [HAG.out]; rfl]
      exact HP.out _ (below_set11 HB.out _ _ _ _ _ _ _ _ _ _ _)
end Go.Proofs.Ytpfcmfannkbipaa
end
