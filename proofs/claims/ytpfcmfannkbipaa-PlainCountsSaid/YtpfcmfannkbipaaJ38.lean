/- Texts of this claim in one. No condition. -/
import Derived.Test.YtpfcmfannkbipaaJ37
import Derived.Test.YtpfcmfannkbipaaJ15
section
set_option linter.unusedVariables false
set_option linter.unusedSimpArgs false
set_option maxRecDepth 20000
namespace Go.Proofs.Ytpfcmfannkbipaa
open Go.RowKit Go.Deep

attribute [local go_sem] run_store_float
theorem one_sl34 {α : Type} (x : Sl α) : ∀ u ∈ encSl x, u.oneCell' = true := by intro u hu; simp [encSl] at hu; subst hu; rfl
theorem inf_sl34 : (Try.prog.info? 22).map (fun i => (i.zero, i.size, i.bytes)) = some (some (.slice none 0 0), 1, 24) := by kernel_rfl
theorem lays_sl34 : Lays (SlAt DnB 6) encSl := by
  intro w a x h r u hu
  have h0 := h.1
  have ha := spot_of h0
  rcases r with _ | r
  · rw [show a.add 0 = a from if_pos rfl, ← hu]; exact h0
  · simp [encSl] at hu
theorem flat_sl (L : List (Sl Dn)) : L.flatMap encSl = L.map Sl.val := by
  induction L with
  | nil => rfl
  | cons x L ih => simp [encSl, ih]
/-- A cell of an own row of rows, read and written. -/
theorem own_sl_at {w : World} {B : Nat} {A : Option Addr} {c : Nat} {L : List (Sl Dn)} (h : OwnR 22 1 encSl w B (.slice A L.length c) L) {j : Nat} {s : Sl Dn} (hs : L[j]? = some s) :
    ∃ g cur, A = some ⟨g, 0, none⟩ ∧ B ≤ g ∧ Blk w g 22 cur ∧ w.cell? ⟨g, j, none⟩ = some s.val ∧ w.frozen? ⟨g, j, none⟩ = false ∧ ∀ z : Sl Dn, OwnR 22 1 encSl (w.setCell ⟨g, j, none⟩ z.val) B (.slice A (L.set j z).length c) (L.set j z) := by
  obtain ⟨hj, rfl⟩ := List.getElem?_eq_some_iff.1 hs
  obtain ⟨h1, h2⟩ := h
  rcases h2 with ⟨he, -⟩ | ⟨g, cap, cur, hv, hB, hh, hn, hm, hss, ht⟩
  · injection he with _ h4 _
    omega
  · injection hv with hv1 _ hv3
    subst hv1 hv3
    have hblk : Blk w g 22 cur := hh
    have hjc : j < cur.size := by omega
    rw [flat_sl, Nat.mul_one] at ht
    have hcell : cur[j]? = some L[j].val := by
      have h5 : (cur.toList.take L.length)[j]? = (L.map Sl.val)[j]? := by rw [ht]
      rw [List.getElem?_take, if_pos hj, List.getElem?_map, List.getElem?_eq_getElem hj] at h5
      simpa using h5
    refine ⟨g, cur, rfl, hB, hblk, (hblk.cell j).trans hcell, hblk.frozen j, fun z => ⟨by rw [flat_sl]; simp, .inr ⟨g, c, cur.setIfInBounds j z.val, rfl, hB, hblk.set_ j _, by simpa using hn, hm, by simpa using hss, ?_⟩⟩⟩
    rw [flat_sl, Nat.mul_one, List.map_set, ← ht]
    simp [List.take_set]
/-- A list without its head. -/
def tlS (s : Sl Dn) : Sl Dn := ⟨if s.c = 1 then s.A else s.A.map (·.add 6), s.c - 1, s.L.tail⟩
theorem size_dn (X : World) : (sizeOf (Try.prog.elem 22)).run Try.prog X = .ok 6 X := by go_simp
theorem tlS_at {s : Sl Dn} {w : World} (h : s.At DnB 6 w) (h0 : 0 < s.L.length) : (tlS s).At DnB 6 w := by
  obtain ⟨hr, hn, hc⟩ := h
  refine ⟨fun i x hx => ?_, by unfold tlS; simp only [List.length_tail]; omega, by unfold tlS; simp only; omega⟩
  have hx2 : s.L[i + 1]? = some x := by unfold tlS at hx; simpa using hx
  obtain ⟨a, ha, hd⟩ := hr (i + 1) x hx2
  have hl := (List.getElem?_eq_some_iff.1 hx2).1
  refine ⟨a.add 6, ?_, ?_⟩
  · unfold tlS
    simp only
    rw [if_neg (by omega), ha]
    rfl
  · rw [add_of_add, show 6 + i * 6 = (i + 1) * 6 from by omega]
    exact hd
theorem tlS_run {s : Sl Dn} (h0 : 0 < s.L.length) (hn : s.L.length ≤ s.c) {a : Addr} (ha : s.A = some a) (X : World) : (Instr.slice 22 (.slice (some a) s.L.length s.c) (some (.int .i64 1)) none none).run Try.prog X = .ok (tlS s).val X := by
  rw [run_slice_l (ht := Try.underlying22) (kl := .i64) (l := 1) (h0 := by omega) (h1 := by omega)]
  rw [size_dn, Result.andThen_ok]
  unfold sliced tlS Sl.val
  simp only [List.length_tail]
  rw [ha]
  by_cases h1 : s.c = 1
  · simp [h1]
  · simp [h1]
/-- The head of a list that holds something. -/
theorem head_dn {s : Sl Dn} {w w' : World} (h : s.At DnB 6 w) (hb : Below w.heap.size w w') {x : Dn} {r : List Dn} (hx : s.L = x :: r) : ∃ a, s.A = some a ∧ DnB w' a x := by
  obtain ⟨a, ha, hd⟩ := (h.below DnB.keeps hb).1 0 x (by rw [hx]; rfl)
  rw [Nat.zero_mul, show a.add 0 = a from if_pos rfl] at hd
  exact ⟨a, ha, hd⟩
structure Mr34 (w : World) (N : Nat) (M : List (List Dn)) (A : Option Addr) (c K n : Nat) (R : List (Sl Dn)) (q : Sl Dn) (wr : World) : Prop where
  bel : Below w.heap.size w wr
  own : OwnR 39 6 encDn wr w.heap.size q.val q.L
  rst : OwnR 22 1 encSl wr w.heap.size (.slice A R.length c) R
  ats : ∀ (i : Nat) (s : Sl Dn), R[i]? = some s → s.At DnB 6 w
  eq_ : Mrg.mergeP cD N M = q.L ++ Mrg.mergeP cD n (R.map (·.L))
  tot : Mrg.total (R.map (·.L)) ≤ n
  len : q.L.length + n ≤ N
  num : R.length = K
theorem Mr34.below {w : World} {N : Nat} {M : List (List Dn)} {A : Option Addr} {c K n : Nat} {R : List (Sl Dn)} {q : Sl Dn} {wr wr' : World} (h : Mr34 w N M A c K n R q wr) (hb : Below wr.heap.size wr wr') : Mr34 w N M A c K n R q wr' :=
  ⟨below_after h.bel hb, h.own.below hb, h.rst.below hb, h.ats, h.eq_, h.tot, h.len, h.num⟩
theorem map_at {R : List (Sl Dn)} {i : Nat} {s : Sl Dn} (h : R[i]? = some s) : (R.map (·.L))[i]? = some s.L := by rw [List.getElem?_map, h]; rfl
theorem take_tl {R : List (Sl Dn)} {j : Nat} {s : Sl Dn} (h : R[j]? = some s) : (R.set j (tlS s)).map (·.L) = Mrg.takeAt (R.map (·.L)) j := by
  unfold Mrg.takeAt
  rw [List.map_set, List.getD_eq_getElem?_getD, map_at h]
  rfl
set_option maxHeartbeats 8000000 in
theorem rmerge34_any (l : Sl (Sl Dn)) (w : World) (h : l.At (SlAt DnB 6) 1 w) (hl : l.L.length ≤ 1000000) (hN : Mrg.total (l.L.map (·.L)) ≤ 1000000) : Calls Try.prog 29 #[l.val] w (DnTo w (mrgP (l.L.map (·.L)))) := by
  obtain ⟨v2, w2, hrun, hown, hb2⟩ := app_new (P := Try.prog) 22 42 42 1 24 (.slice none 0 0) encSl (by decide) (fun _ => rfl) one_sl34 Try.underlying42 inf_sl34 rfl lays_sl34 w l h (by omega) (by omega)
  obtain ⟨⟨A, c, R0⟩, rfl, hRe, hRc, _⟩ := hown.form
  simp only [Sl.val] at hRe hRc hrun hown
  subst hRe
  obtain ⟨M, hM⟩ : ∃ M, M = l.L.map (·.L) := ⟨_, rfl⟩
  rw [← hM] at hN ⊢
  obtain ⟨N, hNe⟩ : ∃ N, N = Mrg.total M := ⟨_, rfl⟩
  rw [← hNe] at hN
  have HP := hide (fun (q : Sl Dn) W (h0 : q.L = Mrg.mergeP cD N M) (h1 : OwnR 39 6 encDn W w.heap.size q.val q.L) (h2 : Below w.heap.size w W) => (show DnTo w (mrgP M) (.returned q.val) W from ⟨q, rfl, by unfold mrgP; rw [← hNe]; exact h0, h1, h2⟩))
  have HS0 := hide (show Mr34 w N M A c l.L.length N l.L ⟨none, 0, []⟩ w2 from ⟨hb2, OwnR.nil, hown, fun i s hs => by obtain ⟨_, _, _, hA⟩ := h.1 i s hs; exact hA, by rw [← hM]; rfl, by rw [← hM, hNe]; exact Nat.le_refl _, by simp, rfl⟩)
  generalize DnTo w (mrgP M) = Post at *
  clear hM hNe h hown hb2
  obtain ⟨lA, lc, ll⟩ := l
  simp only at *
  obtain ⟨K, hK⟩ : ∃ K, K = ll.length := ⟨_, rfl⟩
  rw [← hK] at hRc hrun hl HS0
  unfold Sl.val
  simp only
  rw [← hK]
  clear hK
  go_enter Try.func29, Try.ntmps29
  go_wp2_with (at_builtin; go_must (refine wpList_of_append rfl _ w2 _ _ 42 _ _ _ rfl rfl rfl hrun ?_))
  clear hrun
  go_loopg [4] N (fun n v wr => ∃ (q : Sl Dn) (R : List (Sl Dn)), v = q.val ∧ Mr34 w N M A c K n R q wr)
  case atStart => exact ⟨_, _, rfl, HS0.out⟩
  case round =>
    clear HS0
    obtain ⟨q, R, rfl, hS⟩ := hrel
    have HS := hide hS
    have hnum := hS.num
    clear hS
    go_wp2_with fail
    go_loopw [5, 6] (fun b i wx => ∃ k : Nat, k ≤ K ∧ i = .int .i64 k ∧ b = .int .i64 (bestI (Mrg.bestUp cD (R.map (·.L)) k)) ∧ Mr34 w N M A c K gk R q wx) (fun _ i _ => K - (intOf i).toNat)
    case atStart => exact ⟨0, Nat.zero_le _, rfl, rfl, HS.out⟩
    case round =>
      clear HS
      obtain ⟨i, hi, rfl, rfl, hS⟩ := hrel
      by_cases hlt : i < K
      · obtain ⟨sq, hs⟩ : ∃ sq, R[i]? = some sq := ⟨_, List.getElem?_eq_getElem (by omega)⟩
        have hsA := hS.ats i sq hs
        obtain ⟨g, cur, hAg, hBg, hblk, hcell, hfz, hset⟩ := own_sl_at hS.rst hs
        have HAT := hide (fun (j : Nat) (hj : j < K) => (show ∃ s, R[j]? = some s from ⟨_, List.getElem?_eq_getElem (by omega)⟩))
        have HRJ := hide (fun (j : Nat) (s : Sl Dn) (h : R[j]? = some s) => own_sl_at hS.rst h)
        have HSA := hide (fun (j : Nat) (s : Sl Dn) (h : R[j]? = some s) => hS.ats j s h)
        have hMi := map_at hs
        have iI : (i : Int) < (K : Int) := by omega
        have iJ : (0 : Int) ≤ (i : Int) := by omega
        have hq63 := hsA.2
        obtain ⟨p, hO, h0, hne, hI⟩ := bel_hidden wr wr.drew (Below.refl _ _).drew
        have HBI := hide (fun z : Wo p => hS.below (hI z))
        have HBE := hide hS.bel
        have z0 := fun z : Wo p => keepc (hI z) hcell
        have HP := hide hO
        have H0 := hide h0
        have HI := hide hI
        clear hI hO h0 hS hcell hfz hset hblk hs
        unfold Sl.val at z0
        cases hL : sq.L with
        | cons x r =>
          obtain ⟨a, haq, d0, d1, d2, d3, d4, d5⟩ := head_dn hsA HBE.out hL
          have x0 := fun z : Wo p => keepc (HI.out z) d0
          have x1 := fun z : Wo p => keepc (HI.out z) d1
          have x2 := fun z : Wo p => keepc (HI.out z) d2
          have x3 := fun z : Wo p => keepc (HI.out z) d3
          have x4 := fun z : Wo p => keepc (HI.out z) d4
          rw [hL] at hMi
          have hpos : 0 < sq.L.length := by rw [hL]; simp
          have dk : decide ((0 : Int) < (sq.L.length : Int)) = true := decide_eq_true (by omega)
          have dk2 : decide (0 < sq.L.length) = true := decide_eq_true hpos
          have pI : (0 : Int) < (sq.L.length : Int) := by omega
          rw [haq] at z0
          clear d0 d1 d2 d3 d4 d5 hsA haq
          generalize sq.L.length = ln at *
          clear hL
          cases hB : Mrg.bestUp cD (R.map (·.L)) i with
          | none =>
            have HB := hide (best_first hMi hB)
            clear hMi hB HRJ HSA HAT
            subst hAg
            simp only [bestI]
            go_upto_region 7 with fail
            refine wp_region_quietC (by kernel_rfl) (by kernel_rfl) H0.out ?_
            repeat (go_big_quiet_step (fail))
            refine wpQuiet_nil ?_
            intro _ hw'
            obtain ⟨z, rfl⟩ := hw'
            have hi2 := hide (HBI.out z)
            generalize z.W = W1 at *
            clear z0 x0 x1 x2 x3 x4 HBI HP H0 hne HI z HBE dk dk2
            go_wp2_with fail
            go_roundw
            case rel => exact ⟨i + 1, by omega, by go_num, by rw [HB.out], hi2.out⟩
            case measure => simp [intOf]; omega
          | some j =>
            obtain ⟨hji, y, t, hMj⟩ := Mrg.bestUp_some hB
            have HB := hide (best_other hMi hB hMj)
            obtain ⟨sj, hsj⟩ := HAT.out j (by omega)
            have hMj2 := map_at hsj
            have hLj : sj.L = y :: t := Option.some.inj (hMj2.symm.trans hMj)
            obtain ⟨g', cur', hAg', _, _, hcell', _, _⟩ := HRJ.out j sj hsj
            obtain rfl : g = g' := by rw [hAg] at hAg'; injection hAg' with e; injection e
            have hsjA := HSA.out j sj hsj
            have hj63 := hsjA.2
            obtain ⟨b, hbq, e0, e1, e2, e3, e4, e5⟩ := head_dn hsjA HBE.out hLj
            have q9 := fun z : Wo p => keepc (HI.out z) hcell'
            have y0 := fun z : Wo p => keepc (HI.out z) e0
            have y1 := fun z : Wo p => keepc (HI.out z) e1
            have y2 := fun z : Wo p => keepc (HI.out z) e2
            have y3 := fun z : Wo p => keepc (HI.out z) e3
            have y4 := fun z : Wo p => keepc (HI.out z) e4
            unfold Sl.val at q9
            rw [hbq] at q9
            have hposj : 0 < sj.L.length := by rw [hLj]; simp
            have pJ : (0 : Int) < (sj.L.length : Int) := by omega
            have h3 := fun W => rcmp_dn x y W
            have jJ : (0 : Int) ≤ (j : Int) := by omega
            have jI : (j : Int) < (K : Int) := by omega
            have dj : decide ((j : Int) < 0) = false := decide_eq_false (by omega)
            generalize cD x y = C at *
            clear hMi hB HRJ HSA HAT hMj hMj2 hLj e0 e1 e2 e3 e4 e5 hsjA hbq hsj hAg' hcell'
            generalize sj.L.length = lj at *
            subst hAg
            simp only [bestI]
            go_upto_region 7 with fail
            refine wp_region_quietC (by kernel_rfl) (by kernel_rfl) H0.out ?_
            repeat (go_big_quiet_step (first
                | (go_at_call 32; with_reducible exact Calls.quietC HP.out (h3 _))))
            refine wpQuiet_nil ?_
            intro _ hw'
            obtain ⟨z, rfl⟩ := hw'
            have hi2 := hide (HBI.out z)
            generalize z.W = W1 at *
            clear z0 x0 x1 x2 x3 x4 y0 y1 y2 y3 y4 q9 HBI HP H0 hne HI z HBE dk dk2 dj h3
            by_cases hC : C < 0
            · have HG := hide (HB.out.1 hC)
              go_wp2_with fail
              go_roundw
              case rel => exact ⟨i + 1, by omega, by go_num, by rw [HG.out], hi2.out⟩
              case measure => simp [intOf]; omega
            · have HG := hide (HB.out.2 hC)
              go_wp2_with fail
              go_roundw
              case rel => exact ⟨i + 1, by omega, by go_num, by rw [HG.out], hi2.out⟩
              case measure => simp [intOf]; omega
        | nil =>
          rw [hL] at hMi z0
          have HB := hide (best_skip hMi)
          simp only [List.length_nil] at z0
          clear hMi hL HRJ HSA HAT hsA
          generalize Mrg.bestUp cD (R.map (·.L)) i = B at *
          subst hAg
          go_upto_region 7 with fail
          refine wp_region_quietC (by kernel_rfl) (by kernel_rfl) H0.out ?_
          repeat (go_big_quiet_step (fail))
          refine wpQuiet_nil ?_
          intro _ hw'
          obtain ⟨z, rfl⟩ := hw'
          have hi2 := hide (HBI.out z)
          generalize z.W = W1 at *
          clear z0 HBI HP H0 hne HI z HBE
          go_wp2_with fail
          go_roundw
          case rel => exact ⟨i + 1, by omega, by go_num, by rw [HB.out], hi2.out⟩
          case measure => simp [intOf]; omega
      · obtain rfl : i = K := by omega
        cases hB : Mrg.bestUp cD (R.map (·.L)) i with
        | none =>
          have HEND := hide (HP.out q _ (by rw [hS.eq_, merge_none (by rw [List.length_map, hS.num]; exact hB), List.append_nil]) hS.own hS.bel)
          clear hS hB
          simp only [bestI]
          go_wp2_with fail
          first | exact HEND.out | (go_ret; exact HEND.out)
        | some j =>
          obtain ⟨hji, y, t, hMj⟩ := Mrg.bestUp_some hB
          obtain ⟨sj, hsj⟩ : ∃ sj, R[j]? = some sj := ⟨_, List.getElem?_eq_getElem (by omega)⟩
          have hMj2 := map_at hsj
          have hLj : sj.L = y :: t := Option.some.inj (hMj2.symm.trans hMj)
          have hposj : 0 < sj.L.length := by rw [hLj]; simp
          have hsjA := hS.ats j sj hsj
          obtain ⟨b, hbq, e0, e1, e2, e3, e4, e5⟩ := head_dn hsjA hS.bel hLj
          obtain ⟨g, cur, hAg, hBg, hblk, hcell, hfz, _⟩ := own_sl_at hS.rst hsj
          have htot := Mrg.total_set hMj
          obtain ⟨n, rfl⟩ : ∃ n, gk = n + 1 := ⟨gk - 1, by have := hS.tot; omega⟩
          have hlen := hS.len
          obtain ⟨q2, w4, hrun, hq2, hown2, hb4, hx4⟩ := dn_add (wc := w) hS.own hS.bel y (by omega) 22
          have hR4 : OwnR 22 1 encSl w4 w.heap.size (.slice A R.length c) R := OwnR.other hS.rst hS.own (by decide) hx4.1
          obtain ⟨g', cur', hAg', hBg', hblk', hcell', hfz', hset'⟩ := own_sl_at hR4 hsj
          obtain rfl : g = g' := by rw [hAg] at hAg'; injection hAg' with e; injection e
          have heq := hS.eq_
          rw [merge_some (by rw [List.length_map, hS.num]; exact hB) hMj, ← take_tl hsj] at heq
          have hq2o : OwnR 39 6 encDn w4 w.heap.size q2.val q2.L := by rw [hq2]; exact hown2
          have HS5 := hide (show Mr34 w N M A c i n (R.set j (tlS sj)) q2 (w4.setCell ⟨g, j, none⟩ (tlS sj).val) from
            ⟨hb4.setCell (p := ⟨g, j, none⟩) hBg _, hq2o.far9 hblk' (by decide) j _, hset' (tlS sj), fun k s hk => by
              rw [List.getElem?_set] at hk
              by_cases e : j = k
              · rw [if_pos e] at hk
                split at hk
                · injection hk with hk
                  subst hk
                  exact tlS_at hsjA hposj
                · cases hk
              · rw [if_neg e] at hk
                exact hS.ats k s hk, by rw [heq, hq2, List.append_assoc]; rfl, by rw [take_tl hsj]; have := hS.tot; omega, by rw [hq2]; simp only [List.length_append, List.length_cons, List.length_nil]; omega, by rw [List.length_set]; exact hS.num⟩)
          have hsl := tlS_run hposj hsjA.2.1 hbq
          have hj63 := hsjA.2
          have jJ : (0 : Int) ≤ (j : Int) := by omega
          have jI : (j : Int) < (i : Int) := by omega
          have pJ : (0 : Int) < (sj.L.length : Int) := by omega
          have jn : ¬ (j : Int) < 0 := by omega
          unfold Sl.val at hcell hcell' HS5 hsl
          rw [hbq] at hcell hcell'
          generalize sj.L.length = lj at *
          generalize (tlS sj).A = tA at *
          generalize (tlS sj).L.length = tn at *
          generalize (tlS sj).c = tc at *
          clear hS hB hMj hMj2 hLj hsjA hbq hsj htot heq hq2 hown2 hb4 hx4 hR4 hAg' hset' hblk hblk' hfz hq2o hlen
          subst hAg
          simp only [bestI]
          unfold Sl.val
          unfold Sl.val at hrun
          obtain ⟨yt, ys, yn, yd, yp, yf⟩ := y
          simp only at e0 e1 e2 e3 e4 e5 hrun
          go_wp2_with (at_builtin; go_must (refine wpList_of_append rfl _ w4 _ _ 22 _ _ _ rfl rfl rfl hrun ?_))
          go_roundg n
          case rel => exact ⟨q2, _, rfl, HS5.out⟩
          case measure => omega
end Go.Proofs.Ytpfcmfannkbipaa
end
