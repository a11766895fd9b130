/- Texts of this claim in one. No condition. -/
import Derived.Test.YtpfcmfannkbipaaJ26
import Derived.Test.YtpfcmfannkbipaaJ27
import Derived.Test.YtpfcmfannkbipaaJ21
import Derived.Test.YtpfcmfannkbipaaJ15
import Derived.Test.YtpfcmfannkbipaaJ02
import Derived.Test.YtpfcmfannkbipaaJ13
section
set_option linter.unusedVariables false
set_option linter.unusedSimpArgs false
set_option maxRecDepth 20000
namespace Go.Proofs.Ytpfcmfannkbipaa
open Go.RowKit Go.Deep

attribute [local go_sem] run_store_float
theorem TRow.grownT {α : Type} {e : TypeId} {d : Dec α} {size : Nat} {w w' : World} {s : Sl α} {b0 : Option Nat} (hd : d.local_) (h : TRow e d size w s) (hg : w.grownBy w' b0) (hne : ∀ g cs, Blk w g e cs → some g ≠ b0) : TRow e d size w' s := by
  refine ⟨⟨fun i x hx => ?_, h.at_.2⟩, fun h0 => ?_⟩
  · obtain ⟨a, ha, hx'⟩ := h.at_.1 i x hx
    obtain ⟨a', cs', ha', _, hb'⟩ := h.blk (by have := (List.getElem?_eq_some_iff.1 hx).1; omega)
    have haa : a = a' := Option.some.inj (ha.symm.trans ha')
    subst haa
    refine ⟨a, ha, hd w _ _ _ (fun o => ?_) hx'⟩
    have hb2 := hb'.grown hg (hne _ _ hb')
    rw [block_of_add, hb2.cell, hb'.cell]
  · obtain ⟨a, cs, h1, h2, h3⟩ := h.blk h0
    exact ⟨a, cs, h1, h2, h3.grown hg (hne _ _ h3)⟩
/-- A state more. -/
theorem new_state {w w1 w3 : World} {g gM : Nat} {m : Mdl} {S : Sl St} {v' : Value} {C : Array Value} {A : Option Addr} {c : Nat} {L : List Int} (h : Sim9 w g m S ⟨none, 0, []⟩ ⟨none, 0, []⟩ w1) (hM : Blk w1 gM 58 C) (ho : OwnR 3 1 encInt w1 w.heap.size (.slice A L.length c) L) (hz : ∀ z ∈ L, I64 z)
    (hx : OwnR 61 3 encSt w3 w.heap.size v' (S.L ++ [⟨⟨A, c, L⟩, 0, 0⟩])) (hg : GExt w1 w3 S.val v') :
    ∃ S' : Sl St, v' = S'.val ∧ S'.L = S.L ++ [⟨⟨A, c, L⟩, 0, 0⟩] ∧ Sim9 w g m S' ⟨none, 0, []⟩ ⟨none, 0, []⟩ (w3.setCell ⟨g, 6, none⟩ S'.val) ∧ Blk (w3.setCell ⟨g, 6, none⟩ S'.val) gM 58 C ∧ Blk w3 g 100 #[.int .i64 m.seed, .float .f64 m.fin, m.dl.val, m.pl.val, m.ll.val, m.il.val, S.val, .slice none 0 0, .slice none 0 0] ∧ Blk w3 gM 58 C := by
  obtain ⟨S', rfl, hL, _, _⟩ := hx.form
  have hne : ∀ {t : TypeId} {k : Nat} {cs : Array Value}, Blk w1 k t cs → 61 ≠ t → some k ≠ S.val.ownBlock := fun hb hn e => own_blk_ne h.st hb hn e.symm
  have hbox := h.box.grown hg.1 (hne h.box (by decide))
  have hM3 := hM.grown hg.1 (hne hM (by decide))
  have hbw : Below w.heap.size w1 w3 := hg.below h.bel.size h.st.base
  refine ⟨S', rfl, hL, ⟨(h.bel.trans hbw).setCell (p := ⟨g, 6, none⟩) h.ge _, h.ge, ?_, h.ms, ?_, fun s hs => ?_, TRow.nil, OwnR.nil⟩, hM3.far (p := ⟨g, 6, none⟩) (Blk.ne_ hM3 hbox (by decide)) _, hbox, hM3⟩
  · have := hbox.set_ 6 S'.val
    simpa [Sl.val] using this
  · rw [hL]
    exact hx.far9 hbox (by decide) 6 _
  · rw [hL] at hs
    rcases List.mem_append.1 hs with hs | hs
    · obtain ⟨h1, h2⟩ := h.wds s hs
      exact ⟨(h1.grownT int_local hg.1 (fun k cs hb => hne hb (by decide))).far int_local hbox (by decide) 6 _, h2⟩
    · obtain rfl := List.mem_singleton.1 hs
      have h3 : OwnR 3 1 encInt w3 w.heap.size (.slice A L.length c) L := OwnR.other ho h.st (by decide) hg.1
      have hz0 : I64 0 := ⟨by decide, by decide⟩
      exact ⟨(TRow.of_own (e := 3) (d := IntAt) (size := 1) (s := ⟨A, c, L⟩) (ok := fun _ z => I64 z) (by decide) (fun _ => rfl) makes_int h3 hz).far int_local hbox (by decide) 6 _, hz0, hz0⟩
theorem mwd_ok {m : Mdl} {w : World} (hm : m.At w) (i : Int) : ∀ z ∈ mwd m i, I64 z := by
  unfold mwd
  cases hx : m.ll.L[i.toNat]? with
  | none => intro z hz; cases hz
  | some x =>
    obtain ⟨_, _, _, _, _, h⟩ := hm.2.2.2.2.1.1 _ x hx
    exact sl_ints h
set_option maxHeartbeats 2000000 in
theorem new9_any (m : Mdl) (w : World) (hm : m.At w) (hc : chkB m = true) : Calls Try.prog 62 #[m.val] w fun e w' => ∃ g S W D, e = .returned (.pointer (some ⟨g, 0, none⟩)) ∧ Sim9 w g m S W D w' ∧ (S.L.map St.pl, W.L, D.L) = new9 m := by
  obtain ⟨hc1, hc2, hc3, hc4, hc5, hc6, hc7⟩ := chk_counts hc
  obtain ⟨hb0, hX, hG⟩ := box2 w #[.int .i64 m.seed, .float .f64 m.fin, m.dl.val, m.pl.val, m.ll.val, m.il.val] #[.int .i64 m.seed, .float .f64 m.fin, m.dl.val, m.pl.val, m.ll.val, m.il.val, .slice none 0 0, .slice none 0 0, .slice none 0 0] 58 100
  have hS0 : Sim9 w (w.heap.size + 1) m ⟨none, 0, []⟩ ⟨none, 0, []⟩ ⟨none, 0, []⟩ _ := ⟨hb0, by omega, hG, hm, OwnR.nil, fun s hs => (by cases hs), TRow.nil, OwnR.nil⟩
  have HFI := hide (fun (k : Nat) (hk : k < m.ll.L.length) W (hb : Below w.heap.size w W) => rfirst_any m k W (hm.below hb) hc hk)
  have HBG := hide (fun W (hb : Below w.heap.size w W) => rbegin_any m W (hm.below hb) hc)
  have HWD := hide (fun i => mwd_ok hm i)
  have HBL := hide (begV_len m.fin m.il.L 0)
  obtain ⟨Post, hPost⟩ : ∃ P : Ending → World → Prop, P = fun e w' => ∃ g S W D, e = .returned (.pointer (some ⟨g, 0, none⟩)) ∧ Sim9 w g m S W D w' ∧ (S.L.map St.pl, W.L, D.L) = new9 m := ⟨_, rfl⟩
  rw [← hPost]
  have HPO := hide hPost
  clear hPost hm hc
  obtain ⟨seed, fin, ⟨dA, dc, dl⟩, ⟨pA, pc, pl⟩, ⟨lA, lc, ll⟩, ⟨iA, ic, il⟩⟩ := m
  simp only [Mdl.val, Sl.val] at *
  have hl63 : ll.length ≤ 9223372036854775807 := by omega
  have HS0 := hide hS0
  have HX := hide hX
  have HB0 := hide hb0
  have x0 := hX.cell 0
  have x1 := hX.cell 1
  have x2 := hX.cell 2
  have x3 := hX.cell 3
  have x4 := hX.cell 4
  have x5 := hX.cell 5
  simp only [List.getElem?_toArray, List.getElem?_cons_zero, List.getElem?_cons_succ] at x0 x1 x2 x3 x4 x5
  clear hS0 hX hG hb0
  go_enter Try.func62, Try.ntmps62
  go_upto_region 2 with fail
  generalize (World.alloc (World.alloc w _) _) = w0 at *
  clear x0 x1 x2 x3 x4 x5
  go_wp2_with fail
  go_loopw [4] (fun i wr => ∃ (k : Nat) (S : Sl St), k ≤ ll.length ∧ i = .int .i64 k ∧ S.L.map St.pl = (List.range k).map (fun i : Nat => (mwd ⟨seed, fin, ⟨dA, dc, dl⟩, ⟨pA, pc, pl⟩, ⟨lA, lc, ll⟩, ⟨iA, ic, il⟩⟩ (i : Int), (0 : Int), (0 : Int))) ∧ Sim9 w (w.heap.size + 1) ⟨seed, fin, ⟨dA, dc, dl⟩, ⟨pA, pc, pl⟩, ⟨lA, lc, ll⟩, ⟨iA, ic, il⟩⟩ S ⟨none, 0, []⟩ ⟨none, 0, []⟩ wr ∧ Blk wr w.heap.size 58 #[.int .i64 seed, .float .f64 fin, .slice dA dl.length dc, .slice pA pl.length pc, .slice lA ll.length lc, .slice iA il.length ic]) (fun i _ => ll.length - (intOf i).toNat)
  case atStart => exact ⟨0, ⟨none, 0, []⟩, Nat.zero_le _, rfl, rfl, HS0.out, HX.out⟩
  case round =>
    clear HS0 HX HB0
    obtain ⟨k, S, hk, rfl, hSm, hS, hX⟩ := hrel
    have x4 := hX.cell 4
    simp only [List.getElem?_toArray, List.getElem?_cons_zero, List.getElem?_cons_succ] at x4
    by_cases hlt : k < ll.length
    · have hSl : S.L.length ≤ 1000 := by
        have := congrArg List.length hSm
        simp only [List.length_map, List.length_range] at this
        omega
      have hnext : ∀ S' : Sl St, S'.L = S.L ++ [⟨⟨none, 0, []⟩, 0, 0⟩] → True := fun _ _ => trivial
      clear hnext
      have HC := hide (fun X (hb : Below wr.heap.size wr X) => (show X.cell? ⟨w.heap.size + 1, 6, none⟩ = some (.slice S.A S.L.length S.c) ∧ X.cell? ⟨w.heap.size, 0, none⟩ = some (.int .i64 seed) ∧ X.cell? ⟨w.heap.size, 1, none⟩ = some (.float .f64 fin) ∧ X.cell? ⟨w.heap.size, 2, none⟩ = some (.slice dA dl.length dc) ∧ X.cell? ⟨w.heap.size, 3, none⟩ = some (.slice pA pl.length pc) ∧ X.cell? ⟨w.heap.size, 4, none⟩ = some (.slice lA ll.length lc) ∧ X.cell? ⟨w.heap.size, 5, none⟩ = some (.slice iA il.length ic) from ⟨keepc hb (hS.box.cell 6), keepc hb (hX.cell 0), keepc hb (hX.cell 1), keepc hb (hX.cell 2), keepc hb (hX.cell 3), keepc hb (hX.cell 4), keepc hb (hX.cell 5)⟩))
      have HS := hide hS
      have HX := hide hX
      have HSM := hide hSm
      have HFK := hide (HFI.out k hlt)
      have kI : (k : Int) < (ll.length : Int) := by omega
      have kJ : (0 : Int) ≤ (k : Int) := by omega
      clear hS hX hSm
      go_upto_region 5 with fail
      clear x4
      refine wp_region_readsC (fun X => X.cell? ⟨w.heap.size + 1, 6, none⟩ = some (.slice S.A S.L.length S.c) ∧ X.cell? ⟨w.heap.size, 0, none⟩ = some (.int .i64 seed) ∧ X.cell? ⟨w.heap.size, 1, none⟩ = some (.float .f64 fin) ∧ X.cell? ⟨w.heap.size, 2, none⟩ = some (.slice dA dl.length dc) ∧ X.cell? ⟨w.heap.size, 3, none⟩ = some (.slice pA pl.length pc) ∧ X.cell? ⟨w.heap.size, 4, none⟩ = some (.slice lA ll.length lc) ∧ X.cell? ⟨w.heap.size, 5, none⟩ = some (.slice iA il.length ic)) (.pointer (some ⟨w.heap.size + 1, 0, none⟩)) 6 3 (by kernel_rfl) (by kernel_rfl) (Or.inl ⟨by rfl, fun w => by rfl⟩) (fun _ _ _ h => h) (HC.out _ (Below.refl _ _).drew) ?_
      simp only [Act.put, List.setIfInBounds_toArray, List.set_cons_zero, List.set_cons_succ, List.take_succ_cons, List.take_zero, List.drop_succ_cons, List.drop_zero]
      repeat (refine head_step ?_ (by rfl) ?_ (fun _ _ _ h => h) ?_; rotate_left; (intro w' hs; obtain ⟨z6, z0, z1, z2, z3, z4, z5⟩ := hs; go_simp; (try with_reducible rfl)); (try simp only [Act.put, List.setIfInBounds_toArray, List.set_cons_zero, List.set_cons_succ]))
      refine head_nil ?_
      refine midc_call (g := 53) (args := #[.agg #[.int .i64 seed, .float .f64 fin, .slice dA dl.length dc, .slice pA pl.length pc, .slice lA ll.length lc, .slice iA il.length ic], .int .i64 k]) (w' := wr.drew) (by rfl) (by go_simp) ((HFK.out wr.drew HS.out.bel.drew).mono ?_)
      rintro e w1 ⟨A, c, rfl, ho, hb⟩
      have hbr : Below wr.heap.size wr w1 := below_after (Below.refl wr.heap.size wr).drew hb
      refine ⟨_, rfl, HC.out _ hbr, ?_⟩
      simp only [Act.put, List.setIfInBounds_toArray, List.set_cons_zero, List.set_cons_succ]
      have hS1 := HS.out.below hbr
      have hX1 := HX.out.below hbr HX.out.lt
      have hle : w.heap.size ≤ wr.drew.heap.size := HS.out.bel.size
      have hoW := OwnR.lower (N := w.heap.size) ho hle
      obtain ⟨v', w3, hrun, hx, hgx⟩ := run_append_one (P := Try.prog) 61 92 92 3 40 (.agg #[.slice none 0 0, .int .i64 0, .int .i64 0]) encSt (by decide) (fun _ => rfl) one_st Try.underlying92 inf_st rfl w1 w.heap.size S.val S.L ⟨⟨A, c, mwd ⟨seed, fin, ⟨dA, dc, dl⟩, ⟨pA, pc, pl⟩, ⟨lA, lc, ll⟩, ⟨iA, ic, il⟩⟩ (k : Int)⟩, 0, 0⟩ #[.slice A (mwd ⟨seed, fin, ⟨dA, dc, dl⟩, ⟨pA, pc, pl⟩, ⟨lA, lc, ll⟩, ⟨iA, ic, il⟩⟩ (k : Int)).length c, .int .i64 0, .int .i64 0] rfl hS1.st (by omega) (by omega) hS1.bel.size
      obtain ⟨S', hv', hSL', hS3, hX3, hb3, hm3⟩ := new_state hS1 hX1 hoW (HWD.out k) hx hgx
      have hSM' : S'.L.map St.pl = (List.range (k + 1)).map (fun i : Nat => (mwd ⟨seed, fin, ⟨dA, dc, dl⟩, ⟨pA, pc, pl⟩, ⟨lA, lc, ll⟩, ⟨iA, ic, il⟩⟩ (i : Int), (0 : Int), (0 : Int))) := by
        rw [hSL', List.map_append, HSM.out, List.range_succ, List.map_append]
        rfl
      refine midc_step _ (w1.alloc (.cells #[.slice A (mwd ⟨seed, fin, ⟨dA, dc, dl⟩, ⟨pA, pc, pl⟩, ⟨lA, lc, ll⟩, ⟨iA, ic, il⟩⟩ (k : Int)).length c, .int .i64 0, .int .i64 0] 61)) (by rfl) (by go_simp; first | rfl | exact ⟨rfl, rfl⟩) (HC.out _ (hbr.alloc hbr.size _)) ?_
      simp only [Act.put, List.setIfInBounds_toArray, List.set_cons_zero, List.set_cons_succ]
      refine midc_append rfl _ w3 (.tmp 21) (.tmp 25) 92 _ _ _ rfl rfl rfl hrun ⟨hb3.cell 6, hm3.cell 0, hm3.cell 1, hm3.cell 2, hm3.cell 3, hm3.cell 4, hm3.cell 5⟩ ?_
      simp only [Act.put, List.setIfInBounds_toArray, List.set_cons_zero, List.set_cons_succ]
      refine midc_nil ?_
      subst hv'
      have b6 := hb3.cell 6
      have f6 := hb3.frozen 6
      simp only [List.getElem?_toArray, List.getElem?_cons_zero, List.getElem?_cons_succ] at b6
      have HS3 := hide hS3
      have HX3 := hide hX3
      have HSM' := hide hSM'
      clear hS3 hX3 hSM' hb3 hm3 hSL' hrun hx hgx hoW hle hX1 hS1 hbr ho hb HC HS HX HSM HFK hSl
      unfold Sl.val at HS3 HX3 b6 ⊢
      go_wp2_with fail
      go_roundw
      case rel => exact ⟨k + 1, S', by omega, by go_num, HSM'.out, HS3.out, HX3.out⟩
      case measure => simp [intOf]; omega
    · obtain rfl : k = ll.length := by omega
      have y0 := hX.cell 0
      have y1 := hX.cell 1
      have y2 := hX.cell 2
      have y3 := hX.cell 3
      have y4 := hX.cell 4
      have y5 := hX.cell 5
      simp only [List.getElem?_toArray, List.getElem?_cons_zero, List.getElem?_cons_succ] at y0 y1 y2 y3 y4 y5
      have HS := hide hS
      have HSM := hide hSm
      have HBW := hide (HBG.out wr hS.bel)
      clear hS hSm hX hlt hk HFI HBG HWD x4
      go_wp2_with fail
      refine HBW.out.mono ?_
      rintro e w1 ⟨⟨qA, qc, qL⟩, rfl, hqL, hoq, hb1⟩
      have hq16 : qL.length ≤ 16 := by
        have := HBL.out
        simp only at hqL
        rw [hqL]
        exact Nat.le_trans this hc7
      have HS1 := hide (HS.out.below hb1)
      have HQ := hide hoq
      have HQL := hide hqL
      clear y0 y1 y2 y3 y4 y5 hb1 hoq hqL HS HBW HBL
      unfold Sl.val
      simp only
      go_wp2_with fail
      go_loopw [6] (fun i wr => ∃ (j : Nat) (W' : Sl Ev), j ≤ qL.length ∧ i = .int .i64 j ∧ W'.L = (qL.take j).foldl (fun W x => insP x W) [] ∧ Sim9 w (w.heap.size + 1) ⟨seed, fin, ⟨dA, dc, dl⟩, ⟨pA, pc, pl⟩, ⟨lA, lc, ll⟩, ⟨iA, ic, il⟩⟩ S W' ⟨none, 0, []⟩ wr ∧ w1.grownBy wr (some (w.heap.size + 1))) (fun i _ => qL.length - (intOf i).toNat)
      case atStart => exact ⟨0, ⟨none, 0, []⟩, Nat.zero_le _, rfl, rfl, HS1.out, World.grownBy.refl _ _⟩
      case round =>
        obtain ⟨j, W', hj, rfl, hW', hMr, hGr⟩ := hrel
        by_cases hlt : j < qL.length
        · have hx := List.getElem?_eq_getElem hlt
          have hQr := World.ownsRow.kept HQ.out hGr (.inr (own_blk_ne HQ.out HS1.out.box (by decide)))
          obtain ⟨ax, hax, x0⟩ := (own_evb (q := ⟨qA, qc, qL⟩) hQr).1 j _ hx
          have hstep : ((qL.take (j + 1)).foldl (fun W x => insP x W) []) = insP qL[j] W'.L := by
            rw [List.take_succ_eq_append_getElem hlt, List.foldl_append, hW']
            rfl
          have hlen : W'.L.length ≤ 100000 := by
            rw [hW', insAll_len9, List.length_take, List.length_nil]
            omega
          have HPU := hide (put9 w wr (w.heap.size + 1) _ _ W' _ qL[j] hMr hlen)
          generalize qL[j] = x at *
          obtain ⟨xt, xs, xn, xd, xp⟩ := x
          obtain ⟨x0, x1, x2, x3, x4⟩ := x0
          simp only at x0 x1 x2 x3 x4 HPU hax
          subst hax
          have kI : (j : Int) < (qL.length : Int) := by omega
          have kJ : (0 : Int) ≤ (j : Int) := by omega
          have HST := hide hstep
          have HGR := hide hGr
          clear hx hQr hstep hlen hMr hW' hGr
          go_wp2_with fail
          refine HPU.out.mono ?_
          rintro e w' ⟨q', rfl, hq', hS', hg'⟩
          have HQ' := hide hq'
          have HS' := hide hS'
          have HG' := hide (gby_trans HGR.out hg')
          clear hq' hS' hg' x0 x1 x2 x3 x4 HPU
          go_wp2_with fail
          go_roundw
          case rel => exact ⟨j + 1, q', by omega, by go_num, HQ'.out.trans HST.out.symm, HS'.out, HG'.out⟩
          case measure => simp [intOf]; omega
        · obtain rfl : j = qL.length := by omega
          rw [List.take_length] at hW'
          have HEND := hide (show Post (.returned (.pointer (some ⟨w.heap.size + 1, 0, none⟩))) wr by
            rw [HPO.out]
            refine ⟨w.heap.size + 1, S, W', ⟨none, 0, []⟩, rfl, hMr, ?_⟩
            have h1 : W'.L = (begV fin 0 il).foldl (fun W x => insP x W) [] := by rw [hW', HQL.out]
            unfold new9
            rw [HSM.out, h1])
          clear hW' hMr hGr hlt hj
          go_wp2_with fail
          first | exact HEND.out | (go_ret; exact HEND.out)
end Go.Proofs.Ytpfcmfannkbipaa
end

section
set_option linter.unusedVariables false
set_option maxRecDepth 20000
namespace Go.Proofs.Ytpfcmfannkbipaa

/-! ### Rounding a quotient to the nearest whole number, ties to even -/
/-- 'n / 2 ^ k', to the nearest, ties to even. -/
def rne (n k : Nat) : Nat := n / 2 ^ k + (if 2 ^ k < 2 * (n % 2 ^ k) ∨ (2 ^ k = 2 * (n % 2 ^ k) ∧ n / 2 ^ k % 2 = 1) then 1 else 0)
/-- It is the number that is at most r just where n lies below the middle of r and r + 1, or on it, r being even. -/
theorem rne_le (n k r : Nat) : rne n k ≤ r ↔ (2 * n < (2 * r + 1) * 2 ^ k ∨ (2 * n = (2 * r + 1) * 2 ^ k ∧ r % 2 = 0)) := by
  have hp : 0 < 2 ^ k := Nat.two_pow_pos k
  have hd : n = 2 ^ k * (n / 2 ^ k) + n % 2 ^ k := (Nat.div_add_mod n (2 ^ k)).symm
  have hm : n % 2 ^ k < 2 ^ k := Nat.mod_lt _ hp
  unfold rne
  generalize n / 2 ^ k = q at *
  generalize n % 2 ^ k = m at *
  generalize 2 ^ k = P at *
  subst hd
  rcases Nat.lt_trichotomy q r with h | h | h
  · have h2 : P * (q + 1) ≤ P * r := Nat.mul_le_mul_left P h
    rw [Nat.mul_add] at h2
    have e : (2 * r + 1) * P = 2 * (P * r) + P := by rw [Nat.add_mul, Nat.mul_assoc, Nat.mul_comm r P, Nat.one_mul]
    rw [e]
    constructor
    · intro _
      left
      omega
    · intro _
      split <;> omega
  · subst h
    have e : (2 * q + 1) * P = 2 * (P * q) + P := by rw [Nat.add_mul, Nat.mul_assoc, Nat.mul_comm q P, Nat.one_mul]
    rw [e]
    split <;> omega
  · have h2 : P * (r + 1) ≤ P * q := Nat.mul_le_mul_left P h
    rw [Nat.mul_add] at h2
    have e : (2 * r + 1) * P = 2 * (P * r) + P := by rw [Nat.add_mul, Nat.mul_assoc, Nat.mul_comm r P, Nat.one_mul]
    rw [e]
    constructor
    · intro h3
      split at h3 <;> omega
    · intro h3
      omega
theorem rne_mono {n m : Nat} (k : Nat) (h : n ≤ m) : rne n k ≤ rne m k := by
  rw [rne_le]
  have := (rne_le m k (rne m k)).1 (Nat.le_refl _)
  omega
theorem rne_scale (n k j : Nat) : rne (n * 2 ^ j) (k + j) = rne n k := by
  apply Nat.le_antisymm
  · rw [rne_le]
    have h := (rne_le n k (rne n k)).1 (Nat.le_refl _)
    generalize rne n k = r at *
    rw [Nat.pow_add, ← Nat.mul_assoc, ← Nat.mul_assoc]
    rcases h with h | ⟨h, h2⟩
    · left
      exact Nat.mul_lt_mul_of_pos_right h (Nat.two_pow_pos j)
    · right
      exact ⟨by rw [h], h2⟩
  · rw [rne_le]
    have h := (rne_le (n * 2 ^ j) (k + j) (rne (n * 2 ^ j) (k + j))).1 (Nat.le_refl _)
    generalize rne (n * 2 ^ j) (k + j) = r at *
    rw [Nat.pow_add, ← Nat.mul_assoc, ← Nat.mul_assoc] at h
    rcases h with h | ⟨h, h2⟩
    · left
      exact Nat.lt_of_mul_lt_mul_right h
    · right
      exact ⟨Nat.eq_of_mul_eq_mul_right (Nat.two_pow_pos j) h, h2⟩
theorem rne_zero (n : Nat) : rne n 0 = n := by
  unfold rne
  rw [Nat.pow_zero, Nat.div_one, Nat.mod_one]
  simp
/-- The model's cut is that, whatever it cuts its own gap to. -/
theorem cut_eq (s : Bool) (n k : Nat) : Ieee.Toward.even.cut s n k = rne n k := by
  unfold Ieee.Toward.cut
  simp only [Nat.one_shiftLeft]
  by_cases h : k ≤ n.log2 + 2
  · rw [Nat.min_eq_left h]
    unfold rne
    congr 1
    generalize n / 2 ^ k = q
    generalize n % 2 ^ k = m
    generalize 2 ^ k = P
    by_cases h1 : P < 2 * m
    · simp [h1]
    · by_cases h2 : P = 2 * m ∧ q % 2 = 1
      · rw [if_pos (.inr h2)]
        simp [h2.1, h2.2]
      · rw [if_neg (by rintro (h3 | h3); exact h1 h3; exact h2 h3)]
        simp only [Bool.toNat_eq_zero, Bool.or_eq_false_iff, Bool.and_eq_false_imp, decide_eq_false_iff_not, beq_iff_eq, beq_eq_false_iff_ne]
        exact ⟨h1, fun h3 h4 => h2 ⟨h3, h4⟩⟩
  · rw [Nat.min_eq_right (by omega)]
    have hn : n < 2 ^ (n.log2 + 1) := Nat.lt_log2_self
    have hp : 2 ^ (n.log2 + 2) = 2 * 2 ^ (n.log2 + 1) := by rw [Nat.pow_succ, Nat.mul_comm]
    have hk : 2 ^ (n.log2 + 2) ≤ 2 ^ k := Nat.pow_le_pow_right (by decide) (by omega)
    unfold rne
    rw [Nat.div_eq_of_lt (show n < 2 ^ (n.log2 + 2) by omega), Nat.mod_eq_of_lt (show n < 2 ^ (n.log2 + 2) by omega), Nat.div_eq_of_lt (show n < 2 ^ k by omega), Nat.mod_eq_of_lt (show n < 2 ^ k by omega)]
    rw [if_neg (by rintro (h3 | h3) <;> omega)]
    have h1 : ¬ 2 ^ (n.log2 + 2) < 2 * n := by omega
    simp [h1]

/-! ### The word nearest to a magnitude in units of the least place -/
/-- The last place that is kept, above the least. -/
def lastP (v : Nat) : Nat := v.log2 - 52
/-- The rung that is written of a magnitude in units of the least place. -/
def rnd (v : Nat) : Nat := min (lastP v * 4503599627370496 + rne v (lastP v)) 9218868437227405312
theorem rnd_zero : rnd 0 = 0 := by decide
theorem log2_scale (m k : Nat) (h : m ≠ 0) : (m * 2 ^ k).log2 = m.log2 + k := by
  induction k with
  | zero => simp
  | succ k ih =>
    have hp : m * 2 ^ k ≠ 0 := Nat.mul_ne_zero h (Nat.ne_of_gt (Nat.two_pow_pos k))
    rw [Nat.pow_succ, ← Nat.mul_assoc, Nat.mul_comm (m * 2 ^ k) 2, Nat.log2_two_mul hp, ih]
    omega
theorem nearest_rnd (s : Bool) (m k : Nat) : Ieee.double.nearest s m (-1074 + (k : Int)) = Ieee.double.word s (rnd (m * 2 ^ k)) := by
  unfold Ieee.Format.nearest
  by_cases h : m = 0
  · subst h
    rw [if_pos rfl, Nat.zero_mul, rnd_zero]
  · rw [if_neg h]
    have hf : Ieee.double.fractionBits = 52 := rfl
    simp only [d_bin, d_inf, d_least, hf]
    have e1 : (max (-1074 + (k : Int) + (m.log2 : Int) - ((52 : Nat) : Int)) (-1074) - -1074).toNat = m.log2 + k - 52 := by omega
    have hc : rne (m <<< (-1074 + (k : Int) - max (-1074 + (k : Int) + (m.log2 : Int) - ((52 : Nat) : Int)) (-1074)).toNat) (max (-1074 + (k : Int) + (m.log2 : Int) - ((52 : Nat) : Int)) (-1074) - (-1074 + (k : Int))).toNat = rne (m * 2 ^ k) (m.log2 + k - 52) := by
      clear e1
      by_cases hk : m.log2 ≤ 52
      · by_cases hk2 : m.log2 + k ≤ 52
        · have e2 : (-1074 + (k : Int) - max (-1074 + (k : Int) + (m.log2 : Int) - ((52 : Nat) : Int)) (-1074)).toNat = k := by omega
          have e3 : (max (-1074 + (k : Int) + (m.log2 : Int) - ((52 : Nat) : Int)) (-1074) - (-1074 + (k : Int))).toNat = 0 := by omega
          rw [e2, e3, rne_zero, show m.log2 + k - 52 = 0 by omega, rne_zero, Nat.shiftLeft_eq]
        · have e2 : (-1074 + (k : Int) - max (-1074 + (k : Int) + (m.log2 : Int) - ((52 : Nat) : Int)) (-1074)).toNat = 52 - m.log2 := by omega
          have e3 : (max (-1074 + (k : Int) + (m.log2 : Int) - ((52 : Nat) : Int)) (-1074) - (-1074 + (k : Int))).toNat = 0 := by omega
          rw [e2, e3, rne_zero, Nat.shiftLeft_eq]
          have e4 := rne_scale (m * 2 ^ (52 - m.log2)) 0 (m.log2 + k - 52)
          rw [rne_zero, Nat.zero_add, Nat.mul_assoc, ← Nat.pow_add, show 52 - m.log2 + (m.log2 + k - 52) = k by omega] at e4
          exact e4.symm
      · have e2 : (-1074 + (k : Int) - max (-1074 + (k : Int) + (m.log2 : Int) - ((52 : Nat) : Int)) (-1074)).toNat = 0 := by omega
        have e3 : (max (-1074 + (k : Int) + (m.log2 : Int) - ((52 : Nat) : Int)) (-1074) - (-1074 + (k : Int))).toNat = m.log2 - 52 := by omega
        rw [e2, e3, Nat.shiftLeft_zero, show m.log2 + k - 52 = m.log2 - 52 + k by omega, rne_scale]
    unfold rnd lastP
    rw [log2_scale m k h, e1, cut_eq, hc]
theorem rnd_mono {v u : Nat} (h : v ≤ u) : rnd v ≤ rnd u := by
  by_cases hv : v = 0
  · subst hv
    rw [rnd_zero]
    exact Nat.zero_le _
  have hu : u ≠ 0 := by omega
  have hl : v.log2 ≤ u.log2 := (Nat.le_log2 hu).2 (Nat.le_trans (Nat.log2_self_le hv) h)
  unfold rnd
  have key : lastP v * 4503599627370496 + rne v (lastP v) ≤ lastP u * 4503599627370496 + rne u (lastP u) := by
    by_cases he : lastP v = lastP u
    · rw [he]
      have := rne_mono (lastP u) h
      omega
    · have hlt : lastP v < lastP u := by
        unfold lastP at he ⊢
        omega
      have h1 : rne v (lastP v) ≤ 9007199254740992 := by
        rw [rne_le]
        left
        have : v < 2 ^ (lastP v + 53) := Nat.lt_of_lt_of_le Nat.lt_log2_self (Nat.pow_le_pow_right (by decide) (by unfold lastP; omega))
        rw [Nat.pow_add] at this
        have hp := Nat.two_pow_pos (lastP v)
        generalize 2 ^ lastP v = P at *
        omega
      have h2 : 4503599627370496 ≤ rne u (lastP u) := by
        have h3 : 2 ^ (lastP u + 52) ≤ u := Nat.le_trans (Nat.pow_le_pow_right (by decide) (by unfold lastP at hlt ⊢; omega)) (Nat.log2_self_le hu)
        have h4 : 2 ^ 52 ≤ u / 2 ^ lastP u := by
          rw [Nat.le_div_iff_mul_le (Nat.two_pow_pos _), ← Nat.pow_add, Nat.add_comm]
          exact h3
        unfold rne
        exact Nat.le_trans h4 (Nat.le_add_right _ _)
      have h5 : (lastP v + 1) * 4503599627370496 ≤ lastP u * 4503599627370496 := Nat.mul_le_mul_right _ hlt
      omega
  omega
end Go.Proofs.Ytpfcmfannkbipaa
end

section
set_option linter.unusedVariables false
set_option maxRecDepth 20000
namespace Go.Proofs.Ytpfcmfannkbipaa

/-- A finite word's value in units of the least place. -/
def valI (x : Nat) : Int := sg (sgnB x) (mag (rung x))
def sgRnd (v : Int) : Int := if v < 0 then -(rnd v.natAbs : Int) else rnd v.natAbs
theorem rnd_le (v : Nat) : rnd v ≤ 9218868437227405312 := Nat.min_le_right _ _
theorem sgRnd_mono {a b : Int} (h : a ≤ b) : sgRnd a ≤ sgRnd b := by
  unfold sgRnd
  by_cases ha : a < 0 <;> by_cases hb : b < 0
  · rw [if_pos ha, if_pos hb]
    have := rnd_mono (show b.natAbs ≤ a.natAbs by omega)
    omega
  · rw [if_pos ha, if_neg hb]
    omega
  · omega
  · rw [if_neg ha, if_neg hb]
    have := rnd_mono (show a.natAbs ≤ b.natAbs by omega)
    omega
theorem valI_mono {x y : Nat} (h : skey x ≤ skey y) : valI x ≤ valI y := by
  rw [skey_sg, skey_sg] at h
  unfold valI
  have h1 := sg_compare (sgnB x) (sgnB y) (rung x) (rung y)
  rcases Int.lt_trichotomy (sg (sgnB x) (rung x)) (sg (sgnB y) (rung y)) with h2 | h2 | h2
  · rw [Int.compare_eq_lt.2 h2] at h1
    exact Int.le_of_lt (Int.compare_eq_lt.1 h1)
  · rw [Int.compare_eq_eq.2 h2] at h1
    exact Int.le_of_eq (Int.compare_eq_eq.1 h1)
  · omega
theorem word_key (s : Bool) (r : Nat) (h : r ≤ 9218868437227405312) : skey (Ieee.double.word s r) = sg s r ∧ ¬ isNan (Ieee.double.word s r) ∧ Ieee.double.word s r < 18446744073709551616 := by
  unfold Ieee.Format.word skey isNan rung sgnB sg
  rw [d_sw]
  cases s
  · have e1 : r % 9223372036854775808 = r := Nat.mod_eq_of_lt (by omega)
    have e2 : r / 9223372036854775808 = 0 := Nat.div_eq_of_lt (by omega)
    simp [e1, e2]
    omega
  · have e1 : (9223372036854775808 + r) % 9223372036854775808 = r := by omega
    have e2 : (9223372036854775808 + r) / 9223372036854775808 = 1 := by omega
    simp [e1, e2]
    omega
theorem word_inf (s : Bool) : skey (Ieee.double.word s 9218868437227405312) = sg s 9218868437227405312 := (word_key s _ (Nat.le_refl _)).1

theorem natAbs_mul_pow (a : Int) (k : Nat) : (a * ((2 ^ k : Nat) : Int)).natAbs = a.natAbs * 2 ^ k := by rw [Int.natAbs_mul, Int.natAbs_natCast]
/-- A sum of two finite words. -/
theorem add_finite (x y : Nat) (hx : rung x < 9218868437227405312) (hy : rung y < 9218868437227405312) :
    ∃ z, Ieee.double.add x y = some z ∧ ¬ isNan z ∧ skey z = sgRnd (valI x + valI y) ∧ z < 18446744073709551616 := by
  obtain ⟨m, i, e1, e2⟩ := read_finite x hx
  obtain ⟨n, j, e3, e4⟩ := read_finite y hy
  unfold Ieee.Format.add
  rw [e1, e3]
  unfold Ieee.Datum.sum
  simp only [Option.map_some]
  have hmin : min (-1074 + (i : Int)) (-1074 + (j : Int)) = -1074 + ((min i j : Nat) : Int) := by omega
  have k1 : (-1074 + (i : Int) - (-1074 + ((min i j : Nat) : Int))).toNat = i - min i j := by omega
  have k2 : (-1074 + (j : Int) - (-1074 + ((min i j : Nat) : Int))).toNat = j - min i j := by omega
  rw [hmin, k1, k2, signed_eq, signed_eq]
  have hv : (sg (sgnB x) (m * 2 ^ (i - min i j)) + sg (sgnB y) (n * 2 ^ (j - min i j))) * ((2 ^ min i j : Nat) : Int) = valI x + valI y := by
    unfold valI
    rw [Int.add_mul, ← sg_mul, ← sg_mul, Nat.mul_assoc, Nat.mul_assoc, ← Nat.pow_add, ← Nat.pow_add, Nat.sub_add_cancel (Nat.min_le_left i j), Nat.sub_add_cancel (Nat.min_le_right i j), e2, e4]
  generalize sg (sgnB x) (m * 2 ^ (i - min i j)) + sg (sgnB y) (n * 2 ^ (j - min i j)) = total at *
  generalize min i j = k at *
  refine ⟨_, rfl, ?_⟩
  unfold Ieee.Format.write
  simp only
  rw [nearest_rnd, ← hv]
  have hr := rnd_le (total.natAbs * 2 ^ k)
  have ha := natAbs_mul_pow total k
  have hp : (0 : Int) < ((2 ^ k : Nat) : Int) := by have := Nat.two_pow_pos k; omega
  obtain ⟨w1, w2, w3⟩ := word_key (if total = 0 then sgnB x && sgnB y else decide (total < 0)) (rnd (total.natAbs * 2 ^ k)) hr
  refine ⟨w2, ?_, w3⟩
  rw [w1]
  unfold sgRnd
  rw [ha]
  by_cases h0 : total = 0
  · subst h0
    simp [rnd_zero, sg]
  · rw [if_neg h0]
    by_cases hneg : total < 0
    · rw [if_pos (Int.mul_neg_of_neg_of_pos hneg hp)]
      simp [sg, hneg]
    · have : ¬ total * ((2 ^ k : Nat) : Int) < 0 := by
        have := Int.mul_nonneg (show 0 ≤ total by omega) (Int.le_of_lt hp)
        omega
      rw [if_neg this]
      simp [sg, hneg]
/-- An infinity on one side. -/
theorem add_inf_left (x y : Nat) (hx : rung x = 9218868437227405312) (hy : rung y < 9218868437227405312) : Ieee.double.add x y = some (Ieee.double.word (sgnB x) 9218868437227405312) := by
  obtain ⟨n, j, e3, e4⟩ := read_finite y hy
  unfold Ieee.Format.add
  rw [read_inf x hx, e3]
  rfl
theorem add_inf_right (x y : Nat) (hx : rung x < 9218868437227405312) (hy : rung y = 9218868437227405312) : Ieee.double.add x y = some (Ieee.double.word (sgnB y) 9218868437227405312) := by
  obtain ⟨n, j, e3, e4⟩ := read_finite x hx
  unfold Ieee.Format.add
  rw [read_inf y hy, e3]
  rfl
theorem add_inf_both (x y : Nat) (hx : rung x = 9218868437227405312) (hy : rung y = 9218868437227405312) : Ieee.double.add x y = if sgnB x = sgnB y then some (Ieee.double.word (sgnB x) 9218868437227405312) else none := by
  unfold Ieee.Format.add
  rw [read_inf x hx, read_inf y hy]
  unfold Ieee.Datum.sum
  simp only
  split
  · rfl
  · rfl
theorem skey_bound (x : Nat) (h : ¬ isNan x) : -9218868437227405312 ≤ skey x ∧ skey x ≤ 9218868437227405312 := by
  unfold isNan at h
  unfold skey
  split <;> omega

/-- ADDING ONE TO TWO KEEPS THEIR ORDER, where both sums are greater than what was added to. -/
theorem add_grows (t u d s1 s2 : Nat) (ht : ¬ isNan t) (hu : ¬ isNan u) (hd : ¬ isNan d) (hd0 : 0 < skey d) (h : skey t ≤ skey u)
    (h1 : Ieee.double.add t d = some s1) (h2 : Ieee.double.add u d = some s2) (g1 : skey t < skey s1) (g2 : skey u < skey s2) (n1 : ¬ isNan s1) (n2 : ¬ isNan s2) : skey s1 ≤ skey s2 := by
  have hnd : sgnB d = false := by
    unfold skey at hd0
    cases hs : sgnB d
    · rfl
    · rw [hs] at hd0
      simp at hd0
      omega
  have bt := skey_bound s1 n1
  have bu := skey_bound s2 n2
  by_cases hdi : rung d = 9218868437227405312
  · have hs2 : skey s2 = 9218868437227405312 := by
      by_cases hui : rung u = 9218868437227405312
      · rw [add_inf_both u d hui hdi] at h2
        split at h2
        · injection h2 with h2
          rw [← h2, word_inf]
          rename_i he
          rw [he, hnd]
          rfl
        · cases h2
      · rw [add_inf_right u d (by unfold isNan at hu; omega) hdi] at h2
        injection h2 with h2
        rw [← h2, word_inf, hnd]
        rfl
    omega
  · have hdf : rung d < 9218868437227405312 := by unfold isNan at hd; omega
    have hti : rung t ≠ 9218868437227405312 := by
      intro hti
      rw [add_inf_left t d hti hdf] at h1
      injection h1 with h1
      rw [← h1, word_inf, skey_sg, hti] at g1
      exact Int.lt_irrefl _ g1
    have hui : rung u ≠ 9218868437227405312 := by
      intro hui
      rw [add_inf_left u d hui hdf] at h2
      injection h2 with h2
      rw [← h2, word_inf, skey_sg, hui] at g2
      exact Int.lt_irrefl _ g2
    obtain ⟨z1, a1, _, a3, _⟩ := add_finite t d (by unfold isNan at ht; omega) hdf
    obtain ⟨z2, b1, _, b3, _⟩ := add_finite u d (by unfold isNan at hu; omega) hdf
    rw [h1] at a1
    rw [h2] at b1
    injection a1 with a1
    injection b1 with b1
    rw [a1, b1, a3, b3]
    have := valI_mono h
    exact sgRnd_mono (by omega)
end Go.Proofs.Ytpfcmfannkbipaa
end

section
set_option linter.unusedVariables false
set_option maxRecDepth 20000
namespace Go.Proofs.Ytpfcmfannkbipaa
open Go.RowKit Go.Deep

/-- A time's key: what is no number comes last. -/
def tk8 (t : Nat) : Int := if isNan t then 9223372036854775808 else skey t
theorem timesI_tk8 (t u : Nat) : timesI t u = ordI (tk8 t) (tk8 u) := by
  unfold timesI tk8
  by_cases ht : isNan t <;> by_cases hu : isNan u
  · simp only [if_pos ht, if_pos hu]
    rfl
  · simp only [if_pos ht, if_neg hu]
    have := skey_bound u hu
    rw [ordI_gt (by omega)]
  · simp only [if_neg ht, if_pos hu]
    have := skey_bound t ht
    rw [ordI_lt (by omega)]
  · simp only [if_neg ht, if_neg hu]
theorem ordI_ways8 (a b : Int) : (a < b ∧ ordI a b = -1) ∨ (a = b ∧ ordI a b = 0) ∨ (b < a ∧ ordI a b = 1) := by
  rcases Int.lt_trichotomy a b with h | h | h
  · exact .inl ⟨h, ordI_lt h⟩
  · exact .inr (.inl ⟨h, ordI_eq h⟩)
  · exact .inr (.inr ⟨h, ordI_gt h⟩)
def cmpK : List Int → List Int → Int
  | a :: r, b :: q => if ordI a b = 0 then cmpK r q else ordI a b
  | _, _ => 0
theorem cmpK_self : ∀ a : List Int, cmpK a a = 0
  | [] => rfl
  | x :: r => by unfold cmpK; rw [ordI_eq rfl, if_pos rfl]; exact cmpK_self r
theorem cmpK_rng : ∀ a b : List Int, cmpK a b = -1 ∨ cmpK a b = 0 ∨ cmpK a b = 1
  | [], _ => .inr (.inl rfl)
  | _ :: _, [] => .inr (.inl rfl)
  | x :: r, y :: q => by
    unfold cmpK
    split
    · exact cmpK_rng r q
    · rcases ordI_ways8 x y with h | h | h <;> omega
theorem cmpK_neg : ∀ a b : List Int, cmpK b a = -cmpK a b
  | [], [] => rfl
  | [], _ :: _ => rfl
  | _ :: _, [] => rfl
  | x :: r, y :: q => by
    unfold cmpK
    have ih := cmpK_neg r q
    rcases ordI_ways8 x y with ⟨h, e⟩ | ⟨h, e⟩ | ⟨h, e⟩
    · rw [e, ordI_gt h, if_neg (by decide), if_neg (by decide)]
      decide
    · rw [e, ordI_eq h.symm, if_pos rfl, if_pos rfl, ih]
    · rw [e, ordI_lt h, if_neg (by decide), if_neg (by decide)]
theorem cmpK_trans : ∀ a b c : List Int, a.length = b.length → b.length = c.length → (cmpK a b ≤ 0 → cmpK b c ≤ 0 → cmpK a c ≤ 0) ∧ (cmpK a b < 0 → cmpK b c ≤ 0 → cmpK a c < 0) ∧ (cmpK a b ≤ 0 → cmpK b c < 0 → cmpK a c < 0)
  | [], [], [], _, _ => by simp [cmpK]
  | x :: r, y :: q, z :: u, h1, h2 => by
    have ih := cmpK_trans r q u (by simpa using h1) (by simpa using h2)
    unfold cmpK
    rcases ordI_ways8 x y with ⟨a1, e1⟩ | ⟨a1, e1⟩ | ⟨a1, e1⟩ <;> rcases ordI_ways8 y z with ⟨a2, e2⟩ | ⟨a2, e2⟩ | ⟨a2, e2⟩ <;> rcases ordI_ways8 x z with ⟨a3, e3⟩ | ⟨a3, e3⟩ | ⟨a3, e3⟩ <;>
      first
        | (exfalso; omega)
        | (simp only [e1, e2, e3]; first | exact ih | simp)
/-- An event's key. -/
def keyE (a : Ev) : List Int := [tk8 a.1, a.2.2.2.1, a.2.1, a.2.2.1, a.2.2.2.2]
theorem cmpE_key (a b : Ev) : cmpE a b = cmpK (keyE a) (keyE b) := by
  have h5 : ∀ x : Int, firstNz [x] = if x = 0 then 0 else x := fun x => rfl
  unfold cmpE evL keyE
  rw [timesI_tk8]
  simp only [firstNz, cmpK]
theorem cmpE_self (a : Ev) : cmpE a a = 0 := by rw [cmpE_key]; exact cmpK_self _
theorem cmpE_neg (a b : Ev) : cmpE b a = -cmpE a b := by rw [cmpE_key, cmpE_key]; exact cmpK_neg _ _
theorem cmpE_rng (a b : Ev) : cmpE a b = -1 ∨ cmpE a b = 0 ∨ cmpE a b = 1 := by rw [cmpE_key]; exact cmpK_rng _ _
theorem cmpE_trans (a b c : Ev) : (cmpE a b ≤ 0 → cmpE b c ≤ 0 → cmpE a c ≤ 0) ∧ (cmpE a b < 0 → cmpE b c ≤ 0 → cmpE a c < 0) ∧ (cmpE a b ≤ 0 → cmpE b c < 0 → cmpE a c < 0) := by
  rw [cmpE_key, cmpE_key, cmpE_key]
  exact cmpK_trans _ _ _ rfl rfl
end Go.Proofs.Ytpfcmfannkbipaa
end
