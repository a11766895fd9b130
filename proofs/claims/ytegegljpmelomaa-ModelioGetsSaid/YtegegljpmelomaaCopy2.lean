/- The walk of model.Copy. No condition but a size. -/
import Derived.Test.YtegegljpmelomaaCopy
import Derived.Deep.RegionLaw
set_option linter.unusedVariables false
set_option maxRecDepth 20000
namespace Go.Proofs.Ytegegljpmelomaa
open Go.RowKit Go.Deep

attribute [local go_sem] run_store_float
/-- A model in memory of the call's own. -/
structure OwnMd (B : Nat) (c : Mdl) (w : World) : Prop where
  dls : OwnR 22 1 encFl w B c.dl.val c.dl.L
  pls : OwnR 38 1 encSl w B c.pl.val c.pl.L
  ps : ∀ s ∈ c.pl.L, OwnR 34 4 encIns w B s.val s.L
  lls : OwnR 41 2 encLp w B c.ll.val c.ll.L
  ls : ∀ x ∈ c.ll.L, OwnR 3 1 encInt w B x.2.val x.2.L
  ils : OwnR 43 3 encInit w B c.il.val c.il.L
/-- What a model holds, wherever it lies. -/
structure SameCon (c m : Mdl) : Prop where
  seed : c.seed = m.seed
  fin : c.fin = m.fin
  dl : c.dl.L = m.dl.L
  pl : c.pl.L.map (·.L) = m.pl.L.map (·.L)
  ll : c.ll.L.map (fun x => (x.1, x.2.L)) = m.ll.L.map (fun x => (x.1, x.2.L))
  il : c.il.L = m.il.L
theorem OwnMd.setCell {B : Nat} {c : Mdl} {w : World} (h : OwnMd B c w) {p : Addr} (hp : p.block < B) (u : Value) : OwnMd B c (w.setCell p u) :=
  ⟨h.dls.setCell hp u, h.pls.setCell hp u, fun s hs => (h.ps s hs).setCell hp u, h.lls.setCell hp u, fun x hx => (h.ls x hx).setCell hp u, h.ils.setCell hp u⟩
theorem OwnMd.below {B : Nat} {c : Mdl} {w w' : World} (h : OwnMd B c w) (hb : Below w.heap.size w w') : OwnMd B c w' :=
  ⟨h.dls.below hb, h.pls.below hb, fun s hs => (h.ps s hs).below hb, h.lls.below hb, fun x hx => (h.ls x hx).below hb, h.ils.below hb⟩
def Copied (w : World) (m : Mdl) (e : Ending) (w' : World) : Prop := ∃ c : Mdl, e = .returned c.val ∧ SameCon c m ∧ OwnMd (w.heap.size + 3) c w' ∧ Below w.heap.size w w'
def CRelP (w : World) (M : Array Value) (seed : Int) (fin : Nat) (D : Value) (dl : List Nat) (pl : List (Sl Ins4)) (i : Value) (wr : World) : Prop :=
  ∃ (k : Nat) (cp : List (Sl Ins4)) (A : Option Addr) (c n : Nat), k ≤ pl.length ∧ i = .int .i64 k ∧ cp.map (·.L) = (pl.take k).map (·.L) ∧ cp.length = n ∧ CopyS w (w.heap.size + 3) M seed fin D (.slice A n c) (.slice none 0 0) (.slice none 0 0) dl cp [] wr
def CRelL (w : World) (M : Array Value) (seed : Int) (fin : Nat) (D P : Value) (dl : List Nat) (cp : List (Sl Ins4)) (ll : List LP2) (i : Value) (wr : World) : Prop :=
  ∃ (k : Nat) (cl : List LP2) (A : Option Addr) (c n : Nat), k ≤ ll.length ∧ i = .int .i64 k ∧ cl.map (fun x => (x.1, x.2.L)) = (ll.take k).map (fun x => (x.1, x.2.L)) ∧ cl.length = n ∧ CopyS w (w.heap.size + 3) M seed fin D P (.slice A n c) (.slice none 0 0) dl cp cl wr
theorem map_take_succ {α β : Type} (f : α → β) {L : List α} {k : Nat} {x : α} (hx : L[k]? = some x) {c : List α} {y : α} (hc : c.map f = (L.take k).map f) (hy : f y = f x) : (c ++ [y]).map f = (L.take (k + 1)).map f := by
  obtain ⟨hk, rfl⟩ := List.getElem?_eq_some_iff.1 hx
  rw [List.take_succ_eq_append_getElem hk, List.map_append, List.map_append, hc]
  simp [hy]
theorem map_len {α β : Type} {f : α → β} {L : List α} {k : Nat} (hk : k ≤ L.length) {c : List α} (hc : c.map f = (L.take k).map f) : c.length = k := by
  have := congrArg List.length hc
  simpa [Nat.min_eq_left hk] using this
set_option maxHeartbeats 2000000 in
theorem copy_any (m : Mdl) (w : World) (h : m.At w) (hsm : m.small) : Calls Try.prog 21 #[m.val] w (Copied w m) := by
  have HC := hide (show ∀ c w', SameCon c m → OwnMd (w.heap.size + 3) c w' → Below w.heap.size w w' → Copied w m (.returned c.val) w' from fun c w' h1 h2 h3 => ⟨c, rfl, h1, h2, h3⟩)
  generalize Copied w m = Post at *
  obtain ⟨seed, fin, ⟨dA, dc, dl⟩, ⟨pA, pc, pl⟩, ⟨lA, lc, ll⟩, ⟨iA, ic, il⟩⟩ := m
  obtain ⟨_, _, hd, ⟨pr, p1, p2⟩, ⟨lr, l1, l2⟩, hi⟩ := h
  obtain ⟨z1, z2, z3, z4, z5, z6⟩ := hsm
  simp only [Sl.val, Mdl.val] at p1 p2 l1 l2 z1 z2 z3 z4 z5 z6 pr lr ⊢
  obtain ⟨⟨qA, qc, qL⟩, w1, hqL, hrun, hS, hc, hf⟩ := copy_begin w #[.int .i64 seed, .float .f64 fin, .slice dA dl.length dc, .slice pA pl.length pc, .slice lA ll.length lc, .slice iA il.length ic] seed fin ⟨dA, dc, dl⟩ hd z1 23 _ rfl
  simp only [Sl.val] at hqL hrun hS hc hf
  subst hqL
  have c0 := hS.box.cell 0
  have c1 := hS.box.cell 1
  have c2 := hS.box.cell 2
  have c3 := hS.box.cell 3
  have c4 := hS.box.cell 4
  have c5 := hS.box.cell 5
  have HS := hide hS
  clear hS
  go_enter Try.func21, Try.ntmps21
  go_wp2_with (at_builtin; go_must (refine wpList_of_append rfl _ w1 (.tmp 14) (.tmp 16) 23 _ _ _ rfl rfl rfl hrun ?_))
  clear hrun hc hf c0 c1 c2 c3 c4 c5
  go_loopw [22] (fun i wr => CRelP w #[.int .i64 seed, .float .f64 fin, .slice dA qL.length dc, .slice pA pl.length pc, .slice lA ll.length lc, .slice iA il.length ic] seed fin (.slice qA qL.length qc) qL pl i wr) (fun i _ => pl.length - (intOf i).toNat)
  case atStart => exact ⟨0, [], none, 0, 0, Nat.zero_le _, rfl, rfl, rfl, HS.out⟩
  case round =>
    clear HS
    obtain ⟨k, cp, PA, Pc, pn, hk, rfl, hmap, hpn, hS⟩ := hrel
    have HPN := hide hpn
    have hlen := map_len hk hmap
    by_cases hlt : k < pl.length
    · have hx := List.getElem?_eq_getElem hlt
      obtain ⟨a, rfl, h0, hs⟩ := (pr.below (SlAt.keeps InsAt.keeps 4) hS.bel) k _ hx
      rw [Nat.mul_one] at h0
      have hxl := z5 _ (List.mem_of_getElem? hx)
      generalize pl[k] = x at *
      have hSd := hS.drew
      obtain ⟨s, w2, ⟨QA, Qc, QL⟩, w3, hsL, hr1, hr2, hqL, _, hS1, hS2, hc, hf⟩ := hSd.addP x (hs.below InsAt.keeps (Below.refl _ _).drew) hxl (by omega) 38 24
      have HM := hide (map_take_succ (f := fun s : Sl Ins4 => s.L) hx hmap hsL)
      have hqn : QL.length = pn + 1 := by rw [show QL = _ from hqL]; simp; omega
      have HQN := hide (show (cp ++ [s]).length = pn + 1 by simp; omega)
      clear hqL
      obtain ⟨xA, xc, xl⟩ := x
      obtain ⟨sA, sc, sl⟩ := s
      simp only [Sl.val] at *
      rw [hqn] at hr2 hS2
      clear hqn hpn
      have HS2 := hide hS2
      have e3 := hSd.out.cell 3
      have e4 := hS1.out.cell 3
      have e5 := (hS1.out.alloc (.cells #[.slice sA sl.length sc] 38)).cell 3
      have kI : (k : Int) < (pl.length : Int) := by omega
      clear hmap hx hsL hs hS hS1 hS2 hlen hSd
      go_wp2_with fail
      go_region_law (first
        | (refine step_of_append rfl _ w2 (.const (.slice none 0 0)) (.tmp 28) 38 _ _ _ rfl rfl rfl hr1 ?_)
        | (refine step_of_append rfl _ w3 (.tmp 27) (.tmp 30) 24 _ _ _ rfl rfl rfl hr2 ?_))
      all_goals
        go_wp2
        go_roundw
        case rel => exact ⟨k + 1, _, QA, Qc, pn + 1, by omega, by go_num, HM.out, HQN.out, HS2.out⟩
        case measure => simp [intOf]; omega
    · obtain rfl : k = pl.length := by omega
      have HMP := hide (show cp.map (·.L) = pl.map (·.L) by rw [hmap, List.take_length])
      have c0 := hS.box.cell 0
      have c1 := hS.box.cell 1
      have c2 := hS.box.cell 2
      have c3 := hS.box.cell 3
      have c4 := hS.box.cell 4
      have c5 := hS.box.cell 5
      have HS := hide hS
      clear hmap hlen hS hpn
      go_wp2_with fail
      clear c0 c1 c2 c3 c4 c5
      go_loopw [37] (fun i wr => CRelL w #[.int .i64 seed, .float .f64 fin, .slice dA qL.length dc, .slice pA pl.length pc, .slice lA ll.length lc, .slice iA il.length ic] seed fin (.slice qA qL.length qc) (.slice PA pn Pc) qL cp ll i wr) (fun i _ => ll.length - (intOf i).toNat)
      case atStart => exact ⟨0, [], none, 0, 0, Nat.zero_le _, rfl, rfl, rfl, HS.out⟩
      case round =>
        clear HS
        obtain ⟨k, cl, LA, Lc, ln, hk, rfl, hmap, hln, hS⟩ := hrel
        have HLN := hide hln
        have hlen := map_len hk hmap
        by_cases hlt : k < ll.length
        · have hx := List.getElem?_eq_getElem hlt
          obtain ⟨a, rfl, h0, h1, _, hs⟩ := (lr.below LpAt.keeps hS.bel) k _ hx
          have hxl := z6 _ (List.mem_of_getElem? hx)
          generalize ll[k] = x at *
          obtain ⟨xp, ⟨xA, xc, xl⟩⟩ := x
          simp only [Sl.val] at h0 h1 hxl
          have hSd := (hS.below ((Below.refl _ _).alloc (Nat.le_refl _) (.cells #[.int .i64 xp, .slice xA xl.length xc] 41))).drew
          have hbx := ((Below.refl wr.heap.size wr).alloc (Nat.le_refl _) (.cells #[.int .i64 xp, .slice xA xl.length xc] 41)).drew
          have hX := (Blk.new wr 41 #[.int .i64 xp, .slice xA xl.length xc]).drew
          obtain ⟨⟨sA, sc, sl⟩, w2, ⟨QA, Qc, QL⟩, w3, hsL, hr1, hr2, hqL, hbw, hS1, hS2, hc, hf⟩ := hSd.addL xp ⟨xA, xc, xl⟩ (hs.below IntAt.keeps hbx) hxl (by omega) 39 25
          simp only at hsL
          subst hsL
          have HM := hide (map_take_succ (f := fun x : LP2 => (x.1, x.2.L)) hx hmap (y := (xp, ⟨sA, sc, sl⟩)) rfl)
          have hqn : QL.length = ln + 1 := by rw [show QL = _ from hqL]; simp; omega
          have HQN := hide (show (cl ++ [((xp, ⟨sA, sc, sl⟩) : LP2)]).length = ln + 1 by simp; omega)
          clear hqL
          simp only [Sl.val] at *
          rw [hqn] at hr2 hS2
          clear hqn hln
          have HS2 := hide hS2
          have e3 := hSd.out.cell 4
          have e4 := hS1.out.cell 4
          have e5 := (hS1.out.alloc (.cells #[.int .i64 xp, .slice sA sl.length sc] 41)).cell 4
          have x0 := hX.cell 0
          have x1 := hX.cell 1
          have y0 := keepc hbw x0
          have y1 := keepc hbw x1
          clear hmap hx hs hS hS1 hS2 hlen hSd hX hbx hbw
          go_wp2_with fail
          go_region_law (first
            | (refine step_of_append rfl _ w2 (.const (.slice none 0 0)) (.tmp 46) 39 _ _ _ rfl rfl rfl hr1 ?_)
            | (refine step_of_append rfl _ w3 (.tmp 42) (.tmp 49) 25 _ _ _ rfl rfl rfl hr2 ?_))
          all_goals
            go_wp2
            go_roundw
            case rel => exact ⟨k + 1, _, QA, Qc, ln + 1, by omega, by go_num, HM.out, HQN.out, HS2.out⟩
            case measure => simp [intOf]; omega
        · obtain rfl : k = ll.length := by omega
          have HML := hide (show cl.map (fun x => (x.1, x.2.L)) = ll.map (fun x => (x.1, x.2.L)) by rw [hmap, List.take_length])
          obtain ⟨⟨iA', ic', iL⟩, w2, hiL, hr1, hS2, hI, hc, hf⟩ := hS.addI ⟨iA, ic, il⟩ (hi.below InitAt.keeps hS.bel) z4 26
          simp only [Sl.val] at hiL hr1 hS2 hI hc hf
          subst hiL
          have c0 := hS.box.cell 0
          have c1 := hS.box.cell 1
          have c2 := hS.box.cell 2
          have c3 := hS.box.cell 3
          have c4 := hS.box.cell 4
          have c5 := hS.box.cell 5
          have o5 := hS.out.cell 5
          have d0 := hS2.out.cell 0
          have d1 := hS2.out.cell 1
          have d2 := hS2.out.cell 2
          have d3 := hS2.out.cell 3
          have d4 := hS2.out.cell 4
          have d5 := hS2.out.cell 5
          have r0 := hS2.res.cell 0
          have q0 := hS2.res.frozen 0
          have r1 := hS2.res.cell 1
          have q1 := hS2.res.frozen 1
          have r2 := hS2.res.cell 2
          have q2 := hS2.res.frozen 2
          have r3 := hS2.res.cell 3
          have q3 := hS2.res.frozen 3
          have r4 := hS2.res.cell 4
          have q4 := hS2.res.frozen 4
          have r5 := hS2.res.cell 5
          have q5 := hS2.res.frozen 5
          have HS2 := hide hS2
          have HI := hide hI
          clear hmap hlen hS hS2 hI hln
          go_wp2_with (at_builtin; go_must (refine wpList_of_append rfl _ w2 (.tmp 54) (.tmp 56) 26 _ _ _ rfl rfl rfl hr1 ?_))
          refine bodyPost_ret (v := .agg #[.int .i64 seed, .float .f64 fin, .slice qA qL.length qc, .slice PA pn Pc, .slice LA ln Lc, .slice iA' iL.length ic']) (by simp [results, Try.results21, go_sem, r0, r1, r2, r3, r4, r5]) rfl ?_
          have hpn := HPN.out
          have hln := HLN.out
          subst hpn hln
          have hS3 := HS2.out
          have hO : OwnMd (w.heap.size + 3) ⟨seed, fin, ⟨qA, qc, qL⟩, ⟨PA, Pc, cp⟩, ⟨LA, Lc, cl⟩, ⟨iA', ic', iL⟩⟩ _ := ⟨hS3.dls, hS3.pls, hS3.ps, hS3.lls, hS3.ls, HI.out⟩
          have hlt2 : w.heap.size + 1 < w.heap.size + 3 := by omega
          have hle2 : w.heap.size ≤ w.heap.size + 1 := by omega
          exact HC.out ⟨seed, fin, ⟨qA, qc, qL⟩, ⟨PA, Pc, cp⟩, ⟨LA, Lc, cl⟩, ⟨iA', ic', iL⟩⟩ _ ⟨rfl, rfl, rfl, HMP.out, HML.out, rfl⟩
            ((((((hO.setCell hlt2 _).setCell hlt2 _).setCell hlt2 _).setCell hlt2 _).setCell hlt2 _).setCell hlt2 _)
            ((((((hS3.bel.setCell hle2 _).setCell hle2 _).setCell hle2 _).setCell hle2 _).setCell hle2 _).setCell hle2 _)
end Go.Proofs.Ytegegljpmelomaa
