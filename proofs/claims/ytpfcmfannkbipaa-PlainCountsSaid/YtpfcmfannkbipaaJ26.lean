/- Texts of this claim in one. No condition. -/
import Derived.Test.YtpfcmfannkbipaaJ24
import Derived.Test.YtpfcmfannkbipaaJ25
section
set_option linter.unusedVariables false
set_option linter.unusedSimpArgs false
set_option maxRecDepth 20000
namespace Go.Proofs.Ytpfcmfannkbipaa
open Go.RowKit Go.Deep
attribute [local go_sem] run_store_float
def stepNone : Value := .tuple #[.agg #[.float .f64 0, .int .i64 0, .int .i64 0, .int .i64 0, .int .i64 0, .int .i64 0], .bool false]
set_option maxHeartbeats 1000000 in
/-- Nothing waits: nothing is handled. -/
theorem step9_none (w0 w : World) (g : Nat) (m : Mdl) (S : Sl St) (W : Sl Ev) (D : Sl Dn) (h : Sim9 w0 g m S W D w) (h0 : W.L = []) :
    Calls Try.prog 63 #[.pointer (some ⟨g, 0, none⟩)] w fun x w' => x = .returned stepNone ∧ Below w.heap.size w w' := by
  obtain ⟨A, c, L⟩ := W
  simp only at h0
  subst h0
  have hg : w.cell? ⟨g, 7, none⟩ = some (.slice A 0 c) := h.box.cell 7
  have hlt := h.box.lt
  have hB0 := Below.refl w.heap.size w
  clear h
  go_enter Try.func63, Try.ntmps63
  go_upto_region 1 with fail
  have hX := Blk.new w 39 #[.float .f64 0, .int .i64 0, .int .i64 0, .int .i64 0, .int .i64 0, .int .i64 0]
  have hb := hB0.alloc (Nat.le_refl _) (.cells #[.float .f64 0, .int .i64 0, .int .i64 0, .int .i64 0, .int .i64 0, .int .i64 0] 39)
  have hg := keepc hb hg
  go_wp2_with fail
  generalize w.alloc (.cells #[.float .f64 0, .int .i64 0, .int .i64 0, .int .i64 0, .int .i64 0, .int .i64 0] 39) = W1 at *
  generalize hgw : w.heap.size = n at *
  have x0 := hX.cell 0
  have x1 := hX.cell 1
  have x2 := hX.cell 2
  have x3 := hX.cell 3
  have x4 := hX.cell 4
  have x5 := hX.cell 5
  simp only [List.getElem?_toArray, List.getElem?_cons_zero, List.getElem?_cons_succ] at x0 x1 x2 x3 x4 x5
  refine bodyPost_ret (v := stepNone) (by simp [results, Try.results63, go_sem, x0, x1, x2, x3, x4, x5, stepNone]) rfl ⟨rfl, hb⟩
/-- The first of a row of events, and the rest. -/
theorem tail_ev {w : World} {A : Option Addr} {c : Nat} {e : Ev} {r : List Ev} (hW : TRow 37 EvB 5 w ⟨A, c, e :: r⟩) :
    ∃ (a : Addr) (A2 : Option Addr) (c2 : Nat), A = some a ∧ EvB w a e ∧ (∀ X, (Instr.slice 65 (.slice A (e :: r).length c) (some (.int .i64 1)) none none).run Try.prog X = .ok (.slice A2 r.length c2) X) ∧ TRow 37 EvB 5 w ⟨A2, c2, r⟩ := by
  obtain ⟨hr, hn, hc⟩ := hW.at_
  simp only [List.length_cons] at hn hc
  obtain ⟨a, ha, h0⟩ := hr 0 e rfl
  simp only at ha
  subst ha
  have ea : a.add (0 * 5) = a := by rw [Nat.zero_mul]; unfold Addr.add; simp
  rw [ea] at h0
  refine ⟨a, if c = 1 then some a else some (a.add (1 * 5)), c - 1, rfl, h0, fun X => ?_, ?_⟩
  · rw [run_slice_l (ht := Try.underlying65) (kl := .i64) (l := 1) (h0 := by omega) (h1 := by simp only [List.length_cons]; omega)]
    rw [size_ev, Result.andThen_ok]
    unfold sliced
    rfl
  · by_cases h1 : c = 1
    · have hr0 : r = [] := List.eq_nil_of_length_eq_zero (by omega)
      subst hr0
      exact ⟨⟨fun i x hx => by simp at hx, by simp, by simp only; omega⟩, fun h => absurd h (by simp)⟩
    · rw [if_neg h1]
      have := hW.drop 1 (a := a) rfl (by simp)
      exact this
/-- What lies where behind R08.Handle in Step, its state in a box. -/
def RHanQ (w : World) (sw : Sl Int) (E : Int) (R : StP × List Ev × Int) (e : Ending) (w' : World) : Prop := ∃ (wA : Option Addr) (wc : Nat) (qA : Option Addr) (qc : Nat),
  e = .returned (.tuple #[.agg #[.slice wA R.1.1.length wc, .int .i64 R.1.2.1, .int .i64 R.1.2.2], .slice qA R.2.1.length qc, .int .i64 R.2.2, .int .i64 E]) ∧
  Hid ((⟨wA, wc, R.1.1⟩ : Sl Int) = sw ∨ OwnR 3 1 encInt w' w.heap.size (.slice wA R.1.1.length wc) R.1.1) ∧ Hid (OwnR 37 5 encEv w' w.heap.size (.slice qA R.2.1.length qc) R.2.1) ∧ Hid (∀ z ∈ R.1.1, I64 z) ∧ Below w.heap.size w w'
theorem rhanQ {w w' : World} {sw : Sl Int} {E : Int} {R : StP × List Ev × Int} {e : Ending} (h : RHanW w sw E R e w') : RHanQ w sw E R e w' := by
  obtain ⟨⟨wA, wc, wL⟩, ⟨qA, qc, qL⟩, rfl, h1, h2, hz, _, hb, h5, h6⟩ := h
  simp only at h1 h2
  subst h1 h2
  refine ⟨wA, wc, qA, qc, rfl, hide h5, hide h6, hide fun z hzz => ?_, hb⟩
  obtain ⟨i, hi⟩ := List.mem_iff_getElem?.1 hzz
  obtain ⟨_, _, h⟩ := hz.1 i z hi
  exact h.2
def StC (W0 : World) (sw : Sl Int) (R : StP × List Ev × Int) (x l f : Value) (wx : World) : Prop := ∃ (gx : Nat) (wA : Option Addr) (wk : Nat) (qA : Option Addr) (qc : Nat), x = .pointer (some ⟨gx, 0, none⟩) ∧ l = .slice qA R.2.1.length qc ∧ f = .int .i64 R.2.2 ∧ W0.heap.size ≤ gx ∧
  Blk wx gx 61 #[.slice wA R.1.1.length wk, .int .i64 R.1.2.1, .int .i64 R.1.2.2] ∧ ((⟨wA, wk, R.1.1⟩ : Sl Int) = sw ∨ OwnR 3 1 encInt wx W0.heap.size (.slice wA R.1.1.length wk) R.1.1) ∧ OwnR 37 5 encEv wx W0.heap.size (.slice qA R.2.1.length qc) R.2.1 ∧ (∀ z ∈ R.1.1, I64 z) ∧ Below W0.heap.size W0 wx
theorem stC_late {W0 wR : World} {sw : Sl Int} {wA qA : Option Addr} {wc qc : Nat} {R : StP × List Ev × Int} (hz : ∀ z ∈ R.1.1, I64 z) (hb : Below W0.heap.size W0 wR) (h1 : (⟨wA, wc, R.1.1⟩ : Sl Int) = sw ∨ OwnR 3 1 encInt wR W0.heap.size (.slice wA R.1.1.length wc) R.1.1) (h2 : OwnR 37 5 encEv wR W0.heap.size (.slice qA R.2.1.length qc) R.2.1) :
    StC W0 sw R (.pointer (some ⟨wR.heap.size, 0, none⟩)) (.slice qA R.2.1.length qc) (.int .i64 R.2.2) (wR.alloc (.cells #[.slice wA R.1.1.length wc, .int .i64 R.1.2.1, .int .i64 R.1.2.2] 61)) :=
  ⟨_, wA, wc, qA, qc, rfl, rfl, rfl, hb.size, Blk.new _ _ _, h1.imp id fun h => h.alloc _, h2.alloc _, hz, hb.alloc hb.size _⟩
theorem stC_first {W0 wR : World} {sw : Sl Int} {wA qA : Option Addr} {wc qc : Nat} {R : StP × List Ev × Int} {gx : Nat} {cs : Array Value} (hcs : cs.size = 3) (hg : W0.heap.size ≤ gx) (hX : Blk wR gx 61 cs) (hz : ∀ z ∈ R.1.1, I64 z) (hb : Below W0.heap.size W0 wR) (h1 : (⟨wA, wc, R.1.1⟩ : Sl Int) = sw ∨ OwnR 3 1 encInt wR (gx + 1) (.slice wA R.1.1.length wc) R.1.1) (h2 : OwnR 37 5 encEv wR (gx + 1) (.slice qA R.2.1.length qc) R.2.1) :
    StC W0 sw R (.pointer (some ⟨gx, 0, none⟩)) (.slice qA R.2.1.length qc) (.int .i64 R.2.2) (((wR.setCell ⟨gx, 0, none⟩ (.slice wA R.1.1.length wc)).setCell ⟨gx, 1, none⟩ (.int .i64 R.1.2.1)).setCell ⟨gx, 2, none⟩ (.int .i64 R.1.2.2)) := by
  have hlt : gx < gx + 1 := Nat.lt_succ_self gx
  refine ⟨gx, wA, wc, qA, qc, rfl, rfl, rfl, hg, ?_, h1.imp id fun h => ?_, ?_, hz, ?_⟩
  · have := ((hX.set_ 0 (.slice wA R.1.1.length wc)).set_ 1 (.int .i64 R.1.2.1)).set_ 2 (.int .i64 R.1.2.2)
    obtain ⟨l⟩ := cs
    match l, hcs with
    | [c0, c1, c2], _ => simpa using this
  · exact OwnR.lower (((h.setCell hlt _).setCell hlt _).setCell hlt _) (by omega)
  · exact OwnR.lower (((h2.setCell hlt _).setCell hlt _).setCell hlt _) (by omega)
  · exact ((hb.setCell hg _).setCell hg _).setCell hg _
/-- What a step leaves. -/
def Step9To (w0 w : World) (g : Nat) (m : Mdl) (S : Sl St) (D : Sl Dn) (e : Ev) (r : List Ev) (k : Nat) (R : StP × List Ev × Int) (x : Ending) (w' : World) : Prop := ∃ (S' : Sl St) (W' : Sl Ev) (D' : Sl Dn), x = .returned (.tuple #[.agg (dnC (dnOf e R.2.2)), .bool true]) ∧ Sim9 w0 g m S' W' D' w' ∧
  S'.L.map St.pl = (S.L.map St.pl).set k R.1 ∧ W'.L = R.2.1.foldl (fun W x => insP x W) r ∧ D'.L = D.L ++ [dnOf e R.2.2] ∧ w.grownBy w' (some g)
theorem insAll_len9 : ∀ (M L : List Ev), (M.foldl (fun W x => insP x W) L).length = L.length + M.length
  | [], L => rfl
  | y :: M, L => by
    have : ∀ (e : Ev) (L : List Ev), (insP e L).length = L.length + 1 := by
      intro e L
      induction L with
      | nil => rfl
      | cons z r ih =>
        unfold insP
        split
        · simp [ih]
        · simp
    rw [List.foldl_cons, insAll_len9 M, this, List.length_cons]; omega
set_option maxHeartbeats 2000000 in
theorem step9_some (w0 w : World) (g : Nat) (m : Mdl) (S : Sl St) (W : Sl Ev) (D : Sl Dn) (e : Ev) (r : List Ev) (sk : St) (h : Sim9 w0 g m S W D w) (h0 : W.L = e :: r) (hck : chkB m = true) (hok : EvOk e) (hd0 : 0 ≤ e.2.2.2.1) (hsk0 : S.L[e.2.2.2.1.toNat]? = some sk) (hs : r.length ≤ 90000) (hsS : S.L.length ≤ 1000000) (hsD : D.L.length ≤ 100000000) :
    Calls Try.prog 63 #[.pointer (some ⟨g, 0, none⟩)] w (Step9To w0 w g m S D e r e.2.2.2.1.toNat (hR m e.2.2.2.1 sk.pl e)) := by
  obtain ⟨et, es, en, ed, ep⟩ := e
  simp only at hd0 hsk0
  obtain ⟨k, rfl⟩ : ∃ k : Nat, ed = k := ⟨ed.toNat, by omega⟩
  rw [Int.toNat_natCast] at hsk0
  have hsk1 := List.mem_of_getElem? hsk0
  have hd1 : (k : Int) < S.L.length := by have := (List.getElem?_eq_some_iff.1 hsk0).1; omega
  simp only [Int.toNat_natCast]
  have HOW := hide h.bel.size
  have HRO := hide (hR_ok (lp := (k : Int)) (s := sk) (h.ms.below h.bel) ⟨(h.wds _ hsk1).1.at_, (h.wds _ hsk1).2⟩ hok)
  obtain ⟨Post, hPost⟩ : ∃ P, P = Step9To w0 w g m S D (et, es, en, (k : Int), ep) r k (hR m (k : Int) sk.pl (et, es, en, (k : Int), ep)) := ⟨_, rfl⟩
  rw [← hPost]
  have HPO := hide hPost
  clear hPost
  obtain ⟨A, c, L⟩ := W
  simp only at h0
  subst h0
  have hX := Blk.new w 39 #[.float .f64 0, .int .i64 0, .int .i64 0, .int .i64 0, .int .i64 0, .int .i64 0]
  have hb1 := (Below.refl w.heap.size w).alloc (Nat.le_refl _) (.cells #[.float .f64 0, .int .i64 0, .int .i64 0, .int .i64 0, .int .i64 0, .int .i64 0] 39)
  have hM1 := h.below hb1
  go_enter Try.func63, Try.ntmps63
  go_upto_region 1 with fail
  have hgn : g ≠ w.heap.size := Nat.ne_of_lt h.box.lt
  generalize w.alloc (.cells #[.float .f64 0, .int .i64 0, .int .i64 0, .int .i64 0, .int .i64 0, .int .i64 0] 39) = W1 at *
  obtain ⟨a, A2, c2, rfl, g0, hsl, hT⟩ := tail_ev hM1.wt
  have hg : W1.cell? ⟨g, 7, none⟩ = some (.slice (some a) ((et, es, en, (k : Int), ep) :: r).length c) := hM1.box.cell 7
  have hl : (0 : Int) < (((et, es, en, (k : Int), ep) :: r).length : Int) := by simp only [List.length_cons]; omega
  have hl2 : ((((et, es, en, (k : Int), ep) :: r).length : Int) == 0) = false := by simp; omega
  generalize ((et, es, en, (k : Int), ep) :: r).length = n at *
  have ea : a.add (0 * 5) = a := by rw [Nat.zero_mul]; unfold Addr.add; simp
  obtain ⟨e0, e1, e2, e3, e4⟩ := id g0
  simp only at e0 e1 e2 e3 e4
  generalize hne : w.heap.size = ne at *
  go_upto_region 4 with fail
  have hE := Blk.new W1 37 #[.float .f64 et, .int .i64 es, .int .i64 en, .int .i64 (k : Int), .int .i64 ep]
  have hb2 := (Below.refl W1.heap.size W1).alloc (Nat.le_refl _) (.cells #[.float .f64 et, .int .i64 es, .int .i64 en, .int .i64 (k : Int), .int .i64 ep] 37)
  have hM2 := hM1.below hb2
  have hX2 := hX.below hb2 hX.lt
  have hT2 := hT.below EvB.keeps hb2
  have hg2 := keepc hb2 hg
  have hf2 := hM2.box.frozen 7
  clear e0 e1 e2 e3 e4 hT hg hX hM1 g0
  generalize hgE : W1.heap.size = gE at *
  generalize W1.alloc (.cells #[.float .f64 et, .int .i64 es, .int .i64 en, .int .i64 (k : Int), .int .i64 ep] 37) = W2 at *
  have hM3 : Sim9 w0 g m S ⟨A2, c2, r⟩ D (W2.setCell ⟨g, 7, none⟩ (.slice A2 r.length c2)) := hM2.setW hT2
  have hgE1 : g ≠ gE := by rw [← hgE]; exact Nat.ne_of_lt (Nat.lt_of_lt_of_le (by rw [← hne] at hb1; exact h.box.lt) hb1.size)
  have hE3 := hE.far (p := ⟨g, 7, none⟩) (Ne.symm hgE1) (.slice A2 r.length c2)
  have hX3 := hX2.far (p := ⟨g, 7, none⟩) (Ne.symm hgn) (.slice A2 r.length c2)
  have hG3 : w.grownBy (W2.setCell ⟨g, 7, none⟩ (.slice A2 r.length c2)) (some g) := grown_set (below_after (hne ▸ hb1) (by rw [hgE]; exact hb2)) g 7 _
  have HG3 := hide hG3
  clear hG3
  go_upto_region 5 with fail
  generalize W2.setCell ⟨g, 7, none⟩ (.slice A2 r.length c2) = W3 at *
  clear hM2 hX2 hT2 hg2 hf2 hE hb2 h hb1 hsl
  obtain ⟨bS, hbS, t0⟩ := hM3.stT.at_.1 k _ hsk0
  have hws := hM3.wds _ hsk1
  obtain ⟨t0, t1, t2⟩ := t0
  have HRH := hide (fun W (hb : Below W3.heap.size W3 W) => Calls.mono (R := RHanW W sk.wd (hE m (k : Int) sk.pl (et, es, en, (k : Int), ep)) (hR m (k : Int) sk.pl (et, es, en, (k : Int), ep))) (rhandlew_any m (k : Int) sk (et, es, en, (k : Int), ep) W ((hM3.ms.below hM3.bel).below hb) ⟨hws.1.at_.below IntAt.keeps hb, hws.2⟩ hok hck) (fun _ _ h => rhanQ h))
  have b6 : W3.cell? ⟨g, 6, none⟩ = some (.slice (some bS) S.L.length S.c) := by rw [← hbS]; exact hM3.box.cell 6
  have HSS : Hid (∀ W', Below W3.heap.size W3 W' → (W'.cell? ⟨g, 0, none⟩ = some (.int .i64 m.seed) ∧ W'.cell? ⟨g, 1, none⟩ = some (.float .f64 m.fin) ∧ W'.cell? ⟨g, 2, none⟩ = some m.dl.val ∧ W'.cell? ⟨g, 3, none⟩ = some m.pl.val ∧ W'.cell? ⟨g, 4, none⟩ = some m.ll.val ∧ W'.cell? ⟨g, 5, none⟩ = some m.il.val ∧ W'.cell? ⟨g, 6, none⟩ = some (.slice (some bS) S.L.length S.c) ∧ W'.cell? ⟨gE, 0, none⟩ = some (.float .f64 et) ∧ W'.cell? ⟨gE, 1, none⟩ = some (.int .i64 es) ∧ W'.cell? ⟨gE, 2, none⟩ = some (.int .i64 en) ∧ W'.cell? ⟨gE, 3, none⟩ = some (.int .i64 k) ∧ W'.cell? ⟨gE, 4, none⟩ = some (.int .i64 ep) ∧ W'.cell? (bS.add (k * 3)) = some sk.wd.val ∧ W'.cell? ⟨(bS.add (k * 3)).block, (bS.add (k * 3)).off + 1, none⟩ = some (.int .i64 sk.sent) ∧ W'.cell? ⟨(bS.add (k * 3)).block, (bS.add (k * 3)).off + 2, none⟩ = some (.int .i64 sk.dice) ∧ Below W3.heap.size W3 W')) :=
    hide fun W' h => ⟨keepc h (hM3.box.cell 0), keepc h (hM3.box.cell 1), keepc h (hM3.box.cell 2), keepc h (hM3.box.cell 3), keepc h (hM3.box.cell 4), keepc h (hM3.box.cell 5), keepc h b6, keepc h (hE3.cell 0), keepc h (hE3.cell 1), keepc h (hE3.cell 2), keepc h (hE3.cell 3), keepc h (hE3.cell 4), keepc h t0, keepc h t1, keepc h t2, h⟩
  have hD : Below W3.heap.size W3 W3.drew := (Below.refl _ _).drew
  generalize hRe : hR m (k : Int) sk.pl (et, es, en, (k : Int), ep) = R at HRH
  generalize hE m (k : Int) sk.pl (et, es, en, (k : Int), ep) = F at HRH
  have HM3 := hide hM3
  have HE3 := hide hE3
  have HX3 := hide hX3
  have HWS := hide hws
  have HRe := hide hRe
  have HOK := hide hok
  have kL : (k : Int) < (S.L.length : Int) := hd1
  have kJ : (0 : Int) ≤ (k : Int) := hd0
  clear hM3 hE3 hX3 hws hRe hok t0 t1 t2 b6 hsk1 hbS hd0 hd1
  go_cut [5, 6, 7, 8] (fun x l f e wx => StC W3 sk.wd R x l f wx)
  case first =>
    go_region_held3 (fun W' => W'.cell? ⟨g, 0, none⟩ = some (.int .i64 m.seed) ∧ W'.cell? ⟨g, 1, none⟩ = some (.float .f64 m.fin) ∧ W'.cell? ⟨g, 2, none⟩ = some m.dl.val ∧ W'.cell? ⟨g, 3, none⟩ = some m.pl.val ∧ W'.cell? ⟨g, 4, none⟩ = some m.ll.val ∧ W'.cell? ⟨g, 5, none⟩ = some m.il.val ∧ W'.cell? ⟨g, 6, none⟩ = some (.slice (some bS) S.L.length S.c) ∧ W'.cell? ⟨gE, 0, none⟩ = some (.float .f64 et) ∧ W'.cell? ⟨gE, 1, none⟩ = some (.int .i64 es) ∧ W'.cell? ⟨gE, 2, none⟩ = some (.int .i64 en) ∧ W'.cell? ⟨gE, 3, none⟩ = some (.int .i64 k) ∧ W'.cell? ⟨gE, 4, none⟩ = some (.int .i64 ep) ∧ W'.cell? (bS.add (k * 3)) = some sk.wd.val ∧ W'.cell? ⟨(bS.add (k * 3)).block, (bS.add (k * 3)).off + 1, none⟩ = some (.int .i64 sk.sent) ∧ W'.cell? ⟨(bS.add (k * 3)).block, (bS.add (k * 3)).off + 2, none⟩ = some (.int .i64 sk.dice) ∧ Below W3.heap.size W3 W')
      (first
        | exact HSS.out _ hD
        | (go_split_ands; exact HSS.out _ (below_after (by assumption) hbR))
        | (go_split_ands; with_reducible exact HSS.out _ (Below.alloc (by assumption) (Below.size (by assumption)) _))
        | (go_split_ands; with_reducible exact HSS.out _ (Below.swap (by assumption) hsR hsR))
        | (go_split_ands; exact HSS.out _ (Below.setCell (Below.setCell (Below.setCell (by assumption) (by simp) _) (by simp) _) (by simp) _)))
      (first
        | (go_at_call 44; go_split_ands; refine (HRH.out _ (by assumption)).mono ?_; rintro e wR ⟨rA, rc, qA, qc, rfl, hr5, hr6, hr7, hbR⟩; have hsR := Nat.le_trans (Below.size (by assumption : Below W3.heap.size W3 _)) hbR.size; try (have hG : Blk wR W3.heap.size 61 #[.slice none 0 0, .int .i64 0, .int .i64 0] := Blk.below (by first | exact (Blk.new W3 _ _).drew | exact Blk.new W3.drew _ _) hbR (by simp); have g0 := hG.cell 0; have g1 := hG.cell 1; have g2 := hG.cell 2; have u0 := hG.frozen 0; have u1 := hG.frozen 1; have u2 := hG.frozen 2; simp only [List.getElem?_toArray, List.getElem?_cons_zero, List.getElem?_cons_succ] at g0 g1 g2)))
    all_goals go_split_ands
    all_goals (try go_wp2_with fail)
    all_goals go_meet
    all_goals first
      | (have hbb : Below W3.heap.size W3 wR := below_after (((Below.refl _ _).alloc (Nat.le_refl _) _).drew) hbR
         have h1 : (⟨rA, rc, R.1.1⟩ : Sl Int) = sk.wd ∨ OwnR 3 1 encInt wR (W3.heap.size + 1) (.slice rA R.1.1.length rc) R.1.1 := by have := hr5.out; simpa using this
         have h2 : OwnR 37 5 encEv wR (W3.heap.size + 1) (.slice qA R.2.1.length qc) R.2.1 := by have := hr6.out; simpa using this
         with_reducible exact stC_first rfl (Nat.le_refl _) (by assumption) hr7.out hbb h1 h2)
      | (have hbb : Below W3.heap.size W3 wR := below_after hD hbR
         have h1 : (⟨rA, rc, R.1.1⟩ : Sl Int) = sk.wd ∨ OwnR 3 1 encInt wR W3.heap.size (.slice rA R.1.1.length rc) R.1.1 := hr5.out
         have h2 : OwnR 37 5 encEv wR W3.heap.size (.slice qA R.2.1.length qc) R.2.1 := hr6.out
         with_reducible exact stC_late hr7.out hbb h1 h2)
  case rest =>
    obtain ⟨gx, wA, wk, qA, qc, rfl, rfl, rfl, hgx, hB, hW5, hQ6, hz7, hb4⟩ := hcut
    have hM4 := HM3.out.below hb4
    have hE4 := HE3.out.below hb4 HE3.out.lt
    have hX4 := HX3.out.below hb4 HX3.out.lt
    have hwd : TRow 3 IntAt 1 wc ⟨wA, wk, R.1.1⟩ := by
      rcases hW5 with h | h
      · rw [h]; exact HWS.out.1.below IntAt.keeps hb4
      · exact TRow.of_own (s := ⟨wA, wk, R.1.1⟩) (ok := fun _ z => I64 z) (by decide) (fun _ => rfl) makes_int h hz7
    have g6 : wc.cell? ⟨g, 6, none⟩ = some (.slice S.A S.L.length S.c) := hM4.box.cell 6
    have hba := (Below.refl wc.heap.size wc).alloc (Nat.le_refl _) (.cells #[] 61)
    have g6' := keepc hba g6
    obtain ⟨q, X1, hrun, hqL, hown, hbX⟩ := st_app (w := wc) (b := wc.heap.size) (T := S.L) (A := S.A) (c := S.c) hba (Blk.new wc _ _) (Nat.le_refl _) (RowD.reads (d := StB) (enc := encSt) (by decide) (fun _ => rfl) lays_stb (hM4.stT.below StB.keeps hba).at_.1) hsS 92
    go_upto_region 7 with (at_builtin; refine wpList_of_append rfl _ X1 (.tmp 54) (.tmp 58) 92 _ _ _ rfl rfl rfl hrun ?_)
    obtain ⟨qSA, qSc, qSL⟩ := q
    simp only at hqL
    subst hqL
    simp only [Sl.val] at hown ⊢
    have hE5 := hE4.below hbX hE4.lt
    have hB5 := hB.below hbX hB.lt
    have e3 := hE5.cell 3
    have b0 := hB5.cell 0
    have b1 := hB5.cell 1
    have b2 := hB5.cell 2
    simp only [List.getElem?_toArray, List.getElem?_cons_zero, List.getElem?_cons_succ] at e3 b0 b1 b2
    obtain ⟨gq, cur, hqA, hgq, hcurB, hcurS, hown2⟩ := OwnR.set3 (enc := encSt) (fun _ => rfl) hown (j := k) (by omega) ⟨⟨wA, wk, R.1.1⟩, R.1.2.1, R.1.2.2⟩ _ _ _ rfl
    subst hqA
    obtain ⟨z0, u0⟩ : ∃ z, X1.cell? ⟨gq, k * 3, none⟩ = some z := ⟨_, (hcurB.cell (k * 3)).trans (Array.getElem?_eq_getElem (by omega))⟩
    obtain ⟨z1, u1⟩ : ∃ z, X1.cell? ⟨gq, k * 3 + 1, none⟩ = some z := ⟨_, (hcurB.cell (k * 3 + 1)).trans (Array.getElem?_eq_getElem (by omega))⟩
    obtain ⟨z2, u2⟩ : ∃ z, X1.cell? ⟨gq, k * 3 + 2, none⟩ = some z := ⟨_, (hcurB.cell (k * 3 + 2)).trans (Array.getElem?_eq_getElem (by omega))⟩
    have v0 := hcurB.frozen (k * 3)
    have v1 := hcurB.frozen (k * 3 + 1)
    have v2 := hcurB.frozen (k * 3 + 2)
    have hb6 : Below wc.heap.size wc (((X1.setCell ⟨gq, k * 3, none⟩ (.slice wA R.1.1.length wk)).setCell ⟨gq, k * 3 + 1, none⟩ (.int .i64 R.1.2.1)).setCell ⟨gq, k * 3 + 2, none⟩ (.int .i64 R.1.2.2)) := ((hbX.setCell (p := ⟨gq, k * 3, none⟩) hgq _).setCell (p := ⟨gq, k * 3 + 1, none⟩) hgq _).setCell (p := ⟨gq, k * 3 + 2, none⟩) hgq _
    simp only [Sl.val] at hown2
    have HO2 := hide hown2
    have HB6 := hide hb6
    have HQ6 := hide hQ6
    have HWD := hide hwd
    have HB4 := hide hb4
    have HM4 := hide hM4
    have HE4 := hide hE4
    have HX4 := hide hX4
    clear hown2 hb6 hQ6 hwd hb4 hM4 hE4 hX4 hB hE5 hB5 hown hcurB hcurS hrun hbX hba g6 g6' hW5 hz7
    go_upto_region 8 with fail
    generalize World.setCell (World.setCell (World.setCell X1 _ _) _ _) _ _ = W6 at *
    clear e3 b0 b1 b2 u0 u1 u2 v0 v1 v2
    have hM6 := HM4.out.below HB6.out
    have hE6 := HE4.out.below HB6.out HE4.out.lt
    have hX6 := HX4.out.below HB6.out HX4.out.lt
    have hO6 := HO2.out.lower (N := w0.heap.size) (Nat.le_trans HM4.out.bel.size (Nat.le_refl _))
    have hwd6 := HWD.out.below IntAt.keeps HB6.out
    have hro := HRO.out
    rw [HRe.out] at hro
    have hM7 := hM6.setS (S' := ⟨some ⟨gq, 0, none⟩, qSc, S.L.set k ⟨⟨wA, wk, R.1.1⟩, R.1.2.1, R.1.2.2⟩⟩) hO6 (fun s hs => by
      rcases List.mem_or_eq_of_mem_set hs with h | h
      · exact hM6.wds s h
      · subst h
        exact ⟨hwd6, hro.si, hro.di⟩)
    simp only [Sl.val, List.length_set] at hM7
    have g6 := hM6.box.cell 6
    have f6 := hM6.box.frozen 6
    simp only [List.getElem?_toArray, List.getElem?_cons_zero, List.getElem?_cons_succ] at g6
    have hE7 := hE6.far (p := ⟨g, 6, none⟩) (Ne.symm hgE1) (.slice (some ⟨gq, 0, none⟩) S.L.length qSc)
    have hX7 := hX6.far (p := ⟨g, 6, none⟩) (Ne.symm hgn) (.slice (some ⟨gq, 0, none⟩) S.L.length qSc)
    have hQ7 := (HQ6.out.below HB6.out).far9 hM6.box (by decide) 6 (.slice (some ⟨gq, 0, none⟩) S.L.length qSc)
    have hG7 := gby_trans HG3.out (grown_set (below_after HB4.out HB6.out) g 6 (.slice (some ⟨gq, 0, none⟩) S.L.length qSc))
    have HM7 := hide hM7
    have HE7 := hide hE7
    have HX7 := hide hX7
    have HQ7 := hide hQ7
    have HG7 := hide hG7
    have hel := hro.el
    clear hM6 hE6 hX6 hO6 hwd6 hro hM7 hE7 hX7 hQ7 hG7 HE4 HX4 HM4 HB6 HB4 HQ6 HO2 HWD HM3 HE3 HX3 HG3 HSS HRH hD
    go_upto_region 9 with fail
    generalize World.setCell W6 _ _ = W7 at *
    clear g6 f6
    generalize hSL : S.L.set k ⟨⟨wA, wk, R.1.1⟩, R.1.2.1, R.1.2.2⟩ = SL at *
    have hSLm : SL.map St.pl = (S.L.map St.pl).set k R.1 := by
      rw [← hSL, List.map_set]; rfl
    have HSL := hide hSLm
    clear hSL hSLm
    obtain ⟨⟨r11, r12, r13⟩, r2, r3⟩ := R
    simp only at hel HQ7 HSL ⊢
    have hql : r2.length ≤ 9223372036854775807 := by omega
    go_wp2_with fail
    go_loopw [10] (fun i wr => ∃ (j : Nat) (W' : Sl Ev), j ≤ r2.length ∧ i = .int .i64 j ∧ W'.L = (r2.take j).foldl (fun W x => insP x W) r ∧ Sim9 w0 g m ⟨some ⟨gq, 0, none⟩, qSc, SL⟩ W' D wr ∧ W7.grownBy wr (some g)) (fun i _ => r2.length - (intOf i).toNat)
    case atStart => exact ⟨0, _, Nat.zero_le _, rfl, rfl, HM7.out, World.grownBy.refl _ _⟩
    case round =>
      obtain ⟨j, W', hj, rfl, hW', hMr, hGr⟩ := hrel
      by_cases hlt : j < r2.length
      · have hx := List.getElem?_eq_getElem hlt
        have hQr := World.ownsRow.kept HQ7.out hGr (.inr (own_blk_ne HQ7.out HM7.out.box (by decide)))
        obtain ⟨ax, hax, x0⟩ := (own_evb (q := ⟨qA, qc, r2⟩) hQr).1 j _ hx
        have hstep : ((r2.take (j + 1)).foldl (fun W x => insP x W) r) = insP r2[j] W'.L := by
          rw [List.take_succ_eq_append_getElem hlt, List.foldl_append, hW']
          rfl
        have hlen : W'.L.length ≤ 100000 := by
          rw [hW']
          have := insAll_len9 (r2.take j) r
          rw [this, List.length_take]
          omega
        have HPU := hide (put9 w0 wr g m _ W' D r2[j] hMr hlen)
        generalize r2[j] = x at *
        obtain ⟨xt, xs, xn, xd, xp⟩ := x
        obtain ⟨x0, x1, x2, x3, x4⟩ := x0
        simp only at x0 x1 x2 x3 x4 HPU hax
        subst hax
        have kI : (j : Int) < (r2.length : Int) := by omega
        have kJ : (0 : Int) ≤ (j : Int) := by omega
        have HST := hide hstep
        have HGR := hide hGr
        clear hx hQr hstep hlen hMr hW' hGr
        go_wp2_with fail
        refine HPU.out.mono ?_
        rintro e w' ⟨q', rfl, hq', hS', hg'⟩
        have HQ' := hide hq'
        have HS' := hide hS'
        have HG' := hide (gby_trans HGR.out hg')
        clear hq' hS' hg' x0 x1 x2 x3 x4 HPU
        go_wp2_with fail
        go_roundw
        case rel => exact ⟨j + 1, q', by omega, by go_num, HQ'.out.trans HST.out.symm, HS'.out, HG'.out⟩
        case measure => simp [intOf]; omega
      · obtain rfl : j = r2.length := by omega
        rw [List.take_length] at hW'
        have hEr := HE7.out.grown hGr (fun h => hgE1 (Option.some.inj h).symm)
        have hXr := HX7.out.grown hGr (fun h => hgn (Option.some.inj h).symm)
        obtain ⟨DA, Dc, DL⟩ := D
        simp only at hsD
        have HGR := hide (gby_trans HG7.out hGr)
        have HWL := hide hW'
        have HXR := hide hXr
        have HMR := hide hMr
        have e0 := hEr.cell 0
        have e1 := hEr.cell 1
        have e2 := hEr.cell 2
        have e3 := hEr.cell 3
        have e4 := hEr.cell 4
        simp only [List.getElem?_toArray, List.getElem?_cons_zero, List.getElem?_cons_succ] at e0 e1 e2 e3 e4
        have hwr : w.heap.size ≤ wr.heap.size := HGR.out.size
        clear hEr hXr hMr hGr hW' hlt hj HE7 HX7 HG7 HM7 HQ7
        go_upto_region 14 with fail
        have hDn := Blk.new wr 39 (dnC (dnOf (et, es, en, (k : Int), ep) r3))
        have hbd := (Below.refl wr.heap.size wr).alloc (Nat.le_refl _) (.cells (dnC (dnOf (et, es, en, (k : Int), ep) r3)) 39)
        have hM8 := HMR.out.below hbd
        have hX8 := HXR.out.below hbd HXR.out.lt
        have hgd : g ≠ wr.heap.size := Nat.ne_of_lt HMR.out.box.lt
        have hnd : ne ≠ wr.heap.size := Nat.ne_of_lt HXR.out.lt
        have hnw : w.heap.size ≤ ne := by omega
        have hG8 := gby_trans HGR.out (gby_below hbd g)
        change Code.wp _ _ _ _ (wr.alloc (.cells (dnC (dnOf (et, es, en, (k : Int), ep) r3)) 39))
        generalize wr.alloc (.cells (dnC (dnOf (et, es, en, (k : Int), ep) r3)) 39) = W8 at *
        generalize wr.heap.size = gd at *
        clear e0 e1 e2 e3 e4 hbd
        have BC := hide (fun (X : World) (hX : Below W8.heap.size W8 X) => (show X.cell? ⟨g, 8, none⟩ = some (.slice DA DL.length Dc) ∧ X.cell? ⟨gd, 0, none⟩ = some (.float .f64 et) ∧ X.cell? ⟨gd, 1, none⟩ = some (.int .i64 es) ∧ X.cell? ⟨gd, 2, none⟩ = some (.int .i64 en) ∧ X.cell? ⟨gd, 3, none⟩ = some (.int .i64 k) ∧ X.cell? ⟨gd, 4, none⟩ = some (.int .i64 ep) ∧ X.cell? ⟨gd, 5, none⟩ = some (.int .i64 r3) from
          ⟨keepc hX (hM8.box.cell 8), keepc hX (hDn.cell 0), keepc hX (hDn.cell 1), keepc hX (hDn.cell 2), keepc hX (hDn.cell 3), keepc hX (hDn.cell 4), keepc hX (hDn.cell 5)⟩))
        have HD9 := hide (fun (v : Value) (X : World) (hX : Below W8.heap.size W8 X) => (show (X.setCell ⟨g, 8, none⟩ v).cell? ⟨gd, 0, none⟩ = some (.float .f64 et) ∧ (X.setCell ⟨g, 8, none⟩ v).cell? ⟨gd, 1, none⟩ = some (.int .i64 es) ∧ (X.setCell ⟨g, 8, none⟩ v).cell? ⟨gd, 2, none⟩ = some (.int .i64 en) ∧ (X.setCell ⟨g, 8, none⟩ v).cell? ⟨gd, 3, none⟩ = some (.int .i64 k) ∧ (X.setCell ⟨g, 8, none⟩ v).cell? ⟨gd, 4, none⟩ = some (.int .i64 ep) ∧ (X.setCell ⟨g, 8, none⟩ v).cell? ⟨gd, 5, none⟩ = some (.int .i64 r3) from
          have h := (hDn.below hX hDn.lt).far (p := ⟨g, 8, none⟩) (Ne.symm hgd) v
          ⟨h.cell 0, h.cell 1, h.cell 2, h.cell 3, h.cell 4, h.cell 5⟩))
        have HX9 := hide (fun (v : Value) (X : World) (hX : Below W8.heap.size W8 X) => (show (X.setCell ⟨g, 8, none⟩ v).cell? ⟨ne, 0, none⟩ = some (.float .f64 0) ∧ (X.setCell ⟨g, 8, none⟩ v).cell? ⟨ne, 1, none⟩ = some (.int .i64 0) ∧ (X.setCell ⟨g, 8, none⟩ v).cell? ⟨ne, 2, none⟩ = some (.int .i64 0) ∧ (X.setCell ⟨g, 8, none⟩ v).cell? ⟨ne, 3, none⟩ = some (.int .i64 0) ∧ (X.setCell ⟨g, 8, none⟩ v).cell? ⟨ne, 4, none⟩ = some (.int .i64 0) ∧ (X.setCell ⟨g, 8, none⟩ v).cell? ⟨ne, 5, none⟩ = some (.int .i64 0) from
          have h := (hX8.below hX hX8.lt).far (p := ⟨g, 8, none⟩) (Ne.symm hgn) v
          ⟨h.cell 0, h.cell 1, h.cell 2, h.cell 3, h.cell 4, h.cell 5⟩))
        have HFX := hide (fun (v : Value) (X : World) (hX : Below W8.heap.size W8 X) => (show (X.setCell ⟨g, 8, none⟩ v).frozen? ⟨ne, 0, none⟩ = false ∧ (X.setCell ⟨g, 8, none⟩ v).frozen? ⟨ne, 1, none⟩ = false ∧ (X.setCell ⟨g, 8, none⟩ v).frozen? ⟨ne, 2, none⟩ = false ∧ (X.setCell ⟨g, 8, none⟩ v).frozen? ⟨ne, 3, none⟩ = false ∧ (X.setCell ⟨g, 8, none⟩ v).frozen? ⟨ne, 4, none⟩ = false ∧ (X.setCell ⟨g, 8, none⟩ v).frozen? ⟨ne, 5, none⟩ = false from
          have h := (hX8.below hX hX8.lt).far (p := ⟨g, 8, none⟩) (Ne.symm hgn) v
          ⟨h.frozen 0, h.frozen 1, h.frozen 2, h.frozen 3, h.frozen 4, h.frozen 5⟩))
        have FZ := hide (fun (X : World) (hX : Below W8.heap.size W8 X) => (show X.frozen? ⟨g, 8, none⟩ = false from (hM8.below hX).box.frozen 8))
        have HT8 := hide (fun (Y : World) (hY : Below W8.heap.size W8 Y) => (show Reads Y Y.heap.size 6 DA DL.length (DL.flatMap encDn) from RowD.reads (d := DnB) (enc := encDn) (by decide) (fun _ => rfl) lays_dnb (hM8.dnT.below DnB.keeps hY).at_.1))
        have HF := hide (fun (q : Sl Dn) (X : World) (hq : q.L = DL ++ [dnOf (et, es, en, (k : Int), ep) r3]) (ho : OwnR 39 6 encDn X W8.heap.size q.val q.L) (hX : Below W8.heap.size W8 X) =>
          (show Post (.returned (.tuple #[.agg #[.float .f64 et, .int .i64 es, .int .i64 en, .int .i64 k, .int .i64 ep, .int .i64 r3], .bool true])) (((((((X.setCell ⟨g, 8, none⟩ q.val).setCell ⟨ne, 0, none⟩ (.float .f64 et)).setCell ⟨ne, 1, none⟩ (.int .i64 es)).setCell ⟨ne, 2, none⟩ (.int .i64 en)).setCell ⟨ne, 3, none⟩ (.int .i64 k)).setCell ⟨ne, 4, none⟩ (.int .i64 ep)).setCell ⟨ne, 5, none⟩ (.int .i64 r3)) from by
            rw [HPO.out, HRe.out]
            have hs1 := (hM8.below hX).setD (D' := q) (ho.lower (N := w0.heap.size) (hM8.bel.size))
            have hb := (hX8.below hX hX8.lt).far (p := ⟨g, 8, none⟩) (Ne.symm hgn) q.val
            have hno : q.val.ownBlock ≠ some ne := fun h => by
              have h1 := ho.base _ h
              have h2 := hX8.lt
              omega
            have hlo : w0.heap.size ≤ ne := HOW.out
            refine ⟨_, _, q, rfl, (((((hs1.setX hlo hb hno 0 _).setX hlo (hb.set_ 0 _) hno 1 _).setX hlo ((hb.set_ 0 _).set_ 1 _) hno 2 _).setX hlo (((hb.set_ 0 _).set_ 1 _).set_ 2 _) hno 3 _).setX hlo ((((hb.set_ 0 _).set_ 1 _).set_ 2 _).set_ 3 _) hno 4 _).setX hlo (((((hb.set_ 0 _).set_ 1 _).set_ 2 _).set_ 3 _).set_ 4 _) hno 5 _, HSL.out, HWL.out, hq, ?_⟩
            have hg1 := gby_trans hG8 (grown_set hX g 8 q.val)
            exact only_setCell (only_setCell (only_setCell (only_setCell (only_setCell (only_setCell hg1 (.inr hnw) _) (.inr hnw) _) (.inr hnw) _) (.inr hnw) _) (.inr hnw) _) (.inr hnw) _))
        have B0 := hide (Below.refl W8.heap.size W8).drew
        clear hM8 hX8 hDn hG8 HMR HXR HGR HWL HSL HRO HRe HPO
        refine wp_region_orders (fun X => X.cell? ⟨g, 8, none⟩ = some (.slice DA DL.length Dc) ∧ X.cell? ⟨gd, 0, none⟩ = some (.float .f64 et) ∧ X.cell? ⟨gd, 1, none⟩ = some (.int .i64 es) ∧ X.cell? ⟨gd, 2, none⟩ = some (.int .i64 en) ∧ X.cell? ⟨gd, 3, none⟩ = some (.int .i64 k) ∧ X.cell? ⟨gd, 4, none⟩ = some (.int .i64 ep) ∧ X.cell? ⟨gd, 5, none⟩ = some (.int .i64 r3)) [0, 2, 3, 4, 5, 7] 10 4 [[1, 6, 8, 9], [1, 8, 6, 9], [8, 1, 6, 9]] (by kernel_rfl) (by kernel_rfl) (BC.out _ B0.out) ?_
        simp only [List.filterMap_cons, List.filterMap_nil, List.getElem?_cons_succ, List.getElem?_cons_zero, List.drop_succ_cons, List.drop_zero]
        repeat (refine head_step ?_ (by rfl) ?_ (fun _ _ _ h => h) ?_; rotate_left; (intro w' hs; obtain ⟨z8, z0, z1, z2, z3, z4, z5⟩ := hs; go_simp; (try with_reducible rfl)); (try simp only [Act.put, List.setIfInBounds_toArray, List.set_cons_zero, List.set_cons_succ]))
        refine head_nil ?_
        intro o ho
        simp only [List.mem_cons, List.not_mem_nil, or_false] at ho
        rcases ho with rfl | rfl | rfl
        all_goals simp only [List.filterMap_cons, List.filterMap_nil, List.getElem?_cons_succ, List.getElem?_cons_zero]
        · obtain ⟨q1, q2, X1, X2, hr1, hr2, hq2, ho2, hb1, hb2⟩ := dn_runs3 (V := W8) (X := W8.drew.alloc (.cells #[] 39)) (b := W8.heap.size) (x := dnOf (et, es, en, (k : Int), ep) r3) (c := Dc) (B0.out.alloc (Nat.le_refl _) _) (Blk.new W8.drew _ _) (Nat.le_refl _) HT8.out hsD 22
          refine mid_step _ (W8.drew.alloc (.cells #[] 39)) (by rfl) (by go_simp; first | rfl | exact ⟨rfl, rfl⟩) (BC.out _ (B0.out.alloc (Nat.le_refl _) _)) ?_
          simp only [Act.put, List.setIfInBounds_toArray, List.set_cons_zero, List.set_cons_succ]
          refine mid_append rfl _ X1 (.tmp 85) (.tmp 89) 22 _ _ _ rfl rfl rfl hr1 (BC.out _ hb1) ?_
          simp only [Act.put, List.setIfInBounds_toArray, List.set_cons_zero, List.set_cons_succ]
          refine mid_step _ (X1.alloc (.cells (dnC (dnOf (et, es, en, (k : Int), ep) r3)) 39)) (by rfl) (by go_simp; first | rfl | exact ⟨rfl, rfl⟩) (BC.out _ (hb1.alloc hb1.size _)) ?_
          simp only [Act.put, List.setIfInBounds_toArray, List.set_cons_zero, List.set_cons_succ]
          refine mid_append rfl _ X2 (.tmp 90) (.tmp 92) 22 _ _ _ rfl rfl rfl hr2 (BC.out _ hb2) ?_
          simp only [Act.put, List.setIfInBounds_toArray, List.set_cons_zero, List.set_cons_succ]
          refine mid_nil ?_
          have g8 := (BC.out _ hb2).1
          have f8 := FZ.out X2 hb2
          have HEND := hide (HF.out q2 X2 hq2 ho2 hb2)
          obtain ⟨y0, y1, y2, y3, y4, y5⟩ := HD9.out q2.val X2 hb2
          have ⟨x0, x1, x2, x3, x4, x5⟩ := HX9.out q2.val X2 hb2
          have ⟨fx0, fx1, fx2, fx3, fx4, fx5⟩ := HFX.out q2.val X2 hb2
          clear hr1 hr2 ho2 hb1 hb2 hq2 BC HF FZ HT8 HD9 HX9 HFX B0
          unfold Sl.val at HEND x0 x1 x2 x3 x4 x5 fx0 fx1 fx2 fx3 fx4 fx5 y0 y1 y2 y3 y4 y5 ⊢
          generalize q1.L.length = l1 at *
          generalize q2.L.length = l2 at *
          go_upto_region 15 with fail
          generalize World.setCell X2 _ _ = W9 at *
          clear g8 f8
          go_wp2_with fail
          refine bodyPost_ret (v := .tuple #[.agg #[.float .f64 et, .int .i64 es, .int .i64 en, .int .i64 k, .int .i64 ep, .int .i64 r3], .bool true]) (by simp [results, Try.results63, go_sem, x0, x1, x2, x3, x4, x5]) rfl ?_
          exact HEND.out
        · obtain ⟨q1, q2, X1, X2, hr1, hr2, hq2, ho2, hb1, hb2⟩ := dn_runs (V := W8) (X := (W8.drew.alloc (.cells #[] 39)).alloc (.cells (dnC (dnOf (et, es, en, (k : Int), ep) r3)) 39)) (b := W8.heap.size) (ge := W8.heap.size + 1) (x := dnOf (et, es, en, (k : Int), ep) r3) (c := Dc) ((B0.out.alloc (Nat.le_refl _) _).alloc (by simp) _) ((Blk.new W8.drew _ _).alloc _) (Nat.le_refl _) (by have := Blk.new (W8.drew.alloc (.cells #[] 39)) 39 (dnC (dnOf (et, es, en, (k : Int), ep) r3)); rwa [show (W8.drew.alloc (.cells #[] 39)).heap.size = W8.heap.size + 1 from Array.size_push ..] at this) (by omega) HT8.out hsD 22
          refine mid_step _ (W8.drew.alloc (.cells #[] 39)) (by rfl) (by go_simp; first | rfl | exact ⟨rfl, rfl⟩) (BC.out _ (B0.out.alloc (Nat.le_refl _) _)) ?_
          simp only [Act.put, List.setIfInBounds_toArray, List.set_cons_zero, List.set_cons_succ]
          refine mid_step _ ((W8.drew.alloc (.cells #[] 39)).alloc (.cells (dnC (dnOf (et, es, en, (k : Int), ep) r3)) 39)) (by rfl) (by go_simp; first | rfl | exact ⟨rfl, rfl⟩) (BC.out _ ((B0.out.alloc (Nat.le_refl _) _).alloc (by simp) _)) ?_
          simp only [Act.put, List.setIfInBounds_toArray, List.set_cons_zero, List.set_cons_succ]
          refine mid_append rfl _ X1 (.tmp 85) (.tmp 89) 22 _ _ _ rfl rfl rfl hr1 (BC.out _ hb1) ?_
          simp only [Act.put, List.setIfInBounds_toArray, List.set_cons_zero, List.set_cons_succ]
          refine mid_append rfl _ X2 (.tmp 90) (.tmp 92) 22 _ _ _ rfl rfl rfl hr2 (BC.out _ hb2) ?_
          simp only [Act.put, List.setIfInBounds_toArray, List.set_cons_zero, List.set_cons_succ]
          refine mid_nil ?_
          have g8 := (BC.out _ hb2).1
          have f8 := FZ.out X2 hb2
          have HEND := hide (HF.out q2 X2 hq2 ho2 hb2)
          obtain ⟨y0, y1, y2, y3, y4, y5⟩ := HD9.out q2.val X2 hb2
          have ⟨x0, x1, x2, x3, x4, x5⟩ := HX9.out q2.val X2 hb2
          have ⟨fx0, fx1, fx2, fx3, fx4, fx5⟩ := HFX.out q2.val X2 hb2
          clear hr1 hr2 ho2 hb1 hb2 hq2 BC HF FZ HT8 HD9 HX9 HFX B0
          unfold Sl.val at HEND x0 x1 x2 x3 x4 x5 fx0 fx1 fx2 fx3 fx4 fx5 y0 y1 y2 y3 y4 y5 ⊢
          generalize q1.L.length = l1 at *
          generalize q2.L.length = l2 at *
          go_upto_region 15 with fail
          generalize World.setCell X2 _ _ = W9 at *
          clear g8 f8
          go_wp2_with fail
          refine bodyPost_ret (v := .tuple #[.agg #[.float .f64 et, .int .i64 es, .int .i64 en, .int .i64 k, .int .i64 ep, .int .i64 r3], .bool true]) (by simp [results, Try.results63, go_sem, x0, x1, x2, x3, x4, x5]) rfl ?_
          exact HEND.out
        · obtain ⟨q1, q2, X1, X2, hr1, hr2, hq2, ho2, hb1, hb2⟩ := dn_runs (V := W8) (X := (W8.drew.alloc (.cells (dnC (dnOf (et, es, en, (k : Int), ep) r3)) 39)).alloc (.cells #[] 39)) (b := W8.heap.size + 1) (ge := W8.heap.size) (x := dnOf (et, es, en, (k : Int), ep) r3) (c := Dc) ((B0.out.alloc (Nat.le_refl _) _).alloc (by simp) _) (by have := Blk.new (W8.drew.alloc (.cells (dnC (dnOf (et, es, en, (k : Int), ep) r3)) 39)) 39 #[]; rwa [show (W8.drew.alloc (.cells (dnC (dnOf (et, es, en, (k : Int), ep) r3)) 39)).heap.size = W8.heap.size + 1 from Array.size_push ..] at this) (by omega) ((Blk.new W8.drew _ _).alloc _) (by omega) HT8.out hsD 22
          refine mid_step _ (W8.drew.alloc (.cells (dnC (dnOf (et, es, en, (k : Int), ep) r3)) 39)) (by rfl) (by go_simp; first | rfl | exact ⟨rfl, rfl⟩) (BC.out _ (B0.out.alloc (Nat.le_refl _) _)) ?_
          simp only [Act.put, List.setIfInBounds_toArray, List.set_cons_zero, List.set_cons_succ]
          refine mid_step _ ((W8.drew.alloc (.cells (dnC (dnOf (et, es, en, (k : Int), ep) r3)) 39)).alloc (.cells #[] 39)) (by rfl) (by go_simp; first | rfl | exact ⟨rfl, rfl⟩) (BC.out _ ((B0.out.alloc (Nat.le_refl _) _).alloc (by simp) _)) ?_
          simp only [Act.put, List.setIfInBounds_toArray, List.set_cons_zero, List.set_cons_succ]
          refine mid_append rfl _ X1 (.tmp 85) (.tmp 89) 22 _ _ _ rfl rfl rfl hr1 (BC.out _ hb1) ?_
          simp only [Act.put, List.setIfInBounds_toArray, List.set_cons_zero, List.set_cons_succ]
          refine mid_append rfl _ X2 (.tmp 90) (.tmp 92) 22 _ _ _ rfl rfl rfl hr2 (BC.out _ hb2) ?_
          simp only [Act.put, List.setIfInBounds_toArray, List.set_cons_zero, List.set_cons_succ]
          refine mid_nil ?_
          have g8 := (BC.out _ hb2).1
          have f8 := FZ.out X2 hb2
          have HEND := hide (HF.out q2 X2 hq2 ho2 hb2)
          obtain ⟨y0, y1, y2, y3, y4, y5⟩ := HD9.out q2.val X2 hb2
          have ⟨x0, x1, x2, x3, x4, x5⟩ := HX9.out q2.val X2 hb2
          have ⟨fx0, fx1, fx2, fx3, fx4, fx5⟩ := HFX.out q2.val X2 hb2
          clear hr1 hr2 ho2 hb1 hb2 hq2 BC HF FZ HT8 HD9 HX9 HFX B0
          unfold Sl.val at HEND x0 x1 x2 x3 x4 x5 fx0 fx1 fx2 fx3 fx4 fx5 y0 y1 y2 y3 y4 y5 ⊢
          generalize q1.L.length = l1 at *
          generalize q2.L.length = l2 at *
          go_upto_region 15 with fail
          generalize World.setCell X2 _ _ = W9 at *
          clear g8 f8
          go_wp2_with fail
          refine bodyPost_ret (v := .tuple #[.agg #[.float .f64 et, .int .i64 es, .int .i64 en, .int .i64 k, .int .i64 ep, .int .i64 r3], .bool true]) (by simp [results, Try.results63, go_sem, x0, x1, x2, x3, x4, x5]) rfl ?_
          exact HEND.out
end Go.Proofs.Ytpfcmfannkbipaa
end
