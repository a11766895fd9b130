/- The law ModelCopies walked. No condition. -/
import Derived.Test.YtegegljpmelomaaCopy2
set_option linter.unusedVariables false
set_option maxRecDepth 20000
namespace Go.Proofs.Ytegegljpmelomaa
open Go.RowKit Go.Deep

attribute [local go_sem] run_store_float
theorem RowD.each {α : Type} {d : Dec α} {size : Nat} {w : World} {A : Option Addr} {L : List α} (h : RowD d size w A L) {x : α} (hx : x ∈ L) : ∃ a, d w a x := by
  obtain ⟨i, hi, rfl⟩ := List.getElem_of_mem hx
  obtain ⟨a, _, h'⟩ := h i _ (List.getElem?_eq_getElem hi)
  exact ⟨_, h'⟩
theorem mem_map_of {α β : Type} {f : α → β} {a b : List α} (h : a.map f = b.map f) {x : α} (hx : x ∈ a) : ∃ y ∈ b, f y = f x := by
  have : f x ∈ b.map f := by rw [← h]; exact List.mem_map_of_mem hx
  obtain ⟨y, hy, e⟩ := List.mem_map.1 this
  exact ⟨y, hy, e⟩
theorem OwnR.sl {α : Type} {d : Dec α} {enc : α → List Value} {ok : World → α → Prop} {e : TypeId} {size : Nat} (hsz : 0 < size) (hlen : ∀ x, (enc x).length = size) (hm : Makes d enc ok) {w : World} {B : Nat} {s : Sl α}
    (h : OwnR e size enc w B s.val s.L) (hok : ∀ x ∈ s.L, ok w x) : s.At d size w := by
  obtain ⟨t, hv, hL, hA⟩ := OwnR.at_ hsz hlen hm h hok
  have e : s = t := by
    obtain ⟨A, k, L⟩ := t
    obtain ⟨A', k', L'⟩ := s
    simp only [Sl.val] at hv hL
    injection hv with e1 e2 e3
    subst e1 e3 hL
    rfl
  rw [e]
  exact hA
/-- A model in memory of the call's own, its numbers such as the machine holds, lies where it should. -/
theorem OwnMd.at_ {B : Nat} {c m : Mdl} {w w0 : World} (h : OwnMd B c w) (hs : SameCon c m) (hm : m.At w0) : c.At w := by
  obtain ⟨m1, m2, m3, m4, m5, m6⟩ := hm
  refine ⟨by rw [hs.seed]; exact m1, by rw [hs.fin]; exact m2, ?_, ?_, ?_, ?_⟩
  · refine OwnR.sl (size := 1) (by decide) (fun _ => rfl) makes_fl h.dls fun x hx => ?_
    rw [hs.dl] at hx
    obtain ⟨a, ha⟩ := m3.1.each hx
    exact ha.2
  · refine OwnR.sl (size := 1) (by decide) (fun _ => rfl) (makes_sl InsAt 4) h.pls fun x hx => ?_
    obtain ⟨y, hy, e⟩ := mem_map_of hs.pl hx
    refine OwnR.sl (size := 4) (by decide) (fun _ => rfl) makes_ins (h.ps x hx) fun z hz => ?_
    rw [← e] at hz
    obtain ⟨a, ha⟩ := m4.1.each hy
    obtain ⟨b, hb⟩ := ha.2.1.each hz
    exact hb.2.2.2.2
  · refine OwnR.sl (size := 2) (by decide) (fun _ => rfl) makes_lp h.lls fun x hx => ?_
    obtain ⟨y, hy, e⟩ := mem_map_of hs.ll hx
    obtain ⟨a, ha⟩ := m5.1.each hy
    simp only [Prod.mk.injEq] at e
    refine ⟨by rw [← e.1]; exact ha.2.2.1, OwnR.sl (size := 1) (by decide) (fun _ => rfl) makes_int (h.ls x hx) fun z hz => ?_⟩
    rw [← e.2] at hz
    obtain ⟨b, hb⟩ := ha.2.2.2.1.each hz
    exact hb.2
  · refine OwnR.sl (size := 3) (by decide) (fun _ => rfl) makes_init h.ils fun x hx => ?_
    rw [hs.il] at hx
    obtain ⟨a, ha⟩ := m6.1.each hx
    exact ha.2.2.2
theorem mbox (w : World) (m : Mdl) (h : m.At w) : Blk (w.alloc (.cells #[.int .i64 m.seed, .float .f64 m.fin, m.dl.val, m.pl.val, m.ll.val, m.il.val] 28)) w.heap.size 28 #[.int .i64 m.seed, .float .f64 m.fin, m.dl.val, m.pl.val, m.ll.val, m.il.val] ∧
    Below w.heap.size w (w.alloc (.cells #[.int .i64 m.seed, .float .f64 m.fin, m.dl.val, m.pl.val, m.ll.val, m.il.val] 28)) := ⟨Blk.new w _ _, (Below.refl _ _).alloc (Nat.le_refl _) _⟩
theorem map_len_eq {α β : Type} {f : α → β} {a b : List α} (h : a.map f = b.map f) : a.length = b.length := by
  have := congrArg List.length h
  simpa using this
theorem eqL_of_map {α β : Type} {f : α → β} {g : α → α → Bool} (hg : ∀ x y, f x = f y → g x y = true) {a b : List α} (h : a.map f = b.map f) : eqL g a b = true := by
  unfold eqL
  rw [decide_eq_true (map_len_eq h), Bool.true_and, List.all_eq_true]
  intro p hp
  obtain ⟨i, hi, e⟩ := List.getElem_of_mem hp
  rw [List.getElem_zip] at e
  rw [← e]
  refine hg _ _ ?_
  have hi1 : i < a.length := by rw [List.length_zip] at hi; omega
  have hi2 : i < b.length := by rw [List.length_zip] at hi; omega
  have := congrArg (fun l => l[i]?) h
  simpa [hi1, hi2] using this
theorem sameB_con {c m : Mdl} (h : SameCon c m) : sameB c m = true := by
  unfold sameB
  rw [h.seed, h.fin, h.dl, h.il, fsame_eq, eqL_self fsame_eq, eqL_self initSame_self,
    eqL_of_map (f := fun s : Sl Ins4 => s.L) (fun x y e => by unfold progSame; rw [e]; exact eqL_self (by simp) _) h.pl,
    eqL_of_map (f := fun x : LP2 => (x.1, x.2.L)) (fun x y e => by
      simp only [Prod.mk.injEq] at e
      unfold lpSame
      rw [e.1, e.2, eqL_self (by simp)]
      simp) h.ll]
  simp
theorem all_of_map {α β : Type} {f : α → β} {g : α → Bool} (q : β → Bool) (hg : ∀ x, g x = q (f x)) {a b : List α} (h : a.map f = b.map f) : a.all g = b.all g := by
  have e : ∀ l : List α, l.all g = (l.map f).all q := fun l => by
    rw [List.all_map]
    congr 1
    funext x
    exact hg x
  rw [e, e, h]
theorem chkE_con {c m : Mdl} (h : SameCon c m) : chkE c = chkE m := by
  have hp := map_len_eq h.pl
  have hl := map_len_eq h.ll
  unfold chkE
  rw [chkB_eq, chkB_eq]
  have e1 : countsB c = countsB m := by unfold countsB; rw [h.dl, h.il, hp, hl]
  have e2 : c.pl.L.all (fun p => progB p.L) = m.pl.L.all (fun p => progB p.L) := all_of_map (f := fun s : Sl Ins4 => s.L) progB (fun _ => rfl) h.pl
  have e3 : c.ll.L.all (lpB m.pl.L.length) = m.ll.L.all (lpB m.pl.L.length) := all_of_map (f := fun x : LP2 => (x.1, x.2.L)) (fun q => decide (0 ≤ q.1 ∧ q.1 < m.pl.L.length ∧ q.2.length ≤ 8)) (fun _ => rfl) h.ll
  rw [e1, h.fin, h.dl, h.il, hp, hl, e2, e3]
theorem light_small {m : Mdl} (h : L05.lightB m = true) : m.small := by
  unfold L05.lightB at h
  simp only [Bool.and_eq_true, decide_eq_true_eq, List.all_eq_true] at h
  obtain ⟨⟨h1, h2, h3, h4⟩, h5, h6⟩ := h
  refine ⟨by omega, by omega, by omega, by omega, fun s hs => ?_, fun x hx => ?_⟩
  · have := h5 s hs
    omega
  · have := h6 x hx
    omega
theorem copies_dark (m : Mdl) (w : World) (h : m.At w) (q : L05.lightB m = false) : Calls Try.prog 6 #[m.val] w fun e w' => e = .returned (.bool true) ∧ Below w.heap.size w w' := by
  obtain ⟨hX, hb⟩ := mbox w m h
  have hli := L05.light_any m _ (h.below hb)
  rw [q] at hli
  obtain ⟨seed, fin, ⟨dA, dc, dl⟩, ⟨pA, pc, pl⟩, ⟨lA, lc, ll⟩, ⟨iA, ic, il⟩⟩ := m
  simp only [Sl.val, Mdl.val] at *
  clear h q
  go_enter Try.func6, Try.ntmps6
  go_wp2_with fail
  refine hli.mono ?_
  clear hli
  rintro e w1 ⟨rfl, hb1⟩
  go_wp2_with fail
  refine (awake05 _).mono ?_
  rintro e w2 ⟨rfl, hb2⟩
  go_wp2
  go_ret
  exact ⟨rfl, below_after (below_after hb hb1) hb2⟩
/-- What the worlds are like in which two models lie in boxes. -/
structure TwoC (w : World) (g g' : Nat) (m m' : Mdl) (W : World) : Prop where
  bel : Below w.heap.size w W
  x : Blk W g 28 #[.int .i64 m.seed, .float .f64 m.fin, m.dl.val, m.pl.val, m.ll.val, m.il.val]
  y : Blk W g' 28 #[.int .i64 m'.seed, .float .f64 m'.fin, m'.dl.val, m'.pl.val, m'.ll.val, m'.il.val]
  a : m.At W
  a' : m'.At W
theorem TwoC.out (w : World) (g g' : Nat) (m m' : Mdl) : Outlives (TwoC w g g' m m') := fun _ _ h hb => ⟨below_after h.bel hb, h.x.below hb h.x.lt, h.y.below hb h.y.lt, h.a.below hb, h.a'.below hb⟩
/-- A predicate behind a name, its worlds' facts in hand. -/
theorem TwoC.hidden (w : World) (g g' : Nat) (m m' : Mdl) (W0 : World) (h : TwoC w g g' m m' W0) :
    ∃ p : World → Prop, Outlives p ∧ p W0 ∧ Nonempty (Wo p) ∧ (∀ i : Wo p, TwoC w g g' m m' i.W) := ⟨TwoC w g g' m m', TwoC.out w g g' m m', h, ⟨⟨W0, h⟩⟩, fun i => i.ok⟩
theorem copies_light (m : Mdl) (w : World) (h : m.At w) (q : L05.lightB m = true) : Calls Try.prog 6 #[m.val] w fun e w' => e = .returned (.bool true) ∧ Below w.heap.size w w' := by
  obtain ⟨hX, hb⟩ := mbox w m h
  have hli := L05.light_any m _ (h.below hb)
  rw [q] at hli
  have hm := h.below hb
  have hcp := fun w (h : m.At w) => copy_any m w h (light_small q)
  have HM := hide h
  clear h q
  obtain ⟨seed, fin, ⟨dA, dc, dl⟩, ⟨pA, pc, pl⟩, ⟨lA, lc, ll⟩, ⟨iA, ic, il⟩⟩ := m
  simp only [Sl.val, Mdl.val] at hX hb hli hm ⊢
  go_enter Try.func6, Try.ntmps6
  go_wp2_with fail
  refine hli.mono ?_
  clear hli
  rintro e w1 ⟨rfl, hb1⟩
  have hX := hX.below hb1 hX.lt
  have hm := hm.below hb1
  have hb := below_after hb hb1
  clear hb1
  have k0 := hX.cell 0
  have k1 := hX.cell 1
  have k2 := hX.cell 2
  have k3 := hX.cell 3
  have k4 := hX.cell 4
  have k5 := hX.cell 5
  have HX := hide hX
  clear hX
  go_wp2_with fail
  refine (hcp _ hm).mono ?_
  clear hcp
  rintro e w2 ⟨⟨cseed, cfin, ⟨dA', dc', dl'⟩, ⟨pA', pc', pl'⟩, ⟨lA', lc', ll'⟩, ⟨iA', ic', il'⟩⟩, rfl, hsc, hO, hb2⟩
  have HSC := hide hsc
  have HO := hide hO
  have hb := below_after hb hb2
  have hX := HX.out.below hb2 HX.out.lt
  clear HX k0 k1 k2 k3 k4 k5 hsc hO
  have hm2 := hm.below hb2
  have hc2 := HO.out.at_ HSC.out HM.out
  have hbc := (Below.refl w2.heap.size w2).alloc (Nat.le_refl _) (.cells #[.int .i64 cseed, .float .f64 cfin, .slice dA' dl'.length dc', .slice pA' pl'.length pc', .slice lA' ll'.length lc', .slice iA' il'.length ic'] 28)
  have hT : TwoC w w.heap.size w2.heap.size ⟨seed, fin, ⟨dA, dc, dl⟩, ⟨pA, pc, pl⟩, ⟨lA, lc, ll⟩, ⟨iA, ic, il⟩⟩ ⟨cseed, cfin, ⟨dA', dc', dl'⟩, ⟨pA', pc', pl'⟩, ⟨lA', lc', ll'⟩, ⟨iA', ic', il'⟩⟩ (World.drew (w2.alloc (.cells #[.int .i64 cseed, .float .f64 cfin, .slice dA' dl'.length dc', .slice pA' pl'.length pc', .slice lA' ll'.length lc', .slice iA' il'.length ic'] 28))) :=
    ⟨below_after hb hbc.drew, hX.below hbc.drew hX.lt, (Blk.new w2 _ _).drew, hm2.below hbc.drew, hc2.below hbc.drew⟩
  have hch := fun w (h : Mdl.At w ⟨seed, fin, ⟨dA, dc, dl⟩, ⟨pA, pc, pl⟩, ⟨lA, lc, ll⟩, ⟨iA, ic, il⟩⟩) => check_any _ w h
  have hcc := fun w (h : Mdl.At w ⟨cseed, cfin, ⟨dA', dc', dl'⟩, ⟨pA', pc', pl'⟩, ⟨lA', lc', ll'⟩, ⟨iA', ic', il'⟩⟩) => check_any _ w h
  have hsm := fun w (h : Mdl.At w ⟨cseed, cfin, ⟨dA', dc', dl'⟩, ⟨pA', pc', pl'⟩, ⟨lA', lc', ll'⟩, ⟨iA', ic', il'⟩⟩) (h' : Mdl.At w ⟨seed, fin, ⟨dA, dc, dl⟩, ⟨pA, pc, pl⟩, ⟨lA, lc, ll⟩, ⟨iA, ic, il⟩⟩) => same_any _ _ w h h'
  have hrs := fun w (h : Mdl.At w ⟨cseed, cfin, ⟨dA', dc', dl'⟩, ⟨pA', pc', pl'⟩, ⟨lA', lc', ll'⟩, ⟨iA', ic', il'⟩⟩) (h' : Mdl.At w ⟨seed, fin, ⟨dA, dc, dl⟩, ⟨pA, pc, pl⟩, ⟨lA, lc, ll⟩, ⟨iA, ic, il⟩⟩) => rsame_any _ _ w h h'
  simp only [chkE_con HSC.out] at hcc
  simp only [sameB_con HSC.out] at hsm hrs
  generalize chkE ⟨seed, fin, ⟨dA, dc, dl⟩, ⟨pA, pc, pl⟩, ⟨lA, lc, ll⟩, ⟨iA, ic, il⟩⟩ = E at *
  obtain ⟨p, hO, h0, hne, hI⟩ := TwoC.hidden _ _ _ _ _ _ hT
  clear hT hbc hc2 hm2 hX hm
  simp only [Sl.val, Mdl.val] at *
  have k0 := fun i => (hI i).x.cell 0
  have j0 := fun i => (hI i).y.cell 0
  have k1 := fun i => (hI i).x.cell 1
  have j1 := fun i => (hI i).y.cell 1
  have k2 := fun i => (hI i).x.cell 2
  have j2 := fun i => (hI i).y.cell 2
  have k3 := fun i => (hI i).x.cell 3
  have j3 := fun i => (hI i).y.cell 3
  have k4 := fun i => (hI i).x.cell 4
  have j4 := fun i => (hI i).y.cell 4
  have k5 := fun i => (hI i).x.cell 5
  have j5 := fun i => (hI i).y.cell 5
  have HI := hide hI
  have HP := hide hO
  have H0 := hide h0
  clear hI hO h0 hb hb2
  simp only [Sl.val] at k0 k1 k2 k3 k4 k5 j0 j1 j2 j3 j4 j5
  go_wp2_with fail
  refine wp_region_quietC (by kernel_rfl) (by kernel_rfl) H0.out ?_
  repeat (go_big_quiet_step (first
    | (go_at_call 13; exact Calls.quietC HP.out (awake05 _))
    | (go_at_call 19; exact Calls.quietC HP.out (hsm _ (HI.out _).a' (HI.out _).a))
    | (go_at_call 20; exact Calls.quietC HP.out (hrs _ (HI.out _).a' (HI.out _).a))
    | (go_at_call 15; with_reducible exact Calls.quietC HP.out (hcc _ (HI.out _).a'))
    | (go_at_call 15; with_reducible exact Calls.quietC HP.out (hch _ (HI.out _).a))))
  refine wpQuiet_nil ?_
  intro _ hw'
  obtain ⟨i, rfl⟩ := hw'
  go_wp2
  go_ret
  exact ⟨ret_bool (by simp), (HI.out i).bel⟩
theorem copies_walk (m : Mdl) (w : World) (h : m.At w) : Calls Try.prog 6 #[m.val] w fun e w' => e = .returned (.bool true) ∧ Below w.heap.size w w' := by
  cases q : L05.lightB m
  · exact copies_dark m w h q
  · exact copies_light m w h q
end Go.Proofs.Ytegegljpmelomaa
