/- Texts of this claim in one. No condition. -/
import Derived.Test.YtpfcmfannkbipaaJ21
import Derived.Test.YtpfcmfannkbipaaJ22
import Derived.Test.YtpfcmfannkbipaaJ06
import Derived.Test.YtpfcmfannkbipaaJ07
section
set_option linter.unusedVariables false
set_option linter.unusedSimpArgs false
set_option maxRecDepth 20000
namespace Go.Proofs.Ytpfcmfannkbipaa
open Go.RowKit Go.Deep

attribute [local go_sem] run_store_float
theorem rcheck_any (m : Mdl) (w : World) (h : m.At w) : Calls Try.prog 43 #[m.val] w fun e w' => e = .returned (.int .i64 (chkE m)) ∧ Below w.heap.size w w' := by
  by_cases hn : isNan m.fin
  · exact rcheck_bad m w h (.inr hn)
  · cases hc : countsB m
    · exact rcheck_bad m w h (.inl hc)
    · exact rcheck_good m w h hc hn
theorem hE_parts {m : Mdl} {lp : Int} {s : StP} {e : Ev} (h : hE m lp s e = 0) : chkB m = true ∧ 0 ≤ lp ∧ lp < m.ll.L.length ∧ ¬ isNan e.1 ∧ s.1.length ≤ 8 ∧ (0 ≤ s.2.1 ∧ s.2.1 ≤ 1099511627776) ∧ (0 ≤ s.2.2 ∧ s.2.2 ≤ 1099511627776) := by
  unfold hE at h
  cases hc : chkB m
  · rw [hc] at h; simp at h
  · rw [hc, if_pos rfl] at h
    cases hb : mayB m lp s e
    · rw [hb] at h; simp at h
    · unfold mayB at hb
      simp only [Bool.and_eq_true, decide_eq_true_eq] at hb
      obtain ⟨⟨b1, b2, b3, b4⟩, b5, b6⟩ := hb
      exact ⟨rfl, b1, b2, b3, b4, cntB_yes b5, cntB_yes b6⟩
theorem hO_ok {m : Mdl} {lp : Int} {s : St} {e : Ev} {w : World} (hm : m.At w) (hs : s.At w) (he : EvOk e) (h : hE m lp s.pl e = 0) : OutOk s.wd.L.length m.ll.L.length (hO m lp s.pl e) := by
  obtain ⟨hchk, h0, h1, _, h8, hs0, hd0⟩ := hE_parts h
  obtain ⟨x, sp, hx, hsp, p0, p1, hx8, hmpl⟩ := chk_lp hchk h0 h1
  obtain ⟨hc1, hc2, hc3, hc4, hc5, hc6, hc7⟩ := chk_counts hchk
  obtain ⟨b, hb, b0, hspA⟩ := hm.2.2.2.1.1 _ sp hsp
  have hinp : Inp.At w ⟨s.wd, e.2.2.2.2, lp, m.ll.L.length, m.seed, s.dice⟩ := ⟨hs.1, he.2.2.2.2, ⟨by simp only; omega, by simp only; omega⟩, ⟨by simp only; omega, by simp only; omega⟩, hm.1, hs.2.2⟩
  have hok := out_ok hspA hinp
  have hOO : outV sp.L s.wd.L e.2.2.2.2 lp m.ll.L.length m.seed s.dice = hO m lp s.pl e := by unfold hO; rw [hmpl]; rfl
  rw [← hOO]
  exact hok
/-- What holds of what comes of an event. -/
structure HOk (R : StP × List Ev × Int) : Prop where
  wi : ∀ z ∈ R.1.1, I64 z
  si : I64 R.1.2.1
  di : I64 R.1.2.2
  el : R.2.1.length ≤ 4
theorem hR_ok {m : Mdl} {lp : Int} {s : St} {e : Ev} {w : World} (hm : m.At w) (hs : s.At w) (he : EvOk e) : HOk (hR m lp s.pl e) := by
  have hz : I64 0 := ⟨by decide, by decide⟩
  unfold hR
  by_cases h : hE m lp s.pl e = 0
  · rw [if_pos h]
    have ho := hO_ok hm hs he h
    obtain ⟨_, _, _, _, _, hs0, hd0⟩ := hE_parts h
    have hsW := sl_ints hs.1
    unfold hV
    split
    · exact ⟨hsW, hs.2.1, hs.2.2, by simp⟩
    · split
      · refine ⟨ho.wi, ?_, ho.di, Nat.le_trans (sndV_len _ _ _ _ _ _ 0) ho.s4⟩
        have := ho.s4
        simp only at hs0 ⊢
        exact ⟨by omega, by omega⟩
      · exact ⟨hsW, hs.2.1, hs.2.2, by simp⟩
  · rw [if_neg h]
    exact ⟨by simp, hz, hz, by simp⟩
/-- An event's cells, whatever they hold. -/
def EvB : Dec Ev := fun w p x => w.cell? p = some (.float .f64 x.1) ∧ w.cell? ⟨p.block, p.off + 1, none⟩ = some (.int .i64 x.2.1) ∧ w.cell? ⟨p.block, p.off + 2, none⟩ = some (.int .i64 x.2.2.1) ∧ w.cell? ⟨p.block, p.off + 3, none⟩ = some (.int .i64 x.2.2.2.1) ∧ w.cell? ⟨p.block, p.off + 4, none⟩ = some (.int .i64 x.2.2.2.2)
theorem EvB.keeps : EvB.keeps := fun _ _ _ _ hb h => ⟨keepc hb h.1, keepc hb h.2.1, keepc hb h.2.2.1, keepc hb h.2.2.2.1, keepc hb h.2.2.2.2⟩
theorem makes_evb : Makes EvB encEv (fun _ _ => True) := fun w g o x _ h => ⟨h 0 _ rfl, h 1 _ rfl, h 2 _ rfl, h 3 _ rfl, h 4 _ rfl⟩
theorem own_evb {W : World} {B : Nat} {q : Sl Ev} (h : OwnR 37 5 encEv W B q.val q.L) : q.At EvB 5 W := OwnR.sl (size := 5) (s := q) (by decide) (fun _ => rfl) makes_evb h (fun _ _ => trivial)
/-- act.Handle, what it hands back written out. -/
def HanW (w : World) (E : Int) (R : StP × List Ev × Int) (e : Ending) (w' : World) : Prop :=
  ∃ (wd : Sl Int) (q : Sl Ev), e = .returned (.tuple #[.agg #[wd.val, .int .i64 R.1.2.1, .int .i64 R.1.2.2], q.val, .int .i64 R.2.2, .int .i64 E]) ∧ wd.L = R.1.1 ∧ q.L = R.2.1 ∧ wd.At IntAt 1 w' ∧ q.At EvB 5 w' ∧ OwnR 3 1 encInt w' w.heap.size wd.val wd.L ∧ OwnR 37 5 encEv w' w.heap.size q.val q.L ∧ Below w.heap.size w w'
theorem handlew_any (m : Mdl) (lp : Int) (s : St) (e : Ev) (w : World) (hm : m.At w) (hs : s.At w) (he : EvOk e) :
    Calls Try.prog 41 #[m.val, .int .i64 lp, s.val, .agg #[.float .f64 e.1, .int .i64 e.2.1, .int .i64 e.2.2.1, .int .i64 e.2.2.2.1, .int .i64 e.2.2.2.2]] w (HanW w (hE m lp s.pl e) (hR m lp s.pl e)) := by
  refine (handle_any m lp s e w hm hs he).mono ?_
  rintro x w' ⟨⟨wd, a, b⟩, q, rfl, hpl, hqL, ho1, ho2, hb⟩
  have hok := hR_ok (lp := lp) hm hs he
  generalize hR m lp s.pl e = R at *
  obtain ⟨⟨r1, r2, r3⟩, r4, r5⟩ := R
  simp only [St.pl, Prod.mk.injEq] at hpl
  obtain ⟨rfl, rfl, rfl⟩ := hpl
  refine ⟨wd, q, rfl, rfl, hqL, ?_, own_evb ho2, ho1, ho2, hb⟩
  exact OwnR.sl (size := 1) (s := wd) (by decide) (fun _ => rfl) makes_int ho1 hok.wi
/-- R08.Handle, what it hands back written out. -/
def RHanW (w : World) (sw : Sl Int) (E : Int) (R : StP × List Ev × Int) (e : Ending) (w' : World) : Prop :=
  ∃ (wd : Sl Int) (q : Sl Ev), e = .returned (.tuple #[.agg #[wd.val, .int .i64 R.1.2.1, .int .i64 R.1.2.2], q.val, .int .i64 R.2.2, .int .i64 E]) ∧ wd.L = R.1.1 ∧ q.L = R.2.1 ∧ wd.At IntAt 1 w' ∧ q.At EvB 5 w' ∧ Below w.heap.size w w' ∧ (wd = sw ∨ OwnR 3 1 encInt w' w.heap.size wd.val wd.L) ∧ OwnR 37 5 encEv w' w.heap.size q.val q.L
theorem rhandlew_any (m : Mdl) (lp : Int) (s : St) (e : Ev) (w : World) (hm : m.At w) (hs : s.At w) (he : EvOk e) (hck : chkB m = true) :
    Calls Try.prog 44 #[m.val, .int .i64 lp, s.val, .agg #[.float .f64 e.1, .int .i64 e.2.1, .int .i64 e.2.2.1, .int .i64 e.2.2.2.1, .int .i64 e.2.2.2.2]] w (RHanW w s.wd (hE m lp s.pl e) (hR m lp s.pl e)) := by
  have key : Calls Try.prog 44 #[m.val, .int .i64 lp, s.val, .agg #[.float .f64 e.1, .int .i64 e.2.1, .int .i64 e.2.2.1, .int .i64 e.2.2.2.1, .int .i64 e.2.2.2.2]] w (RHanTo w s.wd (hE m lp s.pl e) (hR m lp s.pl e)) := by
    by_cases h : hE m lp s.pl e = 0
    · obtain ⟨k, rfl⟩ : ∃ k : Nat, lp = k := ⟨lp.toNat, by have := hE_lp h; omega⟩
      exact rhandle_good m k s e w hm hs he h
    · refine rhandle_bad m lp s e w hm hs hck ?_
      unfold hE at h
      rw [hck, if_pos rfl] at h
      cases hb : mayB m lp s.pl e
      · rfl
      · rw [hb] at h; simp at h
  refine key.mono ?_
  rintro x w' ⟨⟨wd, a, b⟩, q, rfl, hpl, hqL, ⟨ho1, ho3⟩, ho2, hb⟩
  generalize hR m lp s.pl e = R at *
  obtain ⟨⟨r1, r2, r3⟩, r4, r5⟩ := R
  simp only [St.pl, Prod.mk.injEq] at hpl
  obtain ⟨rfl, rfl, rfl⟩ := hpl
  exact ⟨wd, q, rfl, rfl, hqL, ho1, own_evb ho2, hb, ho3, ho2⟩
def SeRel (w : World) (n : Nat) (i : Value) (wr : World) : Prop := ∃ k : Nat, k ≤ n ∧ i = .int .i64 k ∧ Below w.heap.size w wr
set_option maxHeartbeats 1000000 in
/-- The very events are the same. -/
theorem sameev_self (s t : Sl Ev) (w : World) (hs : s.At EvB 5 w) (ht : t.At EvB 5 w) (he : s.L = t.L) : Calls Try.prog 45 #[s.val, t.val] w fun e w' => e = .returned (.bool true) ∧ Below w.heap.size w w' := by
  obtain ⟨A, c, L⟩ := s
  obtain ⟨A', c', L'⟩ := t
  simp only at he
  subst he
  obtain ⟨hr, hn, hc⟩ := hs
  obtain ⟨hr', hn', hc'⟩ := ht
  simp only [Sl.val] at *
  have hl : L.length ≤ 9223372036854775807 := by omega
  go_enter Try.func45, Try.ntmps45
  go_wp2_with fail
  go_loopw [5] (fun i wr => SeRel w L.length i wr) (fun i _ => L.length - (intOf i).toNat)
  case atStart => exact ⟨0, Nat.zero_le _, rfl, Below.refl _ _⟩
  case round =>
    obtain ⟨k, hk, rfl, hb⟩ := hrel
    by_cases hlt : k < L.length
    · have hx := List.getElem?_eq_getElem hlt
      obtain ⟨a, rfl, g0⟩ := (hr.below EvB.keeps hb) k _ hx
      obtain ⟨a', rfl, g0'⟩ := (hr'.below EvB.keeps hb) k _ hx
      have kI : (k : Int) < (L.length : Int) := by omega
      have kJ : (0 : Int) ≤ (k : Int) := by omega
      generalize L[k] = x at *
      obtain ⟨xt, xs, xn, xd, xp⟩ := x
      obtain ⟨p, hO, h0, hne, hI⟩ := bel_hidden wr wr.drew (Below.refl _ _).drew
      have k0 := fun i : Wo p => keepc (hI i) g0.1
      have k1 := fun i : Wo p => keepc (hI i) g0.2.1
      have k2 := fun i : Wo p => keepc (hI i) g0.2.2.1
      have k3 := fun i : Wo p => keepc (hI i) g0.2.2.2.1
      have k4 := fun i : Wo p => keepc (hI i) g0.2.2.2.2
      have j0 := fun i : Wo p => keepc (hI i) g0'.1
      have j1 := fun i : Wo p => keepc (hI i) g0'.2.1
      have j2 := fun i : Wo p => keepc (hI i) g0'.2.2.1
      have j3 := fun i : Wo p => keepc (hI i) g0'.2.2.2.1
      have j4 := fun i : Wo p => keepc (hI i) g0'.2.2.2.2
      simp only at k0 k1 k2 k3 k4 j0 j1 j2 j3 j4
      have d1 : (xd != xd) = false := by simp
      have d2 : (xp != xp) = false := by simp
      have HBI := hide (fun i : Wo p => below_after hb (hI i))
      have HP := hide hO
      have H0 := hide h0
      clear hI hO h0 hb hx g0 g0' hr hr'
      go_upto_region 6 with fail
      refine wp_region_quietC (by kernel_rfl) (by kernel_rfl) H0.out ?_
      repeat (go_big_quiet_step (first
        | (go_at_call 71; exact Calls.quietC HP.out (rsame02_self _ _ _ _))))
      refine wpQuiet_nil ?_
      intro _ hw'
      obtain ⟨i, rfl⟩ := hw'
      have hi := hide (HBI.out i)
      generalize i.W = W1 at *
      clear k0 k1 k2 k3 k4 j0 j1 j2 j3 j4 HBI HP H0 hne i
      go_wp2_with fail
      go_roundw
      case rel => exact ⟨k + 1, by omega, by go_num, hi.out⟩
      case measure => simp [intOf]; omega
    · obtain rfl : k = L.length := by omega
      clear hr hr'
      have HB := hide hb
      clear hb
      go_wp2_with fail
      go_ret
      exact ⟨rfl, HB.out⟩
def lightC (c : Cas) : Bool := L08.lightB c.m && decide (c.s.wd.L.length < 60)
theorem light8_any (c : Cas) (w : World) (h : c.At w) : Calls Try.prog 39 #[c.val] w fun e w' => e = .returned (.bool (lightC c)) ∧ Below w.heap.size w w' := by
  have hX := Blk.new w 63 c.cells
  have hb0 : Below w.heap.size w (w.alloc (.cells c.cells 63)) := (Below.refl _ _).alloc (Nat.le_refl _) _
  have hli := L08.light_any c.m _ (h.m.below hb0)
  have hl : lightC c = (L08.lightB c.m && decide (c.s.wd.L.length < 60)) := rfl
  rw [hl]
  generalize L08.lightB c.m = B at *
  have n1 := h.s.1.2
  clear hl h
  obtain ⟨⟨seed, fin, dl, pl, ll, il⟩, lp, ⟨⟨sA, sc, sl⟩, sent, dice⟩, e⟩ := c
  simp only [Cas.val, Cas.cells, Mdl.val, Sl.val] at *
  have q1 : sl.length ≤ 9223372036854775807 := by omega
  have HL := hide hli
  have HB := hide hb0
  clear hli hb0 n1
  have x0 := hX.cell 0
  have x1 := hX.cell 1
  have x2 := hX.cell 2
  have x3 := hX.cell 3
  have x4 := hX.cell 4
  have x5 := hX.cell 5
  have x6 := hX.cell 6
  have x7 := hX.cell 7
  have x8 := hX.cell 8
  have x9 := hX.cell 9
  have x10 := hX.cell 10
  have x11 := hX.cell 11
  have x12 := hX.cell 12
  have x13 := hX.cell 13
  have x14 := hX.cell 14
  simp only [List.getElem?_toArray, List.getElem?_cons_zero, List.getElem?_cons_succ] at x0 x1 x2 x3 x4 x5 x6 x7 x8 x9 x10 x11 x12 x13 x14
  go_enter Try.func39, Try.ntmps39
  go_upto_region 1 with fail
  generalize World.alloc w _ = w0 at *
  go_wp2_with fail
  refine HL.out.mono ?_
  rintro e w1 ⟨rfl, hb1⟩
  have x7 := keepc hb1 x7
  have HE := hide (below_after HB.out hb1)
  clear hX hb1 HL HB x0 x1 x2 x3 x4 x5 x6 x8 x9 x10 x11 x12 x13 x14
  cases B
  · go_wp2_with fail
    go_ret
    exact ⟨rfl, HE.out⟩
  · by_cases hq : sl.length < 60
    · have HH := hide (show (true && decide (sl.length < 60)) = true by rw [decide_eq_true hq]; rfl)
      have d1 : decide ((sl.length : Int) < 60) = true := decide_eq_true (by omega)
      go_wp2_with fail
      go_ret
      exact ⟨ret_bool HH.out.symm, HE.out⟩
    · have HH := hide (show (true && decide (sl.length < 60)) = false by rw [decide_eq_false hq]; rfl)
      have d1 : decide ((sl.length : Int) < 60) = false := decide_eq_false (by omega)
      clear hq
      go_wp2_with fail
      go_ret
      exact ⟨ret_bool HH.out.symm, HE.out⟩
end Go.Proofs.Ytpfcmfannkbipaa
end

section
set_option linter.unusedVariables false
set_option linter.unusedSimpArgs false
set_option maxRecDepth 20000
namespace Go.Proofs.Ytpfcmfannkbipaa
open Go.RowKit Go.Deep

/-- What is said of an element hangs on its own block's cells alone. -/
def Dec.local_ {α : Type} (d : Dec α) : Prop := ∀ (w w' : World) (p : Addr) (x : α), (∀ o, w'.cell? ⟨p.block, o, none⟩ = w.cell? ⟨p.block, o, none⟩) → d w p x → d w' p x
/-- A row in a block of its element's type. -/
structure TRow {α : Type} (e : TypeId) (d : Dec α) (size : Nat) (w : World) (s : Sl α) : Prop where
  at_ : s.At d size w
  blk : 0 < s.L.length → ∃ (a : Addr) (cs : Array Value), s.A = some a ∧ a.spot = none ∧ Blk w a.block e cs
section
variable {α : Type} {e : TypeId} {d : Dec α} {size : Nat} {w w' : World} {s : Sl α}
theorem TRow.below (hd : d.keeps) (h : TRow e d size w s) (hb : Below w.heap.size w w') : TRow e d size w' s :=
  ⟨h.at_.below hd hb, fun h0 => by
    obtain ⟨a, cs, h1, h2, h3⟩ := h.blk h0
    exact ⟨a, cs, h1, h2, h3.below hb h3.lt⟩⟩
/-- A store into a block of another type keeps a row. -/
theorem TRow.far (hd : d.local_) (h : TRow e d size w s) {g : Nat} {t : TypeId} {cs : Array Value} (hb : Blk w g t cs) (hne : e ≠ t) (j : Nat) (u : Value) : TRow e d size (w.setCell ⟨g, j, none⟩ u) s := by
  refine ⟨⟨fun i x hx => ?_, h.at_.2⟩, fun h0 => ?_⟩
  · obtain ⟨a, ha, hx'⟩ := h.at_.1 i x hx
    obtain ⟨a', cs', ha', _, hb'⟩ := h.blk (by have := (List.getElem?_eq_some_iff.1 hx).1; omega)
    have haa : a = a' := Option.some.inj (ha.symm.trans ha')
    subst haa
    refine ⟨a, ha, hd w _ _ _ (fun o => World.cell?_setCell_other _ _ _ _ (fun heq => ?_)) hx'⟩
    have h1 : g = a.block := by
      have := congrArg Addr.block heq
      simpa [block_of_add] using this
    exact Blk.ne_ hb hb' (Ne.symm hne) h1
  · obtain ⟨a, cs', h1, h2, h3⟩ := h.blk h0
    exact ⟨a, cs', h1, h2, h3.far (p := ⟨g, j, none⟩) (Blk.ne_ h3 hb hne) u⟩
/-- A row of the call's own is such a row. -/
theorem TRow.of_own {enc : α → List Value} {ok : World → α → Prop} {B : Nat} (hsz : 0 < size) (hlen : ∀ x, (enc x).length = size) (hm : Makes d enc ok) (h : OwnR e size enc w B s.val s.L) (hok : ∀ x ∈ s.L, ok w x) : TRow e d size w s := by
  obtain ⟨t, hv, hL, hA⟩ := OwnR.at_ hsz hlen hm h hok
  have est : s = t := by
    obtain ⟨A, k, L⟩ := t
    obtain ⟨A', k', L'⟩ := s
    simp only [Sl.val] at hv hL
    injection hv with e1 e2 e3
    subst e1 e3 hL
    rfl
  subst est
  refine ⟨hA, fun h0 => ?_⟩
  obtain ⟨t2, hv2, hL2, _, hf⟩ := h.form
  obtain ⟨g, hg, _, _, _⟩ := hf h0
  have hA2 : s.A = some ⟨g, 0, none⟩ := by
    have : t2.A = s.A := by
      obtain ⟨A, k, L⟩ := t2
      obtain ⟨A', k', L'⟩ := s
      simp only [Sl.val] at hv2
      injection hv2 with e1 e2 e3
      exact e1.symm
    rw [← this]; exact hg
  obtain ⟨cur, hc⟩ := h.typ (g := g) (by unfold Sl.val; rw [hA2]; rfl)
  exact ⟨⟨g, 0, none⟩, cur, hA2, rfl, hc⟩
theorem TRow.nil : TRow e d size w ⟨none, 0, []⟩ := ⟨⟨fun i x hx => by simp at hx, Nat.le_refl 0, Nat.zero_le _⟩, fun h => absurd h (by simp)⟩
/-- What lies from k on. -/
theorem TRow.drop (h : TRow e d size w s) (k : Nat) {a : Addr} (ha : s.A = some a) (hk : k ≤ s.L.length) : TRow e d size w ⟨some (a.add (k * size)), s.c - k, s.L.drop k⟩ := by
  have hc := h.at_.2
  refine ⟨⟨fun i x hx => ?_, ?_, ?_⟩, fun h0 => ?_⟩
  · rw [List.getElem?_drop] at hx
    obtain ⟨a', ha', hx'⟩ := h.at_.1 (k + i) x hx
    have haa : a = a' := Option.some.inj (ha.symm.trans ha')
    subst haa
    refine ⟨_, rfl, ?_⟩
    rw [add_of_add, ← Nat.add_mul]
    exact hx'
  · simp only [List.length_drop]; omega
  · simp only; omega
  · obtain ⟨a', cs, h1, h2, h3⟩ := h.blk (by simp only [List.length_drop] at h0; omega)
    have haa : a = a' := Option.some.inj (ha.symm.trans h1)
    subst haa
    refine ⟨a.add (k * size), cs, rfl, ?_, by rw [block_of_add]; exact h3⟩
    obtain ⟨b, o, sp⟩ := a
    simp only at h2
    subst h2
    rw [add_lit]
/-- What lies up to k. -/
theorem TRow.take (h : TRow e d size w s) (k : Nat) (hk : k ≤ s.L.length) : TRow e d size w ⟨s.A, s.c, s.L.take k⟩ := by
  have hc := h.at_.2
  refine ⟨⟨fun i x hx => ?_, ?_, hc.2⟩, fun h0 => ?_⟩
  · rw [List.getElem?_take] at hx
    split at hx
    · exact h.at_.1 i x hx
    · cases hx
  · simp only [List.length_take]; omega
  · exact h.blk (by simp only [List.length_take] at h0; omega)
end
end Go.Proofs.Ytpfcmfannkbipaa
end

section
set_option linter.unusedVariables false
set_option linter.unusedSimpArgs false
set_option maxRecDepth 20000
namespace Go.Proofs.Ytpfcmfannkbipaa
open Go.RowKit Go.Deep

attribute [local go_sem] run_store_float
/-- An event that was handled, and how its handler went wrong. -/
abbrev Dn := Nat × Int × Int × Int × Int × Int
def dnE (x : Dn) : Ev := (x.1, x.2.1, x.2.2.1, x.2.2.2.1, x.2.2.2.2.1)
def dnF (x : Dn) : Int := x.2.2.2.2.2
def dnOf (e : Ev) (f : Int) : Dn := (e.1, e.2.1, e.2.2.1, e.2.2.2.1, e.2.2.2.2, f)
def encDn (x : Dn) : List Value := [.float .f64 x.1, .int .i64 x.2.1, .int .i64 x.2.2.1, .int .i64 x.2.2.2.1, .int .i64 x.2.2.2.2.1, .int .i64 x.2.2.2.2.2]
def DnB : Dec Dn := fun w p x => w.cell? p = some (.float .f64 x.1) ∧ w.cell? ⟨p.block, p.off + 1, none⟩ = some (.int .i64 x.2.1) ∧ w.cell? ⟨p.block, p.off + 2, none⟩ = some (.int .i64 x.2.2.1) ∧ w.cell? ⟨p.block, p.off + 3, none⟩ = some (.int .i64 x.2.2.2.1) ∧ w.cell? ⟨p.block, p.off + 4, none⟩ = some (.int .i64 x.2.2.2.2.1) ∧ w.cell? ⟨p.block, p.off + 5, none⟩ = some (.int .i64 x.2.2.2.2.2)
theorem DnB.keeps : DnB.keeps := fun _ _ _ _ hb h => ⟨keepc hb h.1, keepc hb h.2.1, keepc hb h.2.2.1, keepc hb h.2.2.2.1, keepc hb h.2.2.2.2.1, keepc hb h.2.2.2.2.2⟩
theorem makes_dnb : Makes DnB encDn (fun _ _ => True) := fun w g o x _ h => ⟨h 0 _ rfl, h 1 _ rfl, h 2 _ rfl, h 3 _ rfl, h 4 _ rfl, h 5 _ rfl⟩
theorem one_dn (x : Dn) : ∀ u ∈ encDn x, u.oneCell' = true := by intro u hu; simp [encDn] at hu; rcases hu with rfl | rfl | rfl | rfl | rfl | rfl <;> rfl
theorem inf_dn : (Try.prog.info? 39).map (fun i => (i.zero, i.size, i.bytes)) = some (some (.agg #[.float .f64 0, .int .i64 0, .int .i64 0, .int .i64 0, .int .i64 0, .int .i64 0]), 6, 48) := by kernel_rfl
theorem evb_local : EvB.local_ := by
  intro w w' p x hc h
  have hp := spot_of h.1
  refine ⟨?_, (hc _).trans h.2.1, (hc _).trans h.2.2.1, (hc _).trans h.2.2.2.1, (hc _).trans h.2.2.2.2⟩
  rw [hp]
  have h1 := h.1
  rw [hp] at h1
  exact (hc _).trans h1
theorem dnb_local : DnB.local_ := by
  intro w w' p x hc h
  have hp := spot_of h.1
  refine ⟨?_, (hc _).trans h.2.1, (hc _).trans h.2.2.1, (hc _).trans h.2.2.2.1, (hc _).trans h.2.2.2.2.1, (hc _).trans h.2.2.2.2.2⟩
  rw [hp]
  have h1 := h.1
  rw [hp] at h1
  exact (hc _).trans h1
theorem int_local : IntAt.local_ := by
  intro w w' p x hc h
  have hp := spot_of h.1
  refine ⟨?_, h.2⟩
  rw [hp]
  have h1 := h.1
  rw [hp] at h1
  exact (hc _).trans h1
/-- A state's cells. -/
def StB : Dec St := fun w p s => w.cell? p = some s.wd.val ∧ w.cell? ⟨p.block, p.off + 1, none⟩ = some (.int .i64 s.sent) ∧ w.cell? ⟨p.block, p.off + 2, none⟩ = some (.int .i64 s.dice)
def encSt (s : St) : List Value := [s.wd.val, .int .i64 s.sent, .int .i64 s.dice]
theorem StB.keeps : StB.keeps := fun _ _ _ _ hb h => ⟨keepc hb h.1, keepc hb h.2.1, keepc hb h.2.2⟩
theorem makes_stb : Makes StB encSt (fun _ _ => True) := fun w g o x _ h => ⟨h 0 _ rfl, h 1 _ rfl, h 2 _ rfl⟩
theorem one_st (x : St) : ∀ u ∈ encSt x, u.oneCell' = true := by intro u hu; simp [encSt] at hu; rcases hu with rfl | rfl | rfl <;> rfl
theorem inf_st : (Try.prog.info? 61).map (fun i => (i.zero, i.size, i.bytes)) = some (some (.agg #[.slice none 0 0, .int .i64 0, .int .i64 0]), 3, 40) := by kernel_rfl
theorem stb_local : StB.local_ := by
  intro w w' p x hc h
  have hp := spot_of h.1
  refine ⟨?_, (hc _).trans h.2.1, (hc _).trans h.2.2⟩
  rw [hp]
  have h1 := h.1
  rw [hp] at h1
  exact (hc _).trans h1

/-! The simulation, plainly. -/
/-- An event waits, in its place, behind those that are the same. -/
def insP (e : Ev) : List Ev → List Ev
  | [] => [e]
  | x :: r => if cmpE x e ≤ 0 then x :: insP e r else e :: x :: r
theorem insP_at (e : Ev) : ∀ (L : List Ev) (n : Nat), n ≤ L.length → (∀ i x, i < n → L[i]? = some x → cmpE x e ≤ 0) → (∀ x, L[n]? = some x → ¬ cmpE x e ≤ 0) → insP e L = L.take n ++ [e] ++ L.drop n
  | [], n, hn, _, _ => by
    have : n = 0 := by simpa using hn
    subst this
    rfl
  | x :: r, 0, _, _, h2 => by
    have := h2 x rfl
    unfold insP
    rw [if_neg this]
    rfl
  | x :: r, n + 1, hn, h1, h2 => by
    have hx := h1 0 x (by omega) rfl
    unfold insP
    rw [if_pos hx, insP_at e r n (by simpa using hn) (fun i y hi hy => h1 (i + 1) y (by omega) (by simpa using hy)) (fun y hy => h2 y (by simpa using hy))]
    rfl
/-- States, what waits, what was handled. -/
abbrev Sm9 := List StP × List Ev × List Dn
def stOf (S : List StP) (d : Int) : StP := S.getD d.toNat ([], 0, 0)
def step9 (m : Mdl) (s : Sm9) : Sm9 := match s.2.1 with
  | [] => s
  | e :: r =>
    let R := hR m e.2.2.2.1 (stOf s.1 e.2.2.2.1) e
    (s.1.set e.2.2.2.1.toNat R.1, R.2.1.foldl (fun W x => insP x W) r, s.2.2 ++ [dnOf e R.2.2])
def new9 (m : Mdl) : Sm9 := ((List.range m.ll.L.length).map (fun i : Nat => (mwd m (i : Int), (0 : Int), (0 : Int))), (begV m.fin 0 m.il.L).foldl (fun W x => insP x W) [], [])
def of9 (m : Mdl) : Nat → Sm9 → Sm9
  | 0, s => s
  | n + 1, s => if s.2.1 = [] then s else of9 m n (step9 m s)

/-! The simulation in memory. -/
theorem OwnR.far9 {α : Type} {e : TypeId} {size B : Nat} {enc : α → List Value} {w : World} {v : Value} {L : List α} (h : OwnR e size enc w B v L) {g : Nat} {t : TypeId} {cs : Array Value} (hb : Blk w g t cs) (hne : e ≠ t) (j : Nat) (x : Value) : OwnR e size enc (w.setCell ⟨g, j, none⟩ x) B v L :=
  ownsRow_setCell_other h (own_blk_ne h hb hne) x
structure Sim9 (w0 : World) (g : Nat) (m : Mdl) (S : Sl St) (W : Sl Ev) (D : Sl Dn) (w : World) : Prop where
  bel : Below w0.heap.size w0 w
  ge : w0.heap.size ≤ g
  box : Blk w g 100 #[.int .i64 m.seed, .float .f64 m.fin, m.dl.val, m.pl.val, m.ll.val, m.il.val, S.val, W.val, D.val]
  ms : m.At w0
  st : OwnR 61 3 encSt w w0.heap.size S.val S.L
  wds : ∀ s ∈ S.L, TRow 3 IntAt 1 w s.wd ∧ I64 s.sent ∧ I64 s.dice
  wt : TRow 37 EvB 5 w W
  dn : OwnR 39 6 encDn w w0.heap.size D.val D.L
section
variable {w0 w w' : World} {g : Nat} {m : Mdl} {S : Sl St} {W : Sl Ev} {D : Sl Dn}
theorem Sim9.stT (h : Sim9 w0 g m S W D w) : TRow 61 StB 3 w S := TRow.of_own (ok := fun _ _ => True) (by decide) (fun _ => rfl) makes_stb h.st (fun _ _ => trivial)
theorem Sim9.dnT (h : Sim9 w0 g m S W D w) : TRow 39 DnB 6 w D := TRow.of_own (ok := fun _ _ => True) (by decide) (fun _ => rfl) makes_dnb h.dn (fun _ _ => trivial)
theorem Sim9.below (h : Sim9 w0 g m S W D w) (hb : Below w.heap.size w w') : Sim9 w0 g m S W D w' :=
  ⟨below_after h.bel hb, h.ge, h.box.below hb h.box.lt, h.ms, h.st.below hb, fun s hs => ⟨(h.wds s hs).1.below IntAt.keeps hb, (h.wds s hs).2⟩, h.wt.below EvB.keeps hb, h.dn.below hb⟩
theorem Sim9.setW (h : Sim9 w0 g m S W D w) {W' : Sl Ev} (hW : TRow 37 EvB 5 w W') : Sim9 w0 g m S W' D (w.setCell ⟨g, 7, none⟩ W'.val) := by
  refine ⟨h.bel.setCell (p := ⟨g, 7, none⟩) h.ge _, h.ge, ?_, h.ms, h.st.far9 h.box (by decide) 7 _, fun s hs => ⟨(h.wds s hs).1.far int_local h.box (by decide) 7 _, (h.wds s hs).2⟩, hW.far evb_local h.box (by decide) 7 _, h.dn.far9 h.box (by decide) 7 _⟩
  have := h.box.set_ 7 W'.val
  simpa using this
theorem Sim9.setS (h : Sim9 w0 g m S W D w) {S' : Sl St} (hS : OwnR 61 3 encSt w w0.heap.size S'.val S'.L) (hw : ∀ s ∈ S'.L, TRow 3 IntAt 1 w s.wd ∧ I64 s.sent ∧ I64 s.dice) : Sim9 w0 g m S' W D (w.setCell ⟨g, 6, none⟩ S'.val) := by
  refine ⟨h.bel.setCell (p := ⟨g, 6, none⟩) h.ge _, h.ge, ?_, h.ms, hS.far9 h.box (by decide) 6 _, fun s hs => ⟨(hw s hs).1.far int_local h.box (by decide) 6 _, (hw s hs).2⟩, h.wt.far evb_local h.box (by decide) 6 _, h.dn.far9 h.box (by decide) 6 _⟩
  have := h.box.set_ 6 S'.val
  simpa using this
theorem Sim9.setD (h : Sim9 w0 g m S W D w) {D' : Sl Dn} (hD : OwnR 39 6 encDn w w0.heap.size D'.val D'.L) : Sim9 w0 g m S W D' (w.setCell ⟨g, 8, none⟩ D'.val) := by
  refine ⟨h.bel.setCell (p := ⟨g, 8, none⟩) h.ge _, h.ge, ?_, h.ms, h.st.far9 h.box (by decide) 8 _, fun s hs => ⟨(h.wds s hs).1.far int_local h.box (by decide) 8 _, (h.wds s hs).2⟩, h.wt.far evb_local h.box (by decide) 8 _, hD.far9 h.box (by decide) 8 _⟩
  have := h.box.set_ 8 D'.val
  simpa using this
/-- A box for a result is written. -/
theorem Sim9.setX (h : Sim9 w0 g m S W D w) {n : Nat} {cs : Array Value} (hn : w0.heap.size ≤ n) (hX : Blk w n 39 cs) (hD : D.val.ownBlock ≠ some n) (j : Nat) (u : Value) : Sim9 w0 g m S W D (w.setCell ⟨n, j, none⟩ u) := by
  refine ⟨h.bel.setCell (p := ⟨n, j, none⟩) hn _, h.ge, h.box.far (p := ⟨n, j, none⟩) (Blk.ne_ h.box hX (by decide)) _, h.ms, h.st.far9 hX (by decide) j _, fun s hs => ⟨(h.wds s hs).1.far int_local hX (by decide) j _, (h.wds s hs).2⟩, h.wt.far evb_local hX (by decide) j _, ?_⟩
  exact ownsRow_setCell_other h.dn hD u
end
end Go.Proofs.Ytpfcmfannkbipaa
end

section
set_option linter.unusedVariables false
set_option linter.unusedSimpArgs false
set_option maxRecDepth 20000
namespace Go.Proofs.Ytpfcmfannkbipaa
open Go.RowKit Go.Deep

theorem lays_evb : Lays EvB encEv := by
  intro w a x h r u hu
  obtain ⟨h0, h1, h2, h3, h4⟩ := h
  have ha := spot_of h0
  rw [ha, add_lit]
  rw [ha] at h0
  rcases r with _ | _ | _ | _ | _ | r
  · rw [← hu]; exact h0
  · rw [← hu]; exact h1
  · rw [← hu]; exact h2
  · rw [← hu]; exact h3
  · rw [← hu]; exact h4
  · simp [encEv] at hu
/-- Events appended behind a row of the call's own. -/
theorem ev_app (w X : World) (v : Value) (L M : List Ev) (A : Option Addr) (m c : Nat) (hown : OwnR 37 5 encEv X w.heap.size v L) (hb : Below w.heap.size w X) (hr : Reads X X.heap.size 5 A m (M.flatMap encEv)) (hm : M.length = m)
    (hs : L.length + M.length ≤ 1000000000) (ty : TypeId) :
    ∃ (q : Sl Ev) (X' : World), (Builtin.append_ #[65, 65] ty #[v, .slice A m c]).run Try.prog X = .ok q.val X' ∧ q.L = L ++ M ∧ OwnR 37 5 encEv X' w.heap.size q.val q.L ∧ Below w.heap.size w X' ∧
      (∀ g t cs, Blk X g t cs → v.ownBlock ≠ some g → Blk X' g t cs) ∧ X.heap.size ≤ X'.heap.size := by
  obtain ⟨v', X', hrun, hown', hext⟩ := run_append_src (P := Try.prog) 37 65 ty 5 40 (.agg #[.float .f64 0, .int .i64 0, .int .i64 0, .int .i64 0, .int .i64 0]) encEv (by decide) (fun _ => rfl) one_ev Try.underlying65 inf_ev rfl X w.heap.size X.heap.size v L M A m c hown hr hm (by omega) (by omega) hb.size
  obtain ⟨q, rfl, hqL, _, _⟩ := hown'.form
  refine ⟨q, X', hrun, hqL, by rw [hqL]; exact hown', hb.trans ((Below.refl w.heap.size X).grown hext.1 hb.size fun k hk => hown.base k hk), fun g t cs h hne => h.grown hext.1 (Ne.symm hne), hext.1.size⟩
/-- One event in a block of its own, as a source. -/
theorem ev_one_reads {X : World} {ge : Nat} {e : Ev} (h : Blk X ge 37 #[.float .f64 e.1, .int .i64 e.2.1, .int .i64 e.2.2.1, .int .i64 e.2.2.2.1, .int .i64 e.2.2.2.2]) : Reads X X.heap.size 5 (some ⟨ge, 0, none⟩) 1 ([e].flatMap encEv) := by
  refine ⟨by simp [encEv], fun _ => ⟨_, rfl, h.lt, fun j u hu => ?_⟩⟩
  have hc := h.cell j
  have hadd : (⟨ge, 0, none⟩ : Addr).add j = ⟨ge, j, none⟩ := by unfold Addr.add; split <;> simp_all
  rw [hadd, hc, ← hu]
  simp [encEv]
/-- A new row that holds nothing. -/
theorem own_empty {w X : World} {b : Nat} (h : Blk X b 37 #[]) (hb : w.heap.size ≤ b) : OwnR 37 5 encEv X w.heap.size (.slice (some ⟨b, 0, none⟩) 0 0) ([] : List Ev) :=
  ⟨by simp, .inr ⟨b, 0, #[], rfl, hb, h, Nat.le_refl _, Nat.zero_le _, by simp, by simp⟩⟩
/-- The three appends of put: what lay ahead, the event, what lay behind; the event's block laid ahead of them (at ge). -/
theorem ins_runs {V X : World} {b ge : Nat} {e : Ev} {T D : List Ev} {A A' : Option Addr} {c c' : Nat} (hb : Below V.heap.size V X) (hz : Blk X b 37 #[]) (hbV : V.heap.size ≤ b)
    (hE : Blk X ge 37 #[.float .f64 e.1, .int .i64 e.2.1, .int .i64 e.2.2.1, .int .i64 e.2.2.2.1, .int .i64 e.2.2.2.2]) (hne : b ≠ ge) (hlt : ge < X.heap.size)
    (hT : ∀ Y, Below V.heap.size V Y → Reads Y Y.heap.size 5 A T.length (T.flatMap encEv)) (hD : ∀ Y, Below V.heap.size V Y → Reads Y Y.heap.size 5 A' D.length (D.flatMap encEv)) (hs : T.length + D.length ≤ 100000000) (ty : TypeId) :
    ∃ (q1 q2 q3 : Sl Ev) (X1 X2 X3 : World), (Builtin.append_ #[65, 65] ty #[.slice (some ⟨b, 0, none⟩) 0 0, .slice A T.length c]).run Try.prog X = .ok q1.val X1 ∧
      (Builtin.append_ #[65, 65] ty #[q1.val, .slice (some ⟨ge, 0, none⟩) 1 1]).run Try.prog X1 = .ok q2.val X2 ∧
      (Builtin.append_ #[65, 65] ty #[q2.val, .slice A' D.length c']).run Try.prog X2 = .ok q3.val X3 ∧ q3.L = T ++ [e] ++ D ∧ OwnR 37 5 encEv X3 V.heap.size q3.val q3.L ∧
      Below V.heap.size V X1 ∧ Below V.heap.size V X2 ∧ Below V.heap.size V X3 := by
  obtain ⟨v1, X1, hr1, ho1, hx1⟩ := run_append_src (P := Try.prog) 37 65 ty 5 40 (.agg #[.float .f64 0, .int .i64 0, .int .i64 0, .int .i64 0, .int .i64 0]) encEv (by decide) (fun _ => rfl) one_ev Try.underlying65 inf_ev rfl X V.heap.size X.heap.size _ [] T A T.length c (own_empty hz hbV) (hT X hb) rfl (by simp; omega) (by simp; omega) hb.size
  rw [List.nil_append] at ho1
  have hE1 : Blk X1 ge 37 _ := hE.grown hx1.1 (by simp only [Value.ownBlock]; intro h; exact hne (Option.some.inj h).symm)
  have hb1 : Below V.heap.size V X1 := hb.trans ((Below.refl V.heap.size X).grown hx1.1 hb.size fun k hk => (own_empty (X := X) hz hbV).base k hk)
  have hk1 : v1.ownBlock ≠ some ge := by
    rcases hx1.2 with h | ⟨g, h, hg⟩
    · rw [h]; simp only [Value.ownBlock]; intro h2; exact hne (Option.some.inj h2)
    · rw [h]; intro h2; have := Option.some.inj h2; omega
  obtain ⟨q1, rfl, hq1, _, _⟩ := ho1.form
  obtain ⟨q2, X2, hr2, hq2, ho2, hb2, _, _⟩ := ev_app V X1 q1.val T [e] _ 1 1 ho1 hb1 (ev_one_reads hE1) rfl (by simp; omega) ty
  rw [hq2] at ho2
  obtain ⟨q3, X3, hr3, hq3, ho3, hb3, _, _⟩ := ev_app V X2 q2.val (T ++ [e]) D A' D.length c' ho2 hb2 (hD X2 hb2) rfl (by simp; omega) ty
  exact ⟨q1, q2, q3, X1, X2, X3, hr1, hr2, hr3, hq3, ho3, hb1, hb2, hb3⟩
/-- The three appends of put, the event laid behind the first. -/
theorem ins_runs3 {V X : World} {b : Nat} {e : Ev} {T D : List Ev} {A A' : Option Addr} {c c' : Nat} (hb : Below V.heap.size V X) (hz : Blk X b 37 #[]) (hbV : V.heap.size ≤ b)
    (hT : ∀ Y, Below V.heap.size V Y → Reads Y Y.heap.size 5 A T.length (T.flatMap encEv)) (hD : ∀ Y, Below V.heap.size V Y → Reads Y Y.heap.size 5 A' D.length (D.flatMap encEv)) (hs : T.length + D.length ≤ 100000000) (ty : TypeId) :
    ∃ (q1 q2 q3 : Sl Ev) (X1 X2 X3 : World), (Builtin.append_ #[65, 65] ty #[.slice (some ⟨b, 0, none⟩) 0 0, .slice A T.length c]).run Try.prog X = .ok q1.val X1 ∧
      (Builtin.append_ #[65, 65] ty #[q1.val, .slice (some ⟨X1.heap.size, 0, none⟩) 1 1]).run Try.prog (X1.alloc (.cells #[.float .f64 e.1, .int .i64 e.2.1, .int .i64 e.2.2.1, .int .i64 e.2.2.2.1, .int .i64 e.2.2.2.2] 37)) = .ok q2.val X2 ∧
      (Builtin.append_ #[65, 65] ty #[q2.val, .slice A' D.length c']).run Try.prog X2 = .ok q3.val X3 ∧ q3.L = T ++ [e] ++ D ∧ OwnR 37 5 encEv X3 V.heap.size q3.val q3.L ∧
      Below V.heap.size V X1 ∧ Below V.heap.size V X2 ∧ Below V.heap.size V X3 := by
  obtain ⟨q1, X1, hr1, hq1, ho1, hb1, _, _⟩ := ev_app V X _ [] T A T.length c (own_empty hz hbV) hb (hT X hb) rfl (by simp; omega) ty
  rw [List.nil_append] at hq1
  rw [hq1] at ho1
  have hE := Blk.new X1 37 #[.float .f64 e.1, .int .i64 e.2.1, .int .i64 e.2.2.1, .int .i64 e.2.2.2.1, .int .i64 e.2.2.2.2]
  obtain ⟨q2, X2, hr2, hq2, ho2, hb2, _, _⟩ := ev_app V _ q1.val T [e] _ 1 1 (ho1.alloc _) (hb1.alloc hb1.size _) (ev_one_reads hE) rfl (by simp; omega) ty
  rw [hq2] at ho2
  obtain ⟨q3, X3, hr3, hq3, ho3, hb3, _, _⟩ := ev_app V X2 q2.val (T ++ [e]) D A' D.length c' ho2 hb2 (hD X2 hb2) rfl (by simp; omega) ty
  exact ⟨q1, q2, q3, X1, X2, X3, hr1, hr2, hr3, hq3, ho3, hb1, hb2, hb3⟩
end Go.Proofs.Ytpfcmfannkbipaa
end

section
set_option linter.unusedVariables false
namespace Go.Proofs.Ytpfcmfannkbipaa
open Go

section
variable {P : Program} {ops : Array Oper} {md : Region.Mode} {Q : Exit → Act → World → Prop} {S : World → Prop}
def ordersOf (md : Region.Mode) (ops : Array Oper) : Nat → Array Bool → List (List Nat)
  | 0, _ => [[]]
  | n + 1, listed => (Region.ready md ops listed).flatMap fun i => (ordersOf md ops n (listed.setIfInBounds i true)).map (i :: ·)
def ordersOk (md : Region.Mode) (ops : Array Oper) (m g : Nat) : Nat → Array Bool → Bool
  | 0, listed => Region.seqB md ops g m listed
  | n + 1, listed => !(Region.ready md ops listed).isEmpty && (Region.ready md ops listed).all fun i => decide (i < m) && (decide (i < ops.size) && ordersOk md ops m g n (listed.setIfInBounds i true))
theorem orders_some {m g : Nat} : ∀ (n : Nat) (listed : Array Bool), ordersOk md ops m g n listed = true → ∃ l, l ∈ ordersOf md ops n listed
  | 0, listed, _ => ⟨[], by simp [ordersOf]⟩
  | n + 1, listed, h => by
    simp only [ordersOk, Bool.and_eq_true, Bool.not_eq_true', List.all_eq_true] at h
    obtain ⟨h0, h1⟩ := h
    cases hr : Region.ready md ops listed with
    | nil => rw [hr] at h0; cases h0
    | cons i is =>
      have hi := h1 i (by rw [hr]; simp)
      obtain ⟨l, hl⟩ := orders_some n _ hi.2.2
      refine ⟨i :: l, ?_⟩
      unfold ordersOf
      rw [List.mem_flatMap]
      exact ⟨i, by rw [hr]; simp, List.mem_map.2 ⟨l, hl, rfl⟩⟩
theorem to_of_orders {m : Nat} (rest : List Oper) (hrest : ∀ j, rest[j]? = ops[m + j]?) : ∀ (n : Nat) (listed : Array Bool) (a : Act) (w : World), ordersOk md ops m rest.length n listed = true →
    (∀ l ∈ ordersOf md ops n listed, wpMid P ops S (wpList P ops Q rest) (l.filterMap fun i => ops[i]?) a w) → anyTo P md ops Q S [] m (n + rest.length) listed a w
  | 0, listed, a, w, hB, h => by
    rw [Nat.zero_add]
    exact to_of_list rest m listed a w (Nat.le_refl _) hrest hB (h [] (by simp [ordersOf]))
  | n + 1, listed, a, w, hB, h => by
    simp only [ordersOk, Bool.and_eq_true, Bool.not_eq_true', List.all_eq_true, decide_eq_true_eq] at hB
    rw [show n + 1 + rest.length = (n + rest.length) + 1 from by omega]
    refine ⟨fun h1 => (by rw [h1] at hB; cases hB.1), fun i hi => ?_⟩
    obtain ⟨him, hisz, hok⟩ := hB.2 i hi
    have ho : ops[i]? = some ops[i] := Array.getElem?_eq_getElem hisz
    have step : ∀ l ∈ ordersOf md ops n (listed.setIfInBounds i true), wpMid P ops S (wpList P ops Q rest) (ops[i] :: l.filterMap fun i => ops[i]?) a w := by
      intro l hl
      have := h (i :: l) (by
        unfold ordersOf
        rw [List.mem_flatMap]
        exact ⟨i, hi, List.mem_map.2 ⟨l, hl, rfl⟩⟩)
      rwa [List.filterMap_cons, ho] at this
    obtain ⟨l0, hl0⟩ := orders_some n _ hok
    obtain ⟨hw, v, w1, hr, hs, _⟩ := step l0 hl0
    unfold wpOp
    simp only [ho, hw, if_true]
    refine .inl ?_
    unfold Oper.wp
    rw [hr, Oper.upon_value]
    refine ⟨fun _ _ => hs, to_of_orders rest hrest n _ _ _ hok fun l hl => ?_⟩
    obtain ⟨_, v', w1', hr', _, hm⟩ := step l hl
    rw [hr] at hr'
    injection hr' with e1 e2
    injection e1 with e1
    subst e1 e2
    exact hm
def takenAll : List Nat → Array Bool → Array Bool
  | [], listed => listed
  | i :: is, listed => takenAll is (listed.setIfInBounds i true)
def takesTo (md : Region.Mode) (ops : Array Oper) (m : Nat) : List Nat → Array Bool → Bool
  | [], _ => true
  | i :: is, listed => decide (i < m) && (decide (i < ops.size) && (Region.free md ops listed i && ((Region.ready md ops listed).contains i && takesTo md ops m is (listed.setIfInBounds i true))))
theorem to_takes {m f : Nat} {w : World} {K : Act → Prop} (hsel : Region.noSelect ops = true) (hs : sinkX md ops [] m = true) (hc : Region.chainB md ops m = true) (hm : m < ops.size) (hSw : S w) :
    ∀ (is : List Nat) (listed : Array Bool) (a : Act), ShutUp md ops listed → takesTo md ops m is listed = true → (∀ a', K a' → anyTo P md ops Q S [] m f (takenAll is listed) a' w) → wpHead P ops Q S K (is.filterMap fun i => ops[i]?) a → anyTo P md ops Q S [] m (is.length + f) listed a w
  | [], listed, a, _, _, hK, h => by
    rw [List.length_nil, Nat.zero_add]
    exact hK a h
  | i :: is, listed, a, inv, hB, hK, h => by
    simp only [takesTo, Bool.and_eq_true, decide_eq_true_eq] at hB
    obtain ⟨him, hisz, hfr, hrd, hB⟩ := hB
    have ho : ops[i]? = some ops[i] := Array.getElem?_eq_getElem hisz
    rw [List.filterMap_cons, ho] at h
    obtain ⟨v, hy, hQ, hk⟩ := h
    have hr : i ∈ Region.ready md ops listed := by simpa using hrd
    rw [List.length_cons, show is.length + 1 + f = (is.length + f) + 1 from by omega]
    refine anyTo_first (T := S) (I := fun _ => True) ho hsel hQ (fun _ _ _ => trivial) (fun _ h _ _ => h) (fun listed inv' _ hun j hj w' hw' => ?_) (is.length + f) listed a w inv trivial (Region.free_spec ho hfr) hr hy hSw ?_
    · exact hw' (Nat.lt_of_not_le fun hle => late hs hc hm inv' him (by simp) hun j hle hj) (by simp)
    · exact to_takes hsel hs hc hm hSw is _ _ (inv.set hr) hB hK hk
/-- The check, for the kernel. -/
def ordB (md : Region.Mode) (ops : Array Oper) (is : List Nat) (m n : Nat) (os : List (List Nat)) : Bool :=
  Region.noSelect ops && (decide (m < ops.size) && (decide (is.length + (n + (ops.size - m)) = ops.size) && (sinkX md ops [] m && (Region.chainB md ops m && (takesTo md ops m is (Array.replicate ops.size false) &&
    (ordersOk md ops m (ops.size - m) n (takenAll is (Array.replicate ops.size false)) && decide (ordersOf md ops n (takenAll is (Array.replicate ops.size false)) = os)))))))
/-- THE LAW: the operations 'is' only read; n operations make memory, in one of the orders os; from m on there is one order. -/
theorem wp_region_orders {id : Nat} {a : Act} {w : World} {l : List Oper} (S : World → Prop) (is : List Nat) (m n : Nat) (os : List (List Nat)) (hf : P.follows .mixedOrders = true) (hB : ordB .any l.toArray is m n os = true) (hS : S w.drew)
    (h : wpHead P l.toArray Q S (fun a' => ∀ o ∈ os, wpMid P l.toArray S (wpList P l.toArray Q (l.drop m)) (o.filterMap fun i => l[i]?) a' w.drew) (is.filterMap fun i => l[i]?) a) : (Code.region id l.toArray true).wp P Q a w := by
  simp only [ordB, Bool.and_eq_true, decide_eq_true_eq] at hB
  obtain ⟨hsel, hm, hsz, hs, hc, ht, hok, hos⟩ := hB
  have inv0 : ShutUp .any l.toArray (Array.replicate l.toArray.size false) := ⟨by simp, fun j oj _ hl => (by rw [getD_replicate_false] at hl; cases hl)⟩
  have hlen : (l.drop m).length = l.toArray.size - m := by rw [List.length_drop]; simp
  suffices key : ∀ F, F = is.length + (n + (l.drop m).length) → anyTo P .any l.toArray Q S [] m F (Array.replicate l.toArray.size false) a w.drew from
    wp_region_any hf (any_of_anyTo (S := S) (ex := []) (m := m) _ _ _ _ (key _ (by rw [hlen]; exact hsz.symm)))
  rintro _ rfl
  refine to_takes hsel hs hc hm hS is _ a inv0 ht (fun a' hK => ?_) (by simpa using h)
  subst hos
  refine to_of_orders (l.drop m) (fun j => by rw [List.getElem?_drop, List.getElem?_toArray]) n _ a' w.drew (by rw [hlen]; exact hok) fun o ho => ?_
  have := hK o ho
  simpa using this
end
end Go.Proofs.Ytpfcmfannkbipaa
end
