/- Texts of this claim in one. No condition. -/
import Derived.Test.YtpfcmfannkbipaaJ09
import Derived.Defers
import Derived.Recover
import Derived.Deep.LoopGhost
section
set_option linter.unusedVariables false
set_option linter.unusedSimpArgs false
set_option maxRecDepth 20000
namespace Go.Proofs.Ytpfcmfannkbipaa
open Go.RowKit Go.Deep

/-- How a step ends. -/
def stepE (p : List Ins4) (lps : Int) (s : VS) : Ending :=
  if p.length ≤ s.at_ then .returned (.bool false) else if 120 ≤ s.n then .panicked (faultP 1)
  else if (p.getD s.at_ (0, 0, 0, 0)).1 = 0 then .returned (.bool false)
  else if vflt lps (p.getD s.at_ (0, 0, 0, 0)) s.tick = 0 then .returned (.bool true) else .panicked (faultP (vflt lps (p.getD s.at_ (0, 0, 0, 0)) s.tick))
/-- What a step leaves. -/
def stepS (p : List Ins4) (W lps : Int) (s : VS) : VS :=
  if p.length ≤ s.at_ then s else if 120 ≤ s.n then s
  else if (p.getD s.at_ (0, 0, 0, 0)).1 = 0 then s.tick
  else if vflt lps (p.getD s.at_ (0, 0, 0, 0)) s.tick = 0 then vone W (p.getD s.at_ (0, 0, 0, 0)) s.tick else s.tick
theorem nat_of {n : Int} (h : 0 ≤ n ∧ n ≤ 7) : ∃ x : Nat, n = x ∧ x < 8 := ⟨n.toNat, by omega, by omega⟩
theorem nat_ofL {n : Int} {l : Nat} (h : 0 ≤ n ∧ n ≤ l) : ∃ x : Nat, n = x ∧ x ≤ l := ⟨n.toNat, by omega, by omega⟩
/-- Behind a step: how it ended, what it left. -/
def StepTo (rb : Option Nat) (w0 : World) (B b db : Nat) (p : Sl Ins4) (W lps : Int) (E : Ending) (s : VS) (e : Ending) (w' : World) : Prop := e = E ∧ ∃ wv sv, RunS rb w0 w' B b db p.val wv sv W lps s
theorem vstep_any (rb : Option Nat) (w0 w : World) (B b db : Nat) (p : Sl Ins4) (wv sv : Value) (W lps : Int) (s : VS) (nw : Nat) (h : RunS rb w0 w B b db p.val wv sv W lps s) (hs : s.Ok p.L.length nw lps) (hp : p.At InsAt 4 w0) (hlen : p.L.length ≤ 1000)
    (hok : ∀ x ∈ p.L, okIns p.L.length x ∧ I64 x.2.2.1) (hlps : I64 lps) :
    Calls Try.prog 116 #[.pointer (some ⟨b, 0, none⟩)] w (StepTo rb w0 B b db p W lps (stepE p.L lps s) (stepS p.L W lps s)) := by
  by_cases hend : p.L.length ≤ s.at_
  · have e1 : stepE p.L lps s = .returned (.bool false) := if_pos hend
    have e2 : stepS p.L W lps s = s := if_pos hend
    rw [e1, e2]
    exact (step_end rb w0 w B b db p wv sv W lps s h hs.g8 hend).mono fun e w' h => ⟨h.1, wv, sv, h.2⟩
  · have hend' : s.at_ < p.L.length := by omega
    by_cases hn : 120 ≤ s.n
    · have e1 : stepE p.L lps s = .panicked (faultP 1) := (if_neg hend).trans (if_pos hn)
      have e2 : stepS p.L W lps s = s := (if_neg hend).trans (if_pos hn)
      rw [e1, e2]
      exact (step_fuel rb w0 w B b db p wv sv W lps s h hs.g8 hend' hn).mono fun e w' h => ⟨h.1, wv, sv, h.2⟩
    · have hn' : s.n < 120 := by omega
      have hx : p.L[s.at_]? = some (p.L.getD s.at_ (0, 0, 0, 0)) := by
        rw [List.getD_eq_getElem?_getD, List.getElem?_eq_getElem hend']
        rfl
      obtain ⟨hi, hI⟩ := hok _ (getD_mem (d := ((0, 0, 0, 0) : Ins4)) hend')
      have ht := hs.tick hend'
      unfold stepE stepS
      rw [if_neg hend, if_neg hn, if_neg hend, if_neg hn]
      generalize p.L.getD s.at_ (0, 0, 0, 0) = x at *
      obtain ⟨op, xa, xb, xc⟩ := x
      have ho := okIns_op hi
      -- the words' slice, what was sent
      obtain ⟨⟨wA, wc, wL⟩, hwv, hwL, _, hwg⟩ := h.wrd.form
      simp only [Sl.val] at hwv hwL hwg
      subst hwL
      obtain ⟨⟨sA, sc, sL⟩, hsv, hsL, _⟩ := h.snt.form
      simp only [Sl.val] at hsv hsL
      subst hsL
      generalize htk : s.tick = t at *
      have hwt : s.w = t.w := by rw [← htk]; rfl
      have hst : s.s = t.s := by rw [← htk]; rfl
      rw [hwt] at hwv hwg
      rw [hst] at hsv
      subst hwv
      subst hsv
      simp only
      by_cases h0 : op = 0
      · subst h0
        rw [if_pos rfl, if_pos rfl]
        exact (step_halt rb w0 w B b db p _ _ W lps s nw h hs hp hlen hend' hn' t htk xa xb xc hx).mono fun e w' h => ⟨h.1, _, _, h.2⟩
      · rw [if_neg h0, if_neg h0]
        by_cases h9 : op = 9
        · subst h9
          obtain ⟨x, rfl, hxl⟩ := nat_ofL (okIns_9 hi rfl)
          exact (step_jump rb w0 w B b db p _ _ W lps s nw h hs hp hlen hend' hn' t htk x xb xc hx).mono fun e w' h => ⟨h.1, _, _, h.2⟩
        obtain ⟨x, rfl, hx8⟩ := nat_of (okIns_a hi h0 h9)
        by_cases h1 : op = 1
        · subst h1
          exact (step_set rb w0 w B b db p _ _ W lps s nw h hs hp hlen hend' hn' t htk x hx8 xb xc hx).mono fun e w' h => ⟨h.1, _, _, h.2⟩
        by_cases h10 : op = 10
        · subst h10
          obtain ⟨y, rfl, hyl⟩ := nat_ofL (okIns_10 hi rfl)
          by_cases hz : t.reg x = 0
          · have e1 : vone W ((10, (x : Int), (y : Int), xc) : Ins4) t = { t with at_ := y } := if_pos hz
            have e2 : vflt lps ((10, (x : Int), (y : Int), xc) : Ins4) t = 0 := rfl
            rw [if_pos e2, if_pos e2, e1]
            exact (step_zero rb w0 w B b db p _ _ W lps s nw h hs hp hlen hend' hn' t htk x y hx8 xc hz hx).mono fun e w' h => ⟨h.1, _, _, h.2⟩
          · have e1 : vone W ((10, (x : Int), (y : Int), xc) : Ins4) t = t := if_neg hz
            have e2 : vflt lps ((10, (x : Int), (y : Int), xc) : Ins4) t = 0 := rfl
            rw [if_pos e2, if_pos e2, e1]
            exact (step_nonz rb w0 w B b db p _ _ W lps s nw h hs hp hlen hend' hn' t htk x y hx8 xc hz hx).mono fun e w' h => ⟨h.1, _, _, h.2⟩
        obtain ⟨y, rfl, hy8⟩ := nat_of (okIns_b hi h0 h1 h9 h10)
        have hy := ht.reg y
        have hxr := ht.reg x
        by_cases h2 : op = 2
        · subst h2
          exact (step_move rb w0 w B b db p _ _ W lps s nw h hs hp hlen hend' hn' t htk x y hx8 hy8 xc _ rfl hx).mono fun e w' h => ⟨h.1, _, _, h.2⟩
        by_cases h11 : op = 11
        · subst h11
          by_cases hr : t.reg y < 1
          · have e2 : vflt lps ((11, (x : Int), (y : Int), xc) : Ins4) t = 4 := if_pos hr
            rw [e2, if_neg (by decide), if_neg (by decide)]
            exact (step_noroll rb w0 w B b db p _ _ W lps s nw h hs hp hlen hend' hn' t htk x y hx8 hy8 xc _ rfl hr hx).mono fun e w' h => ⟨h.1, _, _, h.2⟩
          · have e2 : vflt lps ((11, (x : Int), (y : Int), xc) : Ins4) t = 0 := if_neg hr
            rw [if_pos e2, if_pos e2]
            exact (step_roll rb w0 w B b db p _ _ W lps s nw h hs hp hlen hend' hn' t htk x y hx8 hy8 xc _ rfl (by omega) (by omega) hx).mono fun e w' h => ⟨h.1, _, _, h.2⟩
        by_cases h13 : op = 13
        · subst h13
          by_cases hr : t.reg y < 0 ∨ (t.w.length : Int) ≤ t.reg y
          · have e2 : vflt lps ((13, (x : Int), (y : Int), xc) : Ins4) t = 3 := if_pos hr
            rw [e2, if_neg (by decide), if_neg (by decide)]
            exact (step_noload rb w0 w B b db y _ wc wA p _ W lps s nw h hs hp hlen hend' hn' t htk hy8 x xc hr hx).mono fun e w' h => ⟨h.1, _, _, h.2⟩
          · have e2 : vflt lps ((13, (x : Int), (y : Int), xc) : Ins4) t = 0 := if_neg hr
            rw [if_pos e2, if_pos e2]
            obtain ⟨k, hk⟩ : ∃ k : Nat, t.reg y = k := ⟨(t.reg y).toNat, by omega⟩
            obtain ⟨g, hg, _⟩ := hwg (by omega)
            subst hg
            have e1 : vone W ((13, (x : Int), (y : Int), xc) : Ins4) t = t.put x (t.w.getD k 0) := by
              show t.put x (t.w.getD (t.reg y).toNat 0) = _
              rw [hk, Int.toNat_natCast]
            rw [e1]
            exact (step_load rb w0 w B b db x y k g _ wc p _ W lps s nw h hs hp hlen hend' hn' t htk hx8 hy8 xc _ hk (by omega) rfl rfl hx).mono fun e w' h => ⟨h.1, _, _, h.2⟩
        by_cases h14 : op = 14
        · subst h14
          by_cases hr : t.reg x < 0 ∨ (t.w.length : Int) ≤ t.reg x
          · have e2 : vflt lps ((14, (x : Int), (y : Int), xc) : Ins4) t = 3 := if_pos hr
            rw [e2, if_neg (by decide), if_neg (by decide)]
            exact (step_nostore rb w0 w B b db x y _ wc wA p _ W lps s nw h hs hp hlen hend' hn' t htk hx8 hy8 xc hr hx).mono fun e w' h => ⟨h.1, _, _, h.2⟩
          · have e2 : vflt lps ((14, (x : Int), (y : Int), xc) : Ins4) t = 0 := if_neg hr
            rw [if_pos e2, if_pos e2]
            obtain ⟨k, hk⟩ : ∃ k : Nat, t.reg x = k := ⟨(t.reg x).toNat, by omega⟩
            obtain ⟨g, hg, _⟩ := hwg (by omega)
            subst hg
            have e1 : vone W ((14, (x : Int), (y : Int), xc) : Ins4) t = { t with w := t.w.set k (t.reg y) } := by
              show { t with w := t.w.set (t.reg x).toNat (t.reg y) } = _
              rw [hk, Int.toNat_natCast]
            rw [e1]
            exact (step_store rb w0 w B b db x y k g _ wc p _ W lps s nw h hs hp hlen hend' hn' t htk hx8 hy8 xc _ rfl hk (by omega) rfl hx).mono fun e w' h => ⟨h.1, _, _, h.2⟩
        have hrest : op = 3 ∨ op = 4 ∨ op = 5 ∨ op = 6 ∨ op = 7 ∨ op = 8 ∨ op = 12 := by unfold isOp at ho; simp only at ho; omega
        obtain ⟨z, rfl, hz8⟩ := nat_of (okIns_c hi hrest)
        by_cases h12 : op = 12
        · subst h12
          by_cases hr : t.reg x < 0 ∨ lps ≤ t.reg x
          · have e2 : vflt lps ((12, (x : Int), (y : Int), (z : Int)) : Ins4) t = 6 := if_pos hr
            rw [e2, if_neg (by decide), if_neg (by decide)]
            exact (step_nodst rb w0 w B b db p _ _ W lps s nw h hs hp hlen hend' hn' t htk x y z hx8 _ rfl hr hx).mono fun e w' h => ⟨h.1, _, _, h.2⟩
          · by_cases h4 : 4 ≤ t.s.length
            · have e2 : vflt lps ((12, (x : Int), (y : Int), (z : Int)) : Ins4) t = 5 := (if_neg hr).trans (if_pos h4)
              rw [e2, if_neg (by decide), if_neg (by decide)]
              exact (step_full rb w0 w B b db x y z _ sc sA p _ W lps s nw h hs hp hlen hend' hn' t htk hx8 _ rfl (by omega) h4 hx).mono fun e w' h => ⟨h.1, _, _, h.2⟩
            · have e2 : vflt lps ((12, (x : Int), (y : Int), (z : Int)) : Ins4) t = 0 := (if_neg hr).trans (if_neg h4)
              rw [if_pos e2, if_pos e2]
              exact (step_send rb w0 w B b db x y z _ sc sA p _ W lps s nw h hs hp hlen hend' hn' t htk hx8 hy8 hz8 _ _ _ rfl rfl rfl (by omega) (by omega) (by omega) hx).mono fun e w' h => ⟨h.1, _, by obtain ⟨_, A1, c1, h2⟩ := h; exact ⟨_, h2⟩⟩
        · have h38 : 3 ≤ op ∧ op ≤ 8 := by omega
          have e2 : vflt lps ((op, (x : Int), (y : Int), (z : Int)) : Ins4) t = twoF op (t.reg z) := by
            unfold vflt
            simp only
            rw [if_neg (by omega), if_neg h11, if_neg h12, if_neg h13, if_neg h14]
          have e1 : vone W ((op, (x : Int), (y : Int), (z : Int)) : Ins4) t = t.put x (twoI op (t.reg y) (t.reg z)) := by
            unfold vone
            simp only
            rw [if_neg h1, if_neg h2, if_neg h9, if_neg h10, if_neg h11, if_neg h12, if_neg h13, if_neg h14]
          rw [e1, e2]
          by_cases hf : twoF op (t.reg z) = 0
          · rw [if_pos hf, if_pos hf]
            exact (step_comp rb w0 w B b db p _ _ W lps s nw h hs hp hlen hend' hn' t htk op h38 x y z hx8 hy8 hz8 _ _ rfl rfl hf hx).mono fun e w' h => ⟨h.1, _, _, h.2⟩
          · rw [if_neg hf, if_neg hf]
            have hd : (op = 6 ∨ op = 7) ∧ t.reg z = 0 := by
              unfold twoF at hf
              by_cases hc : (op = 6 ∨ op = 7) ∧ t.reg z = 0
              · exact hc
              · rw [if_neg hc] at hf
                exact absurd rfl hf
            have e3 : twoF op (t.reg z) = 2 := if_pos hd
            rw [e3]
            exact (step_nodiv rb w0 w B b db p _ _ W lps s nw h hs hp hlen hend' hn' t htk op hd.1 x y z hx8 hy8 hz8 hd.2 hx).mono fun e w' h => ⟨h.1, _, _, h.2⟩
end Go.Proofs.Ytpfcmfannkbipaa
end

section
set_option linter.unusedVariables false
set_option linter.unusedSimpArgs false
set_option maxRecDepth 20000
namespace Go.Proofs.Ytpfcmfannkbipaa
open Go.RowKit Go.Deep

theorem catch_fault (p : Addr) (x f : Int) (older : List PanicEntry) (w : World) (hc : w.cell? p = some (.int .i64 x)) (hz : w.frozen? p = false) :
    CallsD Try.prog 115 #[.pointer (some p)] (.panicking ({ v := .iface 164 (.int .i64 f), recovered := false } :: older)) w fun e u' w' =>
      e = .returned (.tuple #[]) ∧ u' = .panicking ({ v := .iface 164 (.int .i64 f), recovered := true } :: older) ∧ w' = w.setCell p (.int .i64 f) := by
  have hta : ∀ t w, (Instr.typeAssert (.iface 164 (.int .i64 f)) t 164 true).run Try.prog w = .ok (.tuple #[.int .i64 f, .bool true]) w := fun t w => by rfl
  refine callsD_of_wpS Try.func115 rfl fun c₀ cs hu => ?_
  apply wpS_seq
  apply wpS_region
  simp [wpOpsS, go_sem, recoverD, hu, Try.ntmps115, Exit.thenS]
  refine wpS_of_wp ?_
  change Code.wp _ _ _ { tmps := #[.pointer (some p), undef, undef, undef, .iface 164 (.int .i64 f), undef, undef, undef, undef, undef], defers := [] } w
  go_wp2_with fail
  simp [bodyPostS, results, Try.results115]
theorem catch_idle (p : Addr) (w : World) :
    CallsD Try.prog 115 #[.pointer (some p)] .returning w fun e u' w' => e = .returned (.tuple #[]) ∧ u' = .returning ∧ w' = w := by
  refine callsD_of_wpS Try.func115 rfl fun c₀ cs hu => ?_
  apply wpS_seq
  apply wpS_region
  simp [wpOpsS, go_sem, recoverD, hu, Try.ntmps115, Exit.thenS]
  refine wpS_of_wp ?_
  change Code.wp _ _ _ { tmps := #[.pointer (some p), undef, undef, undef, .nilIface, undef, undef, undef, undef, undef], defers := [] } w
  go_wp2_with fail
  simp [bodyPostS, results, Try.results115]
  cases c₀
  simp only at hu
  subst hu
  rfl
section
variable {w0 w : World} {B b db : Nat} {pv wv sv : Value} {W lps : Int} {s : VS}
/-- A result's block is made. -/
theorem RunS.withRes (h : RunS none w0 w B b db pv wv sv W lps s) : RunS (some w.heap.size) w0 (w.alloc (.cells #[.int .i64 0] 3)) B b db pv wv sv W lps s := by
  have h1 := h.alloc (.cells #[.int .i64 0] 3)
  refine ⟨h1.bel, h1.blk, h1.dic, h1.wrd, h1.snt, h1.lb, h1.ld, h1.siz, h1.lo, h1.lod, fun r hr => ?_⟩
  injection hr with hr
  subst hr
  exact ⟨Blk.new w _ _, fun e => absurd (World.ownsRow.lt h.wrd _ e).2 (by omega)⟩
/-- A result is laid. -/
theorem RunS.endRes {r : Nat} (h : RunS (some r) w0 w B b db pv wv sv W lps s) (hr : w0.heap.size ≤ r) (u : Value) : RunS none w0 (w.setCell ⟨r, 0, none⟩ u) B b db pv wv sv W lps s := by
  obtain ⟨h1, h2⟩ := h.res r rfl
  have hg : w.grownBy (w.setCell ⟨r, 0, none⟩ u) (some r) := only_setCell (World.grownBy.refl w _) (.inl rfl) _
  refine ⟨h.bel.setCell (p := ⟨r, 0, none⟩) hr _, h.blk.far (p := ⟨r, 0, none⟩) (h.blk.neT h1 (by decide)) _, Blk.far h.dic (p := ⟨r, 0, none⟩) (Blk.neT h.dic h1 (by decide)) _, World.ownsRow.kept h.wrd hg (.inr fun e => h2 e), World.ownsRow.kept h.snt hg (.inr fun e => ?_), h.lb, h.ld, by simpa [World.setCell] using h.siz, h.lo, h.lod, fun r hr => by cases hr⟩
  obtain ⟨cur, hc⟩ := h.snt.typ e
  have h3 := h1
  unfold Blk at h3
  rw [h3] at hc
  injection hc with hc
  injection hc with _ hc
  exact absurd hc (by decide)
end
/-! What a step does to a run. -/
theorem step_cases (p : List Ins4) (W lps : Int) (s : VS) (hn : s.n ≤ 120) :
    (stepE p lps s = .returned (.bool false) ∧ vrun p W lps (120 - s.n) s = (stepS p W lps s, 0)) ∨
    (stepE p lps s = .returned (.bool true) ∧ s.n < 120 ∧ (stepS p W lps s).n = s.n + 1 ∧ vrun p W lps (120 - s.n) s = vrun p W lps (120 - (s.n + 1)) (stepS p W lps s)) ∨
    (∃ f, stepE p lps s = .panicked (faultP f) ∧ vrun p W lps (120 - s.n) s = (stepS p W lps s, f)) := by
  unfold stepE stepS
  by_cases h1 : p.length ≤ s.at_
  · rw [if_pos h1, if_pos h1]
    refine .inl ⟨rfl, ?_⟩
    cases 120 - s.n with
    | zero => exact if_pos h1
    | succ k => exact if_pos h1
  · rw [if_neg h1, if_neg h1]
    by_cases h2 : 120 ≤ s.n
    · rw [if_pos h2, if_pos h2, show 120 - s.n = 0 from by omega]
      exact .inr (.inr ⟨1, rfl, if_neg h1⟩)
    · rw [if_neg h2, if_neg h2]
      obtain ⟨k, hk⟩ : ∃ k, 120 - s.n = k + 1 := ⟨120 - s.n - 1, by omega⟩
      rw [hk, show 120 - (s.n + 1) = k from by omega]
      have e : vrun p W lps (k + 1) s = (if (p.getD s.at_ (0, 0, 0, 0)).1 = 0 then (s.tick, 0) else if vflt lps (p.getD s.at_ (0, 0, 0, 0)) s.tick = 0 then vrun p W lps k (vone W (p.getD s.at_ (0, 0, 0, 0)) s.tick) else (s.tick, vflt lps (p.getD s.at_ (0, 0, 0, 0)) s.tick)) := if_neg h1
      rw [e]
      by_cases h3 : (p.getD s.at_ (0, 0, 0, 0)).1 = 0
      · rw [if_pos h3, if_pos h3, if_pos h3]
        exact .inl ⟨rfl, rfl⟩
      · rw [if_neg h3, if_neg h3, if_neg h3]
        by_cases h4 : vflt lps (p.getD s.at_ (0, 0, 0, 0)) s.tick = 0
        · rw [if_pos h4, if_pos h4, if_pos h4]
          refine .inr (.inl ⟨rfl, by omega, ?_, rfl⟩)
          unfold vone VS.put VS.tick
          repeat' split
          all_goals rfl
        · rw [if_neg h4, if_neg h4, if_neg h4]
          exact .inr (.inr ⟨_, rfl, rfl⟩)
theorem stepS_ok {p : List Ins4} {nw : Nat} {lps W : Int} {s : VS} (hp : ∀ x ∈ p, okIns p.length x ∧ I64 x.2.2.1) (hs : s.Ok p.length nw lps) : (stepS p W lps s).Ok p.length nw lps := by
  unfold stepS
  split
  · exact hs
  · rename_i hlt
    have hm := hp _ (getD_mem (d := ((0, 0, 0, 0) : Ins4)) (Nat.lt_of_not_le hlt))
    have ht := hs.tick (Nat.lt_of_not_le hlt)
    split
    · exact hs
    · split
      · exact ht
      · split
        · exact ht.one hm.1 hm.2 (by assumption)
        · exact ht
/-- In the loop of a run: k rounds at most are to come. -/
def AllRel (w0 : World) (r B b db : Nat) (p : Sl Ins4) (W lps : Int) (nw : Nat) (R : VS × Int) (k : Nat) (wr : World) : Prop :=
  ∃ (s : VS) (wv sv : Value), RunS (some r) w0 wr B b db p.val wv sv W lps s ∧ s.Ok p.L.length nw lps ∧ s.n ≤ 120 ∧ k = 121 - s.n ∧ vrun p.L W lps (120 - s.n) s = R
theorem all_any (w0 w : World) (B b db : Nat) (p : Sl Ins4) (wv sv : Value) (W lps : Int) (s : VS) (nw : Nat) (h : RunS none w0 w B b db p.val wv sv W lps s) (hs : s.Ok p.L.length nw lps) (hn : s.n ≤ 120) (hp : p.At InsAt 4 w0) (hlen : p.L.length ≤ 1000)
    (hok : ∀ x ∈ p.L, okIns p.L.length x ∧ I64 x.2.2.1) (hlps : I64 lps) (R : VS × Int) (hR : vrun p.L W lps (120 - s.n) s = R) :
    Calls Try.prog 101 #[.pointer (some ⟨b, 0, none⟩)] w fun e w' => e = .returned (.int .i64 R.2) ∧ ∃ wv sv, RunS none w0 w' B b db p.val wv sv W lps R.1 := by
  have hmf : ∀ (fn : Fn) (first cap : Array Value) (w : World), (Instr.makeFunc fn first cap).run Try.prog w = .ok (.func fn first cap) w := fun _ _ _ _ => rfl
  have hlo : w0.heap.size ≤ w.heap.size := h.bel.size
  have H0 := hide (show AllRel w0 w.heap.size B b db p W lps nw R (121 - s.n) _ from ⟨s, wv, sv, h.withRes, hs, hn, rfl, hR⟩)
  have HC := hide (And.intro hp (And.intro hlen (And.intro hok hlps)))
  clear h hs hn hp hlen hok hlps hR
  go_enter_defers Try.func101, Try.ntmps101
  go_wp2
  generalize w.alloc _ = w1 at *
  generalize w.heap.size = r at *
  go_loopg [4] (121 - s.n) (fun k _ wr => AllRel w0 r B b db p W lps nw R k wr)
  case atStart => exact H0.out
  case round =>
    clear H0
    obtain ⟨s1, wv1, sv1, h1, hs1, hn1, rfl, hR1⟩ := hrel
    obtain ⟨hp, hlen, hok, hlps⟩ := HC.out
    have ST := vstep_any (some r) w0 wr B b db p wv1 sv1 W lps s1 nw h1 hs1 hp hlen hok hlps
    have hok2 := stepS_ok (W := W) hok hs1
    clear hp hlen hok hlps h1 hs1
    rcases step_cases p.L W lps s1 hn1 with ⟨e1, e2⟩ | ⟨e1, hlt, e3, e2⟩ | ⟨f, e1, e2⟩
    · rw [e1] at ST
      have HE := hide (e2.symm.trans hR1)
      have HS := hide ST
      clear ST e1 e2 hR1 hn1 hok2
      generalize stepS p.L W lps s1 = s2 at *
      go_wp2_with fail
      refine HS.out.mono ?_
      rintro e w2 ⟨rfl, wv2, sv2, h2⟩
      have H2 := hide h2
      have rc := (h2.res r rfl).1.cell 0
      have rf := (h2.res r rfl).1.frozen 0
      simp only [List.getElem?_toArray, List.getElem?_cons_zero] at rc
      have hres := (h2.endRes hlo (.int .i64 0))
      have rc2 := World.cell?_setCell_same w2 ⟨r, 0, none⟩ (.int .i64 0) rc
      clear h2
      go_wp2_with fail
      have R2 : R.2 = 0 := by rw [← HE.out]
      have R1 : R.1 = s2 := by rw [← HE.out]
      refine leaves_cons (f := 115) (args := #[.pointer (some ⟨r, 0, none⟩)]) (by simp) (by simp [go_sem]) ?_
      refine (catch_idle ⟨r, 0, none⟩ _).mono ?_
      rintro e u' w'' ⟨rfl, rfl, rfl⟩
      simp [Leaves, settle, results, Try.results101, go_sem, rc2, R2]
      exact ⟨wv2, sv2, by rw [R1]; exact hres⟩
    · rw [e1] at ST
      have HE := hide (e2.symm.trans hR1)
      have HS := hide ST
      have HN := hide e3
      clear ST e1 e2 hR1 e3
      generalize stepS p.L W lps s1 = s2 at *
      go_wp2_with fail
      refine HS.out.mono ?_
      rintro e w2 ⟨rfl, wv2, sv2, h2⟩
      have H2 := hide h2
      clear h2
      go_wp2_with fail
      go_roundg (121 - (s1.n + 1))
      case measure => omega
      case rel => exact ⟨s2, wv2, sv2, H2.out, hok2, by rw [HN.out]; omega, by rw [HN.out], by rw [HN.out]; exact HE.out⟩
    · rw [e1] at ST
      have HE := hide (e2.symm.trans hR1)
      have HS := hide ST
      clear ST e1 e2 hR1 hn1 hok2
      generalize stepS p.L W lps s1 = s2 at *
      go_wp2_with fail
      refine HS.out.mono ?_
      rintro e w2 ⟨rfl, wv2, sv2, h2⟩
      have rc := (h2.res r rfl).1.cell 0
      have rf := (h2.res r rfl).1.frozen 0
      simp only [List.getElem?_toArray, List.getElem?_cons_zero] at rc
      have hres := (h2.endRes hlo (.int .i64 f))
      have rc2 := World.cell?_setCell_same w2 ⟨r, 0, none⟩ (.int .i64 f) rc
      have R2 : R.2 = f := by rw [← HE.out]
      have R1 : R.1 = s2 := by rw [← HE.out]
      refine leaves_cons (f := 115) (args := #[.pointer (some ⟨r, 0, none⟩)]) (by simp) (by simp [go_sem]) ?_
      refine (catch_fault ⟨r, 0, none⟩ 0 f [] _ rc rf).mono ?_
      rintro e u' w'' ⟨rfl, rfl, rfl⟩
      simp [Leaves, settle, results, Try.results101, go_sem, rc2, R2]
      exact ⟨wv2, sv2, by rw [R1]; exact hres⟩
end Go.Proofs.Ytpfcmfannkbipaa
end

section
set_option linter.unusedVariables false
set_option linter.unusedSimpArgs false
set_option maxRecDepth 20000
namespace Go.Proofs.Ytpfcmfannkbipaa
open Go.RowKit Go.Deep

/-- What a handler runs on. -/
structure Inp where
  wd : Sl Int
  pay : Int
  me : Int
  lps : Int
  seed : Int
  dice : Int
def Inp.cells (i : Inp) : Array Value := #[i.wd.val, .int .i64 i.pay, .int .i64 i.me, .int .i64 i.lps, .int .i64 i.seed, .int .i64 i.dice]
def Inp.val (i : Inp) : Value := .agg i.cells
structure Inp.At (w : World) (i : Inp) : Prop where
  wd : i.wd.At IntAt 1 w
  pay : I64 i.pay
  me : I64 i.me
  lps : I64 i.lps
  seed : I64 i.seed
  dice : I64 i.dice
theorem Inp.At.below {w w' : World} {i : Inp} (h : i.At w) (hb : Below w.heap.size w w') : i.At w' := ⟨h.wd.below IntAt.keeps hb, h.pay, h.me, h.lps, h.seed, h.dice⟩
theorem sl_ints {w : World} {s : Sl Int} (h : s.At IntAt 1 w) : ∀ z ∈ s.L, I64 z := by
  intro z hz
  obtain ⟨i, hi, rfl⟩ := List.getElem_of_mem hz
  obtain ⟨a, _, h1⟩ := h.1 i s.L[i] (List.getElem?_eq_getElem hi)
  exact h1.2
theorem rc_words {pv wv sv : Value} {lps : Int} {db : Nat} {s : VS} (h8 : s.g.length = 8) (v : Value) (l : List Int) : (runCells pv wv sv lps db s).setIfInBounds 9 v = runCells pv v sv lps db { s with w := l } := by
  unfold runCells
  rw [List.setIfInBounds_toArray, show 9 = 9 + 0 from rfl, set_tail _ _ _ _ _ (by rw [List.length_map]; exact h8)]
  rfl
/-- The words are copied. -/
theorem RunS.words {w0 w : World} {B b db : Nat} {pv sv : Value} {W lps : Int} {s : VS} (h : RunS none w0 w B b db pv (.slice none 0 0) sv W lps s) (h8 : s.g.length = 8) (x : Sl Int) (hx : x.At IntAt 1 w) (hn : x.L.length ≤ 1000) (ty : TypeId) :
    ∃ (A : Option Addr) (c : Nat) (w1 : World), (Builtin.append_ #[59, 59] ty #[.slice none 0 0, x.val]).run Try.prog w = .ok (.slice A x.L.length c) w1 ∧ Below w.heap.size w w1 ∧
      w1.cell? ⟨b, 9, none⟩ = some (.slice none 0 0) ∧ w1.frozen? ⟨b, 9, none⟩ = false ∧ RunS none w0 (w1.setCell ⟨b, 9, none⟩ (.slice A x.L.length c)) B b db pv (.slice A x.L.length c) sv W lps { s with w := x.L } := by
  obtain ⟨v1, w1, hrun, hown, hext⟩ := run_append_src (P := Try.prog) 3 59 ty 1 8 (.int .i64 0) encInt (by decide) (fun _ => rfl) one_int Try.underlying59 inf_int rfl w B _ (.slice none 0 0) [] x.L x.A x.L.length x.c OwnR.nil
    (hx.1.reads (size := 1) (by decide) (fun _ => rfl) lays_int) rfl (by simp; omega) (by simp; omega) h.siz
  rw [List.nil_append] at hown
  obtain ⟨⟨qA, qc, qL⟩, hv, hL, _, _⟩ := hown.form
  simp only [Sl.val] at hv hL
  subst hL
  subst hv
  have hb1 : Below w.heap.size w w1 := hext.below (Nat.le_refl _) (by simp [Value.ownBlock])
  have h1 := h.below hb1
  refine ⟨qA, qc, w1, hrun, hb1, (h1.tails h8).2.1, h1.free 9, ⟨h1.bel.setCell (p := ⟨b, 9, none⟩) h1.lo _, ?_, Blk.far h1.dic (p := ⟨b, 9, none⟩) (Ne.symm h1.ne) _, hown.setCell (p := ⟨b, 9, none⟩) h1.lb _, h1.snt.setCell (p := ⟨b, 9, none⟩) h1.lb _, h1.lb, h1.ld, by simpa [World.setCell] using h1.siz, h1.lo, h1.lod, fun r hr => by cases hr⟩⟩
  rw [← rc_words (s := s) (wv := .slice none 0 0) h8 _ x.L]
  exact h1.blk.set_ 9 _
set_option maxHeartbeats 4000000 in
theorem begin_any (w : World) (p : Sl Ins4) (i : Inp) (hi : i.At w) (h8 : i.wd.L.length ≤ 8) :
    Calls Try.prog 100 #[p.val, i.val] w fun e w' => ∃ (B b db : Nat) (wv : Value), e = .returned (.pointer (some ⟨b, 0, none⟩)) ∧ RunS none w w' B b db p.val wv (.slice none 0 0) (wordI i.seed i.me) i.lps (vbeg i.wd.L i.pay i.me i.lps i.dice) := by
  obtain ⟨⟨wA, wc, wL⟩, pay, me, lps, seed, dice⟩ := i
  have hX := Blk.new w 112 #[.slice wA wL.length wc, .int .i64 pay, .int .i64 me, .int .i64 lps, .int .i64 seed, .int .i64 dice]
  have hb : Below w.heap.size w (w.alloc (.cells #[.slice wA wL.length wc, .int .i64 pay, .int .i64 me, .int .i64 lps, .int .i64 seed, .int .i64 dice] 112)) := (Below.refl _ _).alloc (Nat.le_refl _) _
  have HI := hide hi
  have H8 := hide h8
  clear hi h8
  unfold Inp.val Inp.cells Sl.val
  go_enter Try.func100, Try.ntmps100
  go_upto_region 1 with fail
  generalize w.alloc _ = w1 at *
  have hlt := hX.lt
  have hge : w.heap.size ≤ w.heap.size := Nat.le_refl _
  generalize hr0 : w.heap.size = r0 at hX hlt hge ⊢
  have c0 := hX.drew.cell 0
  have c1 := hX.drew.cell 1
  have c2 := hX.drew.cell 2
  have c3 := hX.drew.cell 3
  have c4 := hX.drew.cell 4
  have c5 := hX.drew.cell 5
  simp only [List.getElem?_toArray, List.getElem?_cons_zero, List.getElem?_cons_succ] at c0 c1 c2 c3 c4 c5
  have HX := hide hX.drew
  have HR := hide hr0
  have HB := hide hb.drew
  clear hX hr0 hb
  go_region_held3 (fun w' => w'.cell? ⟨r0, 2, none⟩ = some (.int .i64 me) ∧ w'.cell? ⟨r0, 3, none⟩ = some (.int .i64 lps) ∧ w'.cell? ⟨r0, 4, none⟩ = some (.int .i64 seed) ∧ w'.cell? ⟨r0, 5, none⟩ = some (.int .i64 dice))
    (first
      | (go_split_ands; exact ⟨by assumption, by assumption, by assumption, by assumption⟩)
      | (go_split_ands; exact ⟨HX6.cell 2, HX6.cell 3, HX6.cell 4, HX6.cell 5⟩)
      | (go_split_ands; exact ⟨(HX6.alloc _).cell 2, (HX6.alloc _).cell 3, (HX6.alloc _).cell 4, (HX6.alloc _).cell 5⟩))
    (first
      | (go_at_call 114; refine (new_any _ _ _ _).mono ?_; rintro e w6 ⟨rfl, hd6, hb6⟩; have HX6 := HX.out.below hb6 HX.out.lt))
  rename_i hHeld
  clear hHeld
  have hz6 : w1.heap.size < w6.heap.size := hd6.lt
  have hx6 : r0 < w6.heap.size := HX6.lt
  have hS0 : RunS none w (w6.alloc (.cells (runCells p.val (.slice none 0 0) (.slice none 0 0) lps w1.heap.size ⟨[0, 0, 0, 0, 0, 0, 0, 0], [], [], dice, 0, 0⟩) 154)) (w6.heap.size + 1) w6.heap.size w1.heap.size p.val (.slice none 0 0) (.slice none 0 0) (wordI seed me) lps ⟨[0, 0, 0, 0, 0, 0, 0, 0], [], [], dice, 0, 0⟩ := by
    have hb7 : Below w.heap.size w w6 := below_after HB.out hb6
    have hz : ∀ o, (w6.alloc o).heap.size = w6.heap.size + 1 := fun o => Array.size_push ..
    have hz1 : w1.drew.heap.size = w1.heap.size := rfl
    refine ⟨hb7.alloc hb7.size _, Blk.new w6 _ _, Blk.alloc hd6 _, OwnR.nil, OwnR.nil, by omega, by omega, by rw [hz]; omega, hb7.size, by have := HB.out.size; omega, fun r hr => by cases hr⟩
  have HX7 := hide (HX6.alloc (.cells (runCells p.val (.slice none 0 0) (.slice none 0 0) lps w1.heap.size ⟨[0, 0, 0, 0, 0, 0, 0, 0], [], [], dice, 0, 0⟩) 154))
  have HS := hide hS0
  have hbx : w6.heap.size ≠ r0 := by omega
  clear hS0 HX6 c0 c1 c2 c3 c4 c5 HX HR HB
  change Exit.then _ _ Exit.normal _ (w6.alloc (.cells (runCells p.val (.slice none 0 0) (.slice none 0 0) lps w1.heap.size ⟨[0, 0, 0, 0, 0, 0, 0, 0], [], [], dice, 0, 0⟩) 154))
  generalize w6.alloc (.cells (runCells p.val (.slice none 0 0) (.slice none 0 0) lps w1.heap.size ⟨[0, 0, 0, 0, 0, 0, 0, 0], [], [], dice, 0, 0⟩) 154) = w7 at *
  generalize w6.heap.size = b at *
  generalize w1.heap.size = db at *
  go_upto_region 2 with fail
  have x0 := HX7.out.cell 0
  have x9 := (HS.out.tails rfl).2.1
  simp only [List.getElem?_toArray, List.getElem?_cons_zero, List.getElem?_cons_succ] at x0
  obtain ⟨A2, c2, w8, hrun, hb8, y9, f9, hS2⟩ := HS.out.drew.words rfl ⟨wA, wc, wL⟩ (HI.out.below HS.out.drew.bel).wd (by have := H8.out; simp only at this ⊢; omega) 59
  simp only [Sl.val] at hrun
  have HS2 := hide hS2
  have HX9 := hide ((HX7.out.drew.below hb8 HX7.out.drew.lt).far (p := ⟨b, 9, none⟩) (Ne.symm hbx) (.slice A2 wL.length c2))
  clear hS2 HX7 hb8
  refine wp_region_reads (fun w' => w'.cell? ⟨b, 9, none⟩ = some (.slice none 0 0) ∧ w'.cell? ⟨r0, 0, none⟩ = some (.slice wA wL.length wc))
    (.pointer (some ⟨b, 0, none⟩)) 6 0 (by kernel_rfl) (by kernel_rfl) (Or.inl ⟨by rfl, fun w => by rfl⟩) (fun _ _ _ h => h) ⟨x9, x0⟩ ?_
  clear x9 x0 HS
  simp only [Act.put, List.setIfInBounds_toArray, List.set_cons_zero, List.set_cons_succ, List.take_succ_cons, List.take_zero, List.drop_succ_cons, List.drop_zero]
  repeat (refine head_step ?_ (by rfl) ?_ (fun _ _ _ h => h) ?_; rotate_left; (intro w' hs; obtain ⟨z1, z2⟩ := hs; go_simp; (try with_reducible rfl)); (try simp only [Act.put, List.setIfInBounds_toArray, List.set_cons_zero, List.set_cons_succ]))
  refine head_nil ?_
  refine mid_nil ?_
  try simp only [Act.put, List.setIfInBounds_toArray, List.set_cons_zero, List.set_cons_succ]
  go_upto_region 3 with (at_builtin; refine wpList_of_append rfl _ w8 (.tmp 22) (.tmp 24) 59 _ _ _ rfl rfl rfl hrun ?_)
  replace HS2 : Hid (RunS none w (w8.setCell ⟨b, 9, none⟩ (.slice A2 wL.length c2)) (b + 1) b db p.val (.slice A2 wL.length c2) (.slice none 0 0) (wordI seed me) lps ⟨[0, 0, 0, 0, 0, 0, 0, 0], wL, [], dice, 0, 0⟩) := HS2
  clear hrun y9 f9 hd6 hb6
  generalize w8.setCell ⟨b, 9, none⟩ (.slice A2 wL.length c2) = w9 at *
  have x0 := HX9.out.cell 0
  have x1 := HX9.out.cell 1
  have x2 := HX9.out.cell 2
  have x3 := HX9.out.cell 3
  have f1 := HS2.out.free 1
  have f2 := HS2.out.free 2
  have f3 := HS2.out.free 3
  have f4 := HS2.out.free 4
  have f5 := HS2.out.free 5
  have f6 := HS2.out.free 6
  have f7 := HS2.out.free 7
  have f8 := HS2.out.free 8
  have g1 := HS2.out.blk.cell 1
  have g2 := HS2.out.blk.cell 2
  have g3 := HS2.out.blk.cell 3
  have g4 := HS2.out.blk.cell 4
  have g5 := HS2.out.blk.cell 5
  have g6 := HS2.out.blk.cell 6
  have g7 := HS2.out.blk.cell 7
  have g8 := HS2.out.blk.cell 8
  simp only [runCells, List.map_cons, List.map_nil, List.cons_append, List.nil_append, List.getElem?_toArray, List.getElem?_cons_zero, List.getElem?_cons_succ] at x0 x1 x2 x3 g1 g2 g3 g4 g5 g6 g7 g8
  go_wp2_with fail
  have h1 := HS2.out.put rfl (i := 0) (by decide) pay
  have h2 := h1.put rfl (i := 1) (by decide) me
  have h3 := h2.put rfl (i := 2) (by decide) lps
  have h4 := h3.put rfl (i := 3) (by decide) wL.length
  have h5 := h4.put rfl (i := 4) (by decide) 0
  have h6 := h5.put rfl (i := 5) (by decide) 0
  have h7 := h6.put rfl (i := 6) (by decide) 0
  have h8 := h7.put rfl (i := 7) (by decide) 0
  have HZ := hide h8
  clear h1 h2 h3 h4 h5 h6 h7 h8 f1 f2 f3 f4 f5 f6 f7 f8 g1 g2 g3 g4 g5 g6 g7 g8 x0 x1 x2 x3
  go_ret
  exact ⟨b + 1, b, db, _, rfl, HZ.out⟩
/-! May it be run? -/
def MayRel (w : World) (r0 : Nat) (cs : Array Value) (len : Nat) (f : Nat → Bool) (i : Value) (wr : World) : Prop :=
  ∃ k : Nat, k ≤ len ∧ i = .int .i64 k ∧ (∀ j, j < k → f j = true) ∧ Blk wr r0 112 cs ∧ Below w.heap.size w wr
theorem all_take {p : List Ins4} {P : Ins4 → Bool} (h : ∀ j, j < p.length → P (p.getD j (0, 0, 0, 0)) = true) : p.all P = true := by
  rw [List.all_eq_true]
  intro x hx
  obtain ⟨i, hi, rfl⟩ := List.getElem_of_mem hx
  have := h i hi
  rwa [List.getD_eq_getElem?_getD, List.getElem?_eq_getElem hi] at this
theorem all_not {p : List Ins4} {P : Ins4 → Bool} {k : Nat} (hk : k < p.length) (h : P (p.getD k (0, 0, 0, 0)) = false) : p.all P = false := by
  rw [List.all_eq_false]
  exact ⟨_, getD_mem hk, by rw [h]; decide⟩
set_option maxHeartbeats 2000000 in
theorem may_any (w : World) (p : Sl Ins4) (i : Inp) (hp : p.At InsAt 4 w) (hi : i.At w) :
    Calls Try.prog 99 #[p.val, i.val] w fun e w' => e = .returned (.int .i64 (vmay p.L i.wd.L.length)) ∧ Below w.heap.size w w' := by
  obtain ⟨⟨wA, wc, wL⟩, pay, me, lps, seed, dice⟩ := i
  obtain ⟨pA, pc, pL⟩ := p
  have hX := Blk.new w 112 #[.slice wA wL.length wc, .int .i64 pay, .int .i64 me, .int .i64 lps, .int .i64 seed, .int .i64 dice]
  have hb : Below w.heap.size w (w.alloc (.cells #[.slice wA wL.length wc, .int .i64 pay, .int .i64 me, .int .i64 lps, .int .i64 seed, .int .i64 dice] 112)) := (Below.refl _ _).alloc (Nat.le_refl _) _
  have hpb := hp.2
  simp only at hpb
  have HB := hide hb
  unfold Inp.val Inp.cells Sl.val
  simp only
  by_cases h1 : pL.length < 1 ∨ 48 < pL.length
  · have e1 : vmay pL wL.length = 15 := if_pos h1
    rw [e1]
    clear e1 hX hb hp hi
    rcases h1 with h1 | h1
    · have e2 : pL.length = 0 := by omega
      clear h1
      rw [e2]
      go_enter Try.func99, Try.ntmps99
      go_wp2_with fail
      go_ret
      exact ⟨rfl, HB.out⟩
    · have d1 : ((pL.length : Int) == 0) = false := by rw [beq_eq_false_iff_ne]; omega
      have d2 : decide ((48 : Int) < (pL.length : Int)) = true := decide_eq_true (by omega)
      go_enter Try.func99, Try.ntmps99
      go_wp2_with fail
      go_ret
      exact ⟨rfl, HB.out⟩
  · have hl : 1 ≤ pL.length ∧ pL.length ≤ 48 := by omega
    have d1 : ((pL.length : Int) == 0) = false := by rw [beq_eq_false_iff_ne]; omega
    have d2 : decide ((48 : Int) < (pL.length : Int)) = false := decide_eq_false (by omega)
    have e1 : vmay pL wL.length = (if (pL.all fun x => insB x.1 x.2.1 x.2.2.1 x.2.2.2 pL.length) = true then (if 8 < wL.length then 2 else 0) else 15) := if_neg h1
    obtain ⟨V, hV⟩ : ∃ V, (if (pL.all fun x => insB x.1 x.2.1 x.2.2.1 x.2.2.2 pL.length) = true then (if 8 < wL.length then (2 : Int) else 0) else 15) = V := ⟨_, rfl⟩
    rw [e1, hV]
    have HV0 := hide hV
    clear e1 h1 hV
    have HI := hide hi
    have HP := hide hp
    have HX := hide hX
    clear hi hp hX hb
    go_enter Try.func99, Try.ntmps99
    go_upto_region 4 with fail
    generalize w.alloc _ = w1 at *
    have HL := hide hl
    clear d1 d2 hl
    go_loopw [17] (fun i wr => MayRel w w.heap.size #[.slice wA wL.length wc, .int .i64 pay, .int .i64 me, .int .i64 lps, .int .i64 seed, .int .i64 dice] pL.length (fun j => insB (pL.getD j (0, 0, 0, 0)).1 (pL.getD j (0, 0, 0, 0)).2.1 (pL.getD j (0, 0, 0, 0)).2.2.1 (pL.getD j (0, 0, 0, 0)).2.2.2 pL.length) i wr) (fun i _ => pL.length - (intOf i).toNat)
    case atStart => exact ⟨0, Nat.zero_le _, rfl, fun j hj => absurd hj (by omega), HX.out, HB.out⟩
    case round =>
      clear HX HB
      obtain ⟨k, hk, rfl, hall, hX, hb⟩ := hrel
      have HA := hide hall
      clear hall
      by_cases hlt : k < pL.length
      · obtain ⟨ad, hA, q0, q1, q2, q3, _⟩ := (HP.out.below InsAt.keeps hb).1 k (pL.getD k (0, 0, 0, 0)) (by
          show pL[k]? = _
          rw [List.getD_eq_getElem?_getD, List.getElem?_eq_getElem hlt]
          rfl)
        simp only at hA
        subst hA
        cases hins : insB (pL.getD k (0, 0, 0, 0)).1 (pL.getD k (0, 0, 0, 0)).2.1 (pL.getD k (0, 0, 0, 0)).2.2.1 (pL.getD k (0, 0, 0, 0)).2.2.2 pL.length
        · have HN := hide (show (if (pL.all fun x => insB x.1 x.2.1 x.2.2.1 x.2.2.2 pL.length) = true then (if 8 < wL.length then (2 : Int) else 0) else 15) = 15 from if_neg (by rw [all_not hlt hins]; decide))
          have IA := hide (fun w => ins_any (pL.getD k (0, 0, 0, 0)).1 (pL.getD k (0, 0, 0, 0)).2.1 (pL.getD k (0, 0, 0, 0)).2.2.1 (pL.getD k (0, 0, 0, 0)).2.2.2 pL.length w)
          rw [hins] at IA
          clear hins
          generalize pL.getD k (0, 0, 0, 0) = x at *
          obtain ⟨op, xa, xb, xc⟩ := x
          simp only at q0 q1 q2 q3 IA
          go_wp2_with fail
          have hb2 := hb.alloc hb.size (.cells #[.int .i64 op, .int .i64 xa, .int .i64 xb, .int .i64 xc] 142)
          refine (IA.out _).mono ?_
          rintro e w2 ⟨rfl, h2⟩
          have HB2 := hide (below_after hb2 h2)
          clear hb2 h2 q0 q1 q2 q3 hX hb
          go_wp2_with fail
          go_ret
          exact ⟨ret_int (HN.out.symm.trans HV0.out), HB2.out⟩
        · have HK := hide hins
          have IA := hide (fun w => ins_any (pL.getD k (0, 0, 0, 0)).1 (pL.getD k (0, 0, 0, 0)).2.1 (pL.getD k (0, 0, 0, 0)).2.2.1 (pL.getD k (0, 0, 0, 0)).2.2.2 pL.length w)
          rw [hins] at IA
          clear hins
          have HR := hide (show ∀ j, j < k + 1 → insB (pL.getD j (0, 0, 0, 0)).1 (pL.getD j (0, 0, 0, 0)).2.1 (pL.getD j (0, 0, 0, 0)).2.2.1 (pL.getD j (0, 0, 0, 0)).2.2.2 pL.length = true from fun j hj => by
            rcases Nat.lt_or_ge j k with h | h
            · exact HA.out j h
            · obtain rfl : j = k := by omega
              exact HK.out)
          clear HK HA
          generalize pL.getD k (0, 0, 0, 0) = x at q0 q1 q2 q3 IA
          obtain ⟨op, xa, xb, xc⟩ := x
          simp only at q0 q1 q2 q3 IA
          go_wp2_with fail
          have hb2 := hb.alloc hb.size (.cells #[.int .i64 op, .int .i64 xa, .int .i64 xb, .int .i64 xc] 142)
          have hX2 := hX.alloc (.cells #[.int .i64 op, .int .i64 xa, .int .i64 xb, .int .i64 xc] 142)
          refine (IA.out _).mono ?_
          rintro e w2 ⟨rfl, h2⟩
          have HB2 := hide (below_after hb2 h2)
          have HX2 := hide (hX2.below h2 hX2.lt)
          clear hb2 h2 q0 q1 q2 q3 hX hb hX2
          have kI : (k : Int) < 48 := by have := HL.out; omega
          go_wp2_with fail
          go_roundw
          case rel => exact ⟨k + 1, by omega, by go_num, HR.out, HX2.out, HB2.out⟩
          case measure => simp [intOf]; omega
      · obtain rfl : k = pL.length := by omega
        have HN := hide (show (if (pL.all fun x => insB x.1 x.2.1 x.2.2.1 x.2.2.2 pL.length) = true then (if 8 < wL.length then (2 : Int) else 0) else 15) = (if 8 < wL.length then (2 : Int) else 0) from if_pos (all_take (P := fun x => insB x.1 x.2.1 x.2.2.1 x.2.2.2 pL.length) HA.out))
        clear HA
        have x0 := hX.cell 0
        simp only [List.getElem?_toArray, List.getElem?_cons_zero] at x0
        have HBX := hide hb
        clear hb hX
        by_cases h8 : 8 < wL.length
        · have d8 : decide ((8 : Int) < (wL.length : Int)) = true := decide_eq_true (by omega)
          have HV := hide (HN.out.trans (if_pos h8))
          go_wp2_with fail
          go_ret
          exact ⟨ret_int (HV.out.symm.trans HV0.out), HBX.out⟩
        · have d8 : decide ((8 : Int) < (wL.length : Int)) = false := decide_eq_false (by omega)
          have HV := hide (HN.out.trans (if_neg h8))
          go_wp2_with fail
          go_ret
          exact ⟨ret_int (HV.out.symm.trans HV0.out), HBX.out⟩
end Go.Proofs.Ytpfcmfannkbipaa
end
