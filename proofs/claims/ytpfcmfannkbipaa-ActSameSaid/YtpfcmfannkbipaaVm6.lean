/- The walk of the machine's run to its end: how it goes wrong is caught. No condition but what holds of every run. -/
import Derived.Test.YtpfcmfannkbipaaVm5
import Derived.Defers
import Derived.Recover
import Derived.Deep.LoopGhost
set_option linter.unusedVariables false
set_option linter.unusedSimpArgs false
set_option maxRecDepth 20000
namespace Go.Proofs.Ytpfcmfannkbipaa
open Go.RowKit Go.Deep

theorem catch_fault (p : Addr) (x f : Int) (older : List PanicEntry) (w : World) (hc : w.cell? p = some (.int .i64 x)) (hz : w.frozen? p = false) :
    CallsD Try.prog 115 #[.pointer (some p)] (.panicking ({ v := .iface 164 (.int .i64 f), recovered := false } :: older)) w fun e u' w' =>
      e = .returned (.tuple #[]) ∧ u' = .panicking ({ v := .iface 164 (.int .i64 f), recovered := true } :: older) ∧ w' = w.setCell p (.int .i64 f) := by
  have hta : ∀ t w, (Instr.typeAssert (.iface 164 (.int .i64 f)) t 164 true).run Try.prog w = .ok (.tuple #[.int .i64 f, .bool true]) w := fun t w => by rfl
  refine callsD_of_wpS Try.func115 rfl fun c₀ cs hu => ?_
  apply wpS_seq
  apply wpS_region
  simp [wpOpsS, go_sem, recoverD, hu, Try.ntmps115, Exit.thenS]
  refine wpS_of_wp ?_
  change Code.wp _ _ _ { tmps := #[.pointer (some p), undef, undef, undef, .iface 164 (.int .i64 f), undef, undef, undef, undef, undef], defers := [] } w
  go_wp2_with fail
  simp [bodyPostS, results, Try.results115]
theorem catch_idle (p : Addr) (w : World) :
    CallsD Try.prog 115 #[.pointer (some p)] .returning w fun e u' w' => e = .returned (.tuple #[]) ∧ u' = .returning ∧ w' = w := by
  refine callsD_of_wpS Try.func115 rfl fun c₀ cs hu => ?_
  apply wpS_seq
  apply wpS_region
  simp [wpOpsS, go_sem, recoverD, hu, Try.ntmps115, Exit.thenS]
  refine wpS_of_wp ?_
  change Code.wp _ _ _ { tmps := #[.pointer (some p), undef, undef, undef, .nilIface, undef, undef, undef, undef, undef], defers := [] } w
  go_wp2_with fail
  simp [bodyPostS, results, Try.results115]
  cases c₀
  simp only at hu
  subst hu
  rfl
section
variable {w0 w : World} {B b db : Nat} {pv wv sv : Value} {W lps : Int} {s : VS}
/-- A result's block is made. -/
theorem RunS.withRes (h : RunS none w0 w B b db pv wv sv W lps s) : RunS (some w.heap.size) w0 (w.alloc (.cells #[.int .i64 0] 3)) B b db pv wv sv W lps s := by
  have h1 := h.alloc (.cells #[.int .i64 0] 3)
  refine ⟨h1.bel, h1.blk, h1.dic, h1.wrd, h1.snt, h1.lb, h1.ld, h1.siz, h1.lo, h1.lod, fun r hr => ?_⟩
  injection hr with hr
  subst hr
  exact ⟨Blk.new w _ _, fun e => absurd (World.ownsRow.lt h.wrd _ e).2 (by omega)⟩
/-- A result is laid. -/
theorem RunS.endRes {r : Nat} (h : RunS (some r) w0 w B b db pv wv sv W lps s) (hr : w0.heap.size ≤ r) (u : Value) : RunS none w0 (w.setCell ⟨r, 0, none⟩ u) B b db pv wv sv W lps s := by
  obtain ⟨h1, h2⟩ := h.res r rfl
  have hg : w.grownBy (w.setCell ⟨r, 0, none⟩ u) (some r) := only_setCell (World.grownBy.refl w _) (.inl rfl) _
  refine ⟨h.bel.setCell (p := ⟨r, 0, none⟩) hr _, h.blk.far (p := ⟨r, 0, none⟩) (h.blk.neT h1 (by decide)) _, Blk.far h.dic (p := ⟨r, 0, none⟩) (Blk.neT h.dic h1 (by decide)) _, World.ownsRow.kept h.wrd hg (.inr fun e => h2 e), World.ownsRow.kept h.snt hg (.inr fun e => ?_), h.lb, h.ld, by simpa [World.setCell] using h.siz, h.lo, h.lod, fun r hr => by cases hr⟩
  obtain ⟨cur, hc⟩ := h.snt.typ e
  have h3 := h1
  unfold Blk at h3
  rw [h3] at hc
  injection hc with hc
  injection hc with _ hc
  exact absurd hc (by decide)
end
/-! What a step does to a run. -/
theorem step_cases (p : List Ins4) (W lps : Int) (s : VS) (hn : s.n ≤ 120) :
    (stepE p lps s = .returned (.bool false) ∧ vrun p W lps (120 - s.n) s = (stepS p W lps s, 0)) ∨
    (stepE p lps s = .returned (.bool true) ∧ s.n < 120 ∧ (stepS p W lps s).n = s.n + 1 ∧ vrun p W lps (120 - s.n) s = vrun p W lps (120 - (s.n + 1)) (stepS p W lps s)) ∨
    (∃ f, stepE p lps s = .panicked (faultP f) ∧ vrun p W lps (120 - s.n) s = (stepS p W lps s, f)) := by
  unfold stepE stepS
  by_cases h1 : p.length ≤ s.at_
  · rw [if_pos h1, if_pos h1]
    refine .inl ⟨rfl, ?_⟩
    cases 120 - s.n with
    | zero => exact if_pos h1
    | succ k => exact if_pos h1
  · rw [if_neg h1, if_neg h1]
    by_cases h2 : 120 ≤ s.n
    · rw [if_pos h2, if_pos h2, show 120 - s.n = 0 from by omega]
      exact .inr (.inr ⟨1, rfl, if_neg h1⟩)
    · rw [if_neg h2, if_neg h2]
      obtain ⟨k, hk⟩ : ∃ k, 120 - s.n = k + 1 := ⟨120 - s.n - 1, by omega⟩
      rw [hk, show 120 - (s.n + 1) = k from by omega]
      have e : vrun p W lps (k + 1) s = (if (p.getD s.at_ (0, 0, 0, 0)).1 = 0 then (s.tick, 0) else if vflt lps (p.getD s.at_ (0, 0, 0, 0)) s.tick = 0 then vrun p W lps k (vone W (p.getD s.at_ (0, 0, 0, 0)) s.tick) else (s.tick, vflt lps (p.getD s.at_ (0, 0, 0, 0)) s.tick)) := if_neg h1
      rw [e]
      by_cases h3 : (p.getD s.at_ (0, 0, 0, 0)).1 = 0
      · rw [if_pos h3, if_pos h3, if_pos h3]
        exact .inl ⟨rfl, rfl⟩
      · rw [if_neg h3, if_neg h3, if_neg h3]
        by_cases h4 : vflt lps (p.getD s.at_ (0, 0, 0, 0)) s.tick = 0
        · rw [if_pos h4, if_pos h4, if_pos h4]
          refine .inr (.inl ⟨rfl, by omega, ?_, rfl⟩)
          unfold vone VS.put VS.tick
          repeat' split
          all_goals rfl
        · rw [if_neg h4, if_neg h4, if_neg h4]
          exact .inr (.inr ⟨_, rfl, rfl⟩)
theorem stepS_ok {p : List Ins4} {nw : Nat} {lps W : Int} {s : VS} (hp : ∀ x ∈ p, okIns p.length x ∧ I64 x.2.2.1) (hs : s.Ok p.length nw lps) : (stepS p W lps s).Ok p.length nw lps := by
  unfold stepS
  split
  · exact hs
  · rename_i hlt
    have hm := hp _ (getD_mem (d := ((0, 0, 0, 0) : Ins4)) (Nat.lt_of_not_le hlt))
    have ht := hs.tick (Nat.lt_of_not_le hlt)
    split
    · exact hs
    · split
      · exact ht
      · split
        · exact ht.one hm.1 hm.2 (by assumption)
        · exact ht
/-- In the loop of a run: k rounds at most are to come. -/
def AllRel (w0 : World) (r B b db : Nat) (p : Sl Ins4) (W lps : Int) (nw : Nat) (R : VS × Int) (k : Nat) (wr : World) : Prop :=
  ∃ (s : VS) (wv sv : Value), RunS (some r) w0 wr B b db p.val wv sv W lps s ∧ s.Ok p.L.length nw lps ∧ s.n ≤ 120 ∧ k = 121 - s.n ∧ vrun p.L W lps (120 - s.n) s = R
theorem all_any (w0 w : World) (B b db : Nat) (p : Sl Ins4) (wv sv : Value) (W lps : Int) (s : VS) (nw : Nat) (h : RunS none w0 w B b db p.val wv sv W lps s) (hs : s.Ok p.L.length nw lps) (hn : s.n ≤ 120) (hp : p.At InsAt 4 w0) (hlen : p.L.length ≤ 1000)
    (hok : ∀ x ∈ p.L, okIns p.L.length x ∧ I64 x.2.2.1) (hlps : I64 lps) (R : VS × Int) (hR : vrun p.L W lps (120 - s.n) s = R) :
    Calls Try.prog 101 #[.pointer (some ⟨b, 0, none⟩)] w fun e w' => e = .returned (.int .i64 R.2) ∧ ∃ wv sv, RunS none w0 w' B b db p.val wv sv W lps R.1 := by
  have hmf : ∀ (fn : Fn) (first cap : Array Value) (w : World), (Instr.makeFunc fn first cap).run Try.prog w = .ok (.func fn first cap) w := fun _ _ _ _ => rfl
  have hlo : w0.heap.size ≤ w.heap.size := h.bel.size
  have H0 := hide (show AllRel w0 w.heap.size B b db p W lps nw R (121 - s.n) _ from ⟨s, wv, sv, h.withRes, hs, hn, rfl, hR⟩)
  have HC := hide (And.intro hp (And.intro hlen (And.intro hok hlps)))
  clear h hs hn hp hlen hok hlps hR
  go_enter_defers Try.func101, Try.ntmps101
  go_wp2
  generalize w.alloc _ = w1 at *
  generalize w.heap.size = r at *
  go_loopg [4] (121 - s.n) (fun k _ wr => AllRel w0 r B b db p W lps nw R k wr)
  case atStart => exact H0.out
  case round =>
    clear H0
    obtain ⟨s1, wv1, sv1, h1, hs1, hn1, rfl, hR1⟩ := hrel
    obtain ⟨hp, hlen, hok, hlps⟩ := HC.out
    have ST := vstep_any (some r) w0 wr B b db p wv1 sv1 W lps s1 nw h1 hs1 hp hlen hok hlps
    have hok2 := stepS_ok (W := W) hok hs1
    clear hp hlen hok hlps h1 hs1
    rcases step_cases p.L W lps s1 hn1 with ⟨e1, e2⟩ | ⟨e1, hlt, e3, e2⟩ | ⟨f, e1, e2⟩
    · rw [e1] at ST
      have HE := hide (e2.symm.trans hR1)
      have HS := hide ST
      clear ST e1 e2 hR1 hn1 hok2
      generalize stepS p.L W lps s1 = s2 at *
      go_wp2_with fail
      refine HS.out.mono ?_
      rintro e w2 ⟨rfl, wv2, sv2, h2⟩
      have H2 := hide h2
      have rc := (h2.res r rfl).1.cell 0
      have rf := (h2.res r rfl).1.frozen 0
      simp only [List.getElem?_toArray, List.getElem?_cons_zero] at rc
      have hres := (h2.endRes hlo (.int .i64 0))
      have rc2 := World.cell?_setCell_same w2 ⟨r, 0, none⟩ (.int .i64 0) rc
      clear h2
      go_wp2_with fail
      have R2 : R.2 = 0 := by rw [← HE.out]
      have R1 : R.1 = s2 := by rw [← HE.out]
      refine leaves_cons (f := 115) (args := #[.pointer (some ⟨r, 0, none⟩)]) (by simp) (by simp [go_sem]) ?_
      refine (catch_idle ⟨r, 0, none⟩ _).mono ?_
      rintro e u' w'' ⟨rfl, rfl, rfl⟩
      simp [Leaves, settle, results, Try.results101, go_sem, rc2, R2]
      exact ⟨wv2, sv2, by rw [R1]; exact hres⟩
    · rw [e1] at ST
      have HE := hide (e2.symm.trans hR1)
      have HS := hide ST
      have HN := hide e3
      clear ST e1 e2 hR1 e3
      generalize stepS p.L W lps s1 = s2 at *
      go_wp2_with fail
      refine HS.out.mono ?_
      rintro e w2 ⟨rfl, wv2, sv2, h2⟩
      have H2 := hide h2
      clear h2
      go_wp2_with fail
      go_roundg (121 - (s1.n + 1))
      case measure => omega
      case rel => exact ⟨s2, wv2, sv2, H2.out, hok2, by rw [HN.out]; omega, by rw [HN.out], by rw [HN.out]; exact HE.out⟩
    · rw [e1] at ST
      have HE := hide (e2.symm.trans hR1)
      have HS := hide ST
      clear ST e1 e2 hR1 hn1 hok2
      generalize stepS p.L W lps s1 = s2 at *
      go_wp2_with fail
      refine HS.out.mono ?_
      rintro e w2 ⟨rfl, wv2, sv2, h2⟩
      have rc := (h2.res r rfl).1.cell 0
      have rf := (h2.res r rfl).1.frozen 0
      simp only [List.getElem?_toArray, List.getElem?_cons_zero] at rc
      have hres := (h2.endRes hlo (.int .i64 f))
      have rc2 := World.cell?_setCell_same w2 ⟨r, 0, none⟩ (.int .i64 f) rc
      have R2 : R.2 = f := by rw [← HE.out]
      have R1 : R.1 = s2 := by rw [← HE.out]
      refine leaves_cons (f := 115) (args := #[.pointer (some ⟨r, 0, none⟩)]) (by simp) (by simp [go_sem]) ?_
      refine (catch_fault ⟨r, 0, none⟩ 0 f [] _ rc rf).mono ?_
      rintro e u' w'' ⟨rfl, rfl, rfl⟩
      simp [Leaves, settle, results, Try.results101, go_sem, rc2, R2]
      exact ⟨wv2, sv2, by rw [R1]; exact hres⟩
end Go.Proofs.Ytpfcmfannkbipaa
