/- The walk of the machine's step, whatever the instruction. No condition but what holds of every run. -/
import Derived.Test.YtpfcmfannkbipaaVm4
set_option linter.unusedVariables false
set_option linter.unusedSimpArgs false
set_option maxRecDepth 20000
namespace Go.Proofs.Ytpfcmfannkbipaa
open Go.RowKit Go.Deep

/-- How a step ends. -/
def stepE (p : List Ins4) (lps : Int) (s : VS) : Ending :=
  if p.length ≤ s.at_ then .returned (.bool false) else if 120 ≤ s.n then .panicked (faultP 1)
  else if (p.getD s.at_ (0, 0, 0, 0)).1 = 0 then .returned (.bool false)
  else if vflt lps (p.getD s.at_ (0, 0, 0, 0)) s.tick = 0 then .returned (.bool true) else .panicked (faultP (vflt lps (p.getD s.at_ (0, 0, 0, 0)) s.tick))
/-- What a step leaves. -/
def stepS (p : List Ins4) (W lps : Int) (s : VS) : VS :=
  if p.length ≤ s.at_ then s else if 120 ≤ s.n then s
  else if (p.getD s.at_ (0, 0, 0, 0)).1 = 0 then s.tick
  else if vflt lps (p.getD s.at_ (0, 0, 0, 0)) s.tick = 0 then vone W (p.getD s.at_ (0, 0, 0, 0)) s.tick else s.tick
theorem nat_of {n : Int} (h : 0 ≤ n ∧ n ≤ 7) : ∃ x : Nat, n = x ∧ x < 8 := ⟨n.toNat, by omega, by omega⟩
theorem nat_ofL {n : Int} {l : Nat} (h : 0 ≤ n ∧ n ≤ l) : ∃ x : Nat, n = x ∧ x ≤ l := ⟨n.toNat, by omega, by omega⟩
/-- Behind a step: how it ended, what it left. -/
def StepTo (rb : Option Nat) (w0 : World) (B b db : Nat) (p : Sl Ins4) (W lps : Int) (E : Ending) (s : VS) (e : Ending) (w' : World) : Prop := e = E ∧ ∃ wv sv, RunS rb w0 w' B b db p.val wv sv W lps s
theorem vstep_any (rb : Option Nat) (w0 w : World) (B b db : Nat) (p : Sl Ins4) (wv sv : Value) (W lps : Int) (s : VS) (nw : Nat) (h : RunS rb w0 w B b db p.val wv sv W lps s) (hs : s.Ok p.L.length nw lps) (hp : p.At InsAt 4 w0) (hlen : p.L.length ≤ 1000)
    (hok : ∀ x ∈ p.L, okIns p.L.length x ∧ I64 x.2.2.1) (hlps : I64 lps) :
    Calls Try.prog 116 #[.pointer (some ⟨b, 0, none⟩)] w (StepTo rb w0 B b db p W lps (stepE p.L lps s) (stepS p.L W lps s)) := by
  by_cases hend : p.L.length ≤ s.at_
  · have e1 : stepE p.L lps s = .returned (.bool false) := if_pos hend
    have e2 : stepS p.L W lps s = s := if_pos hend
    rw [e1, e2]
    exact (step_end rb w0 w B b db p wv sv W lps s h hs.g8 hend).mono fun e w' h => ⟨h.1, wv, sv, h.2⟩
  · have hend' : s.at_ < p.L.length := by omega
    by_cases hn : 120 ≤ s.n
    · have e1 : stepE p.L lps s = .panicked (faultP 1) := (if_neg hend).trans (if_pos hn)
      have e2 : stepS p.L W lps s = s := (if_neg hend).trans (if_pos hn)
      rw [e1, e2]
      exact (step_fuel rb w0 w B b db p wv sv W lps s h hs.g8 hend' hn).mono fun e w' h => ⟨h.1, wv, sv, h.2⟩
    · have hn' : s.n < 120 := by omega
      have hx : p.L[s.at_]? = some (p.L.getD s.at_ (0, 0, 0, 0)) := by
        rw [List.getD_eq_getElem?_getD, List.getElem?_eq_getElem hend']
        rfl
      obtain ⟨hi, hI⟩ := hok _ (getD_mem (d := ((0, 0, 0, 0) : Ins4)) hend')
      have ht := hs.tick hend'
      unfold stepE stepS
      rw [if_neg hend, if_neg hn, if_neg hend, if_neg hn]
      generalize p.L.getD s.at_ (0, 0, 0, 0) = x at *
      obtain ⟨op, xa, xb, xc⟩ := x
      have ho := okIns_op hi
      -- the words' slice, what was sent
      obtain ⟨⟨wA, wc, wL⟩, hwv, hwL, _, hwg⟩ := h.wrd.form
      simp only [Sl.val] at hwv hwL hwg
      subst hwL
      obtain ⟨⟨sA, sc, sL⟩, hsv, hsL, _⟩ := h.snt.form
      simp only [Sl.val] at hsv hsL
      subst hsL
      generalize htk : s.tick = t at *
      have hwt : s.w = t.w := by rw [← htk]; rfl
      have hst : s.s = t.s := by rw [← htk]; rfl
      rw [hwt] at hwv hwg
      rw [hst] at hsv
      subst hwv
      subst hsv
      simp only
      by_cases h0 : op = 0
      · subst h0
        rw [if_pos rfl, if_pos rfl]
        exact (step_halt rb w0 w B b db p _ _ W lps s nw h hs hp hlen hend' hn' t htk xa xb xc hx).mono fun e w' h => ⟨h.1, _, _, h.2⟩
      · rw [if_neg h0, if_neg h0]
        by_cases h9 : op = 9
        · subst h9
          obtain ⟨x, rfl, hxl⟩ := nat_ofL (okIns_9 hi rfl)
          exact (step_jump rb w0 w B b db p _ _ W lps s nw h hs hp hlen hend' hn' t htk x xb xc hx).mono fun e w' h => ⟨h.1, _, _, h.2⟩
        obtain ⟨x, rfl, hx8⟩ := nat_of (okIns_a hi h0 h9)
        by_cases h1 : op = 1
        · subst h1
          exact (step_set rb w0 w B b db p _ _ W lps s nw h hs hp hlen hend' hn' t htk x hx8 xb xc hx).mono fun e w' h => ⟨h.1, _, _, h.2⟩
        by_cases h10 : op = 10
        · subst h10
          obtain ⟨y, rfl, hyl⟩ := nat_ofL (okIns_10 hi rfl)
          by_cases hz : t.reg x = 0
          · have e1 : vone W ((10, (x : Int), (y : Int), xc) : Ins4) t = { t with at_ := y } := if_pos hz
            have e2 : vflt lps ((10, (x : Int), (y : Int), xc) : Ins4) t = 0 := rfl
            rw [if_pos e2, if_pos e2, e1]
            exact (step_zero rb w0 w B b db p _ _ W lps s nw h hs hp hlen hend' hn' t htk x y hx8 xc hz hx).mono fun e w' h => ⟨h.1, _, _, h.2⟩
          · have e1 : vone W ((10, (x : Int), (y : Int), xc) : Ins4) t = t := if_neg hz
            have e2 : vflt lps ((10, (x : Int), (y : Int), xc) : Ins4) t = 0 := rfl
            rw [if_pos e2, if_pos e2, e1]
            exact (step_nonz rb w0 w B b db p _ _ W lps s nw h hs hp hlen hend' hn' t htk x y hx8 xc hz hx).mono fun e w' h => ⟨h.1, _, _, h.2⟩
        obtain ⟨y, rfl, hy8⟩ := nat_of (okIns_b hi h0 h1 h9 h10)
        have hy := ht.reg y
        have hxr := ht.reg x
        by_cases h2 : op = 2
        · subst h2
          exact (step_move rb w0 w B b db p _ _ W lps s nw h hs hp hlen hend' hn' t htk x y hx8 hy8 xc _ rfl hx).mono fun e w' h => ⟨h.1, _, _, h.2⟩
        by_cases h11 : op = 11
        · subst h11
          by_cases hr : t.reg y < 1
          · have e2 : vflt lps ((11, (x : Int), (y : Int), xc) : Ins4) t = 4 := if_pos hr
            rw [e2, if_neg (by decide), if_neg (by decide)]
            exact (step_noroll rb w0 w B b db p _ _ W lps s nw h hs hp hlen hend' hn' t htk x y hx8 hy8 xc _ rfl hr hx).mono fun e w' h => ⟨h.1, _, _, h.2⟩
          · have e2 : vflt lps ((11, (x : Int), (y : Int), xc) : Ins4) t = 0 := if_neg hr
            rw [if_pos e2, if_pos e2]
            exact (step_roll rb w0 w B b db p _ _ W lps s nw h hs hp hlen hend' hn' t htk x y hx8 hy8 xc _ rfl (by omega) (by omega) hx).mono fun e w' h => ⟨h.1, _, _, h.2⟩
        by_cases h13 : op = 13
        · subst h13
          by_cases hr : t.reg y < 0 ∨ (t.w.length : Int) ≤ t.reg y
          · have e2 : vflt lps ((13, (x : Int), (y : Int), xc) : Ins4) t = 3 := if_pos hr
            rw [e2, if_neg (by decide), if_neg (by decide)]
            exact (step_noload rb w0 w B b db y _ wc wA p _ W lps s nw h hs hp hlen hend' hn' t htk hy8 x xc hr hx).mono fun e w' h => ⟨h.1, _, _, h.2⟩
          · have e2 : vflt lps ((13, (x : Int), (y : Int), xc) : Ins4) t = 0 := if_neg hr
            rw [if_pos e2, if_pos e2]
            obtain ⟨k, hk⟩ : ∃ k : Nat, t.reg y = k := ⟨(t.reg y).toNat, by omega⟩
            obtain ⟨g, hg, _⟩ := hwg (by omega)
            subst hg
            have e1 : vone W ((13, (x : Int), (y : Int), xc) : Ins4) t = t.put x (t.w.getD k 0) := by
              show t.put x (t.w.getD (t.reg y).toNat 0) = _
              rw [hk, Int.toNat_natCast]
            rw [e1]
            exact (step_load rb w0 w B b db x y k g _ wc p _ W lps s nw h hs hp hlen hend' hn' t htk hx8 hy8 xc _ hk (by omega) rfl rfl hx).mono fun e w' h => ⟨h.1, _, _, h.2⟩
        by_cases h14 : op = 14
        · subst h14
          by_cases hr : t.reg x < 0 ∨ (t.w.length : Int) ≤ t.reg x
          · have e2 : vflt lps ((14, (x : Int), (y : Int), xc) : Ins4) t = 3 := if_pos hr
            rw [e2, if_neg (by decide), if_neg (by decide)]
            exact (step_nostore rb w0 w B b db x y _ wc wA p _ W lps s nw h hs hp hlen hend' hn' t htk hx8 hy8 xc hr hx).mono fun e w' h => ⟨h.1, _, _, h.2⟩
          · have e2 : vflt lps ((14, (x : Int), (y : Int), xc) : Ins4) t = 0 := if_neg hr
            rw [if_pos e2, if_pos e2]
            obtain ⟨k, hk⟩ : ∃ k : Nat, t.reg x = k := ⟨(t.reg x).toNat, by omega⟩
            obtain ⟨g, hg, _⟩ := hwg (by omega)
            subst hg
            have e1 : vone W ((14, (x : Int), (y : Int), xc) : Ins4) t = { t with w := t.w.set k (t.reg y) } := by
              show { t with w := t.w.set (t.reg x).toNat (t.reg y) } = _
              rw [hk, Int.toNat_natCast]
            rw [e1]
            exact (step_store rb w0 w B b db x y k g _ wc p _ W lps s nw h hs hp hlen hend' hn' t htk hx8 hy8 xc _ rfl hk (by omega) rfl hx).mono fun e w' h => ⟨h.1, _, _, h.2⟩
        have hrest : op = 3 ∨ op = 4 ∨ op = 5 ∨ op = 6 ∨ op = 7 ∨ op = 8 ∨ op = 12 := by unfold isOp at ho; simp only at ho; omega
        obtain ⟨z, rfl, hz8⟩ := nat_of (okIns_c hi hrest)
        by_cases h12 : op = 12
        · subst h12
          by_cases hr : t.reg x < 0 ∨ lps ≤ t.reg x
          · have e2 : vflt lps ((12, (x : Int), (y : Int), (z : Int)) : Ins4) t = 6 := if_pos hr
            rw [e2, if_neg (by decide), if_neg (by decide)]
            exact (step_nodst rb w0 w B b db p _ _ W lps s nw h hs hp hlen hend' hn' t htk x y z hx8 _ rfl hr hx).mono fun e w' h => ⟨h.1, _, _, h.2⟩
          · by_cases h4 : 4 ≤ t.s.length
            · have e2 : vflt lps ((12, (x : Int), (y : Int), (z : Int)) : Ins4) t = 5 := (if_neg hr).trans (if_pos h4)
              rw [e2, if_neg (by decide), if_neg (by decide)]
              exact (step_full rb w0 w B b db x y z _ sc sA p _ W lps s nw h hs hp hlen hend' hn' t htk hx8 _ rfl (by omega) h4 hx).mono fun e w' h => ⟨h.1, _, _, h.2⟩
            · have e2 : vflt lps ((12, (x : Int), (y : Int), (z : Int)) : Ins4) t = 0 := (if_neg hr).trans (if_neg h4)
              rw [if_pos e2, if_pos e2]
              exact (step_send rb w0 w B b db x y z _ sc sA p _ W lps s nw h hs hp hlen hend' hn' t htk hx8 hy8 hz8 _ _ _ rfl rfl rfl (by omega) (by omega) (by omega) hx).mono fun e w' h => ⟨h.1, _, by obtain ⟨_, A1, c1, h2⟩ := h; exact ⟨_, h2⟩⟩
        · have h38 : 3 ≤ op ∧ op ≤ 8 := by omega
          have e2 : vflt lps ((op, (x : Int), (y : Int), (z : Int)) : Ins4) t = twoF op (t.reg z) := by
            unfold vflt
            simp only
            rw [if_neg (by omega), if_neg h11, if_neg h12, if_neg h13, if_neg h14]
          have e1 : vone W ((op, (x : Int), (y : Int), (z : Int)) : Ins4) t = t.put x (twoI op (t.reg y) (t.reg z)) := by
            unfold vone
            simp only
            rw [if_neg h1, if_neg h2, if_neg h9, if_neg h10, if_neg h11, if_neg h12, if_neg h13, if_neg h14]
          rw [e1, e2]
          by_cases hf : twoF op (t.reg z) = 0
          · rw [if_pos hf, if_pos hf]
            exact (step_comp rb w0 w B b db p _ _ W lps s nw h hs hp hlen hend' hn' t htk op h38 x y z hx8 hy8 hz8 _ _ rfl rfl hf hx).mono fun e w' h => ⟨h.1, _, _, h.2⟩
          · rw [if_neg hf, if_neg hf]
            have hd : (op = 6 ∨ op = 7) ∧ t.reg z = 0 := by
              unfold twoF at hf
              by_cases hc : (op = 6 ∨ op = 7) ∧ t.reg z = 0
              · exact hc
              · rw [if_neg hc] at hf
                exact absurd rfl hf
            have e3 : twoF op (t.reg z) = 2 := if_pos hd
            rw [e3]
            exact (step_nodiv rb w0 w B b db p _ _ W lps s nw h hs hp hlen hend' hn' t htk op hd.1 x y z hx8 hy8 hz8 hd.2 hx).mono fun e w' h => ⟨h.1, _, _, h.2⟩
end Go.Proofs.Ytpfcmfannkbipaa
