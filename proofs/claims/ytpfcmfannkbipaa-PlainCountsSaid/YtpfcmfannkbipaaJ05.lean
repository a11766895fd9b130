/- Texts of this claim in one. No condition. -/
import Derived.Test.YtpfcmfannkbipaaJ03
import Derived.Test.YtpfcmfannkbipaaJ04
import Derived.Test.YtpfcmfannkbipaaJ01
section
set_option linter.unusedVariables false
namespace Go.Proofs.Ytpfcmfannkbipaa
open Go.RowKit Go.Deep

abbrev Snt := Int × Int × Int
/-- Registers, words, what was sent, rolls, the place, steps. -/
structure VS where
  g : List Int
  w : List Int
  s : List Snt
  d : Int
  at_ : Nat
  n : Nat
def VS.reg (s : VS) (i : Int) : Int := s.g.getD i.toNat 0
def VS.put (s : VS) (i v : Int) : VS := { s with g := s.g.set i.toNat v }
def quoI (b c : Int) : Int := wrap64 (b.tdiv c)
def remI (b c : Int) : Int := b.tmod c
/-- What computes (none: a division by 0). -/
def twoI (op b c : Int) : Int :=
  if op = 3 then wrap64 (b + c) else if op = 4 then wrap64 (b - c) else if op = 5 then wrap64 (b * c)
  else if op = 6 then quoI b c else if op = 7 then remI b c else if b < c then 1 else 0
def twoF (op c : Int) : Int := if (op = 6 ∨ op = 7) ∧ c = 0 then 2 else 0
/-- How an instruction goes wrong (0: it does not). -/
def vflt (lps : Int) (x : Ins4) (s : VS) : Int :=
  if x.1 = 1 ∨ x.1 = 2 ∨ x.1 = 9 ∨ x.1 = 10 then 0
  else if x.1 = 11 then (if s.reg x.2.2.1 < 1 then 4 else 0)
  else if x.1 = 12 then (if s.reg x.2.1 < 0 ∨ lps ≤ s.reg x.2.1 then 6 else if 4 ≤ s.s.length then 5 else 0)
  else if x.1 = 13 then (if s.reg x.2.2.1 < 0 ∨ (s.w.length : Int) ≤ s.reg x.2.2.1 then 3 else 0)
  else if x.1 = 14 then (if s.reg x.2.1 < 0 ∨ (s.w.length : Int) ≤ s.reg x.2.1 then 3 else 0)
  else twoF x.1 (s.reg x.2.2.2)
/-- What an instruction does, if it does not go wrong. -/
def vone (W : Int) (x : Ins4) (s : VS) : VS :=
  if x.1 = 1 then s.put x.2.1 x.2.2.1
  else if x.1 = 2 then s.put x.2.1 (s.reg x.2.2.1)
  else if x.1 = 9 then { s with at_ := x.2.1.toNat }
  else if x.1 = 10 then (if s.reg x.2.1 = 0 then { s with at_ := x.2.2.1.toNat } else s)
  else if x.1 = 11 then { s.put x.2.1 (belowI (stepI W s.d) (s.reg x.2.2.1)) with d := wrap64 (s.d + 1) }
  else if x.1 = 12 then { s with s := s.s ++ [(s.reg x.2.1, s.reg x.2.2.1, s.reg x.2.2.2)] }
  else if x.1 = 13 then s.put x.2.1 (s.w.getD (s.reg x.2.2.1).toNat 0)
  else if x.1 = 14 then { s with w := s.w.set (s.reg x.2.1).toNat (s.reg x.2.2.1) }
  else s.put x.2.1 (twoI x.1 (s.reg x.2.2.1) (s.reg x.2.2.2))
def VS.tick (s : VS) : VS := { s with at_ := s.at_ + 1, n := s.n + 1 }
/-- A run, k steps at most: where it ends, and how it went wrong. -/
def vrun (p : List Ins4) (W lps : Int) : Nat → VS → VS × Int
  | 0, s => if p.length ≤ s.at_ then (s, 0) else (s, 1)
  | k + 1, s => if p.length ≤ s.at_ then (s, 0) else
      let x := p.getD s.at_ (0, 0, 0, 0)
      if x.1 = 0 then (s.tick, 0)
      else if vflt lps x s.tick = 0 then vrun p W lps k (vone W x s.tick) else (s.tick, vflt lps x s.tick)

/-- May an instruction be, of a program so long? -/
def okIns (len : Nat) (x : Ins4) : Prop := insB x.1 x.2.1 x.2.2.1 x.2.2.2 len = true
/-- What holds of every state of a run. -/
structure VS.Ok (len nw : Nat) (lps : Int) (s : VS) : Prop where
  g8 : s.g.length = 8
  gi : ∀ z ∈ s.g, I64 z
  wi : ∀ z ∈ s.w, I64 z
  wl : s.w.length = nw
  s4 : s.s.length ≤ 4
  si : ∀ z ∈ s.s, 0 ≤ z.1 ∧ z.1 < lps ∧ I64 z.2.1 ∧ I64 z.2.2
  di : I64 s.d
  al : s.at_ ≤ len
theorem VS.Ok.reg {len nw : Nat} {lps : Int} {s : VS} (h : s.Ok len nw lps) (i : Int) : I64 (s.reg i) := by
  unfold VS.reg
  rw [List.getD_eq_getElem?_getD]
  by_cases hi : i.toNat < s.g.length
  · rw [List.getElem?_eq_getElem hi]
    exact h.gi _ (List.getElem_mem hi)
  · rw [List.getElem?_eq_none (by omega)]
    exact ⟨by decide, by decide⟩
theorem mem_set {α : Type} {l : List α} {i : Nat} {v z : α} (h : z ∈ l.set i v) : z ∈ l ∨ z = v := List.mem_or_eq_of_mem_set h
theorem VS.Ok.put {len nw : Nat} {lps : Int} {s : VS} (h : s.Ok len nw lps) (i v : Int) (hv : I64 v) : (s.put i v).Ok len nw lps :=
  ⟨by simp [VS.put, h.g8], fun z hz => by rcases mem_set hz with hz | rfl; exact h.gi z hz; exact hv, h.wi, h.wl, h.s4, h.si, h.di, h.al⟩
theorem wrap64_i64 (n : Int) : I64 (wrap64 n) := by unfold wrap64; omega
theorem tmod_i64 {b c : Int} (hb : I64 b) : I64 (b.tmod c) := by
  have hle : (b.tmod c).natAbs ≤ b.natAbs := by rw [Int.natAbs_tmod]; exact Nat.mod_le _ _
  rcases Int.le_total 0 b with h0 | h0
  · have := Int.tmod_nonneg c h0
    omega
  · have h2 : 0 ≤ (-b).tmod c := Int.tmod_nonneg c (by omega)
    rw [Int.neg_tmod] at h2
    omega
theorem twoI_i64 {op b c : Int} (hb : I64 b) : I64 (twoI op b c) := by
  unfold twoI quoI remI
  repeat' split
  all_goals first | exact wrap64_i64 _ | exact tmod_i64 hb | exact ⟨by decide, by decide⟩
theorem okIns_op {len : Nat} {x : Ins4} (h : okIns len x) : isOp x.1 := by
  by_cases ho : isOp x.1
  · exact ho
  · unfold okIns at h
    rw [insB_none ho] at h
    cases h
theorem regB_of {n : Int} (h : regB n = true) : 0 ≤ n ∧ n ≤ 7 := by simpa [regB] using h
/-- What the registers and places of an instruction that may be are. -/
theorem okIns_a {len : Nat} {x : Ins4} (h : okIns len x) (h0 : x.1 ≠ 0) (h9 : x.1 ≠ 9) : 0 ≤ x.2.1 ∧ x.2.1 ≤ 7 := by
  have ho := okIns_op h
  unfold okIns at h
  unfold isOp at ho
  have key : x.1 = 1 ∨ x.1 = 10 ∨ (x.1 = 2 ∨ x.1 = 11 ∨ x.1 = 13 ∨ x.1 = 14) ∨ (x.1 = 3 ∨ x.1 = 4 ∨ x.1 = 5 ∨ x.1 = 6 ∨ x.1 = 7 ∨ x.1 = 8 ∨ x.1 = 12) := by omega
  rcases key with e | e | e | e
  · rw [e, insB_1] at h; exact regB_of h
  · rw [e, insB_10, Bool.and_eq_true] at h; exact regB_of h.1
  · rw [insB_rr e, Bool.and_eq_true] at h; exact regB_of h.1
  · rw [insB_rrr e, Bool.and_eq_true] at h; exact regB_of h.1
theorem okIns_b {len : Nat} {x : Ins4} (h : okIns len x) (h0 : x.1 ≠ 0) (h1 : x.1 ≠ 1) (h9 : x.1 ≠ 9) (h10 : x.1 ≠ 10) : 0 ≤ x.2.2.1 ∧ x.2.2.1 ≤ 7 := by
  have ho := okIns_op h
  unfold okIns at h
  unfold isOp at ho
  have key : (x.1 = 2 ∨ x.1 = 11 ∨ x.1 = 13 ∨ x.1 = 14) ∨ (x.1 = 3 ∨ x.1 = 4 ∨ x.1 = 5 ∨ x.1 = 6 ∨ x.1 = 7 ∨ x.1 = 8 ∨ x.1 = 12) := by omega
  rcases key with e | e
  · rw [insB_rr e, Bool.and_eq_true] at h; exact regB_of h.2
  · rw [insB_rrr e, Bool.and_eq_true, Bool.and_eq_true] at h; exact regB_of h.2.1
theorem okIns_c {len : Nat} {x : Ins4} (h : okIns len x) (hr : x.1 = 3 ∨ x.1 = 4 ∨ x.1 = 5 ∨ x.1 = 6 ∨ x.1 = 7 ∨ x.1 = 8 ∨ x.1 = 12) : 0 ≤ x.2.2.2 ∧ x.2.2.2 ≤ 7 := by
  unfold okIns at h
  rw [insB_rrr hr, Bool.and_eq_true, Bool.and_eq_true] at h
  exact regB_of h.2.2
theorem okIns_9 {len : Nat} {x : Ins4} (h : okIns len x) (h9 : x.1 = 9) : 0 ≤ x.2.1 ∧ x.2.1 ≤ len := by
  unfold okIns at h
  rw [h9, insB_9] at h
  simpa using h
theorem okIns_10 {len : Nat} {x : Ins4} (h : okIns len x) (h10 : x.1 = 10) : 0 ≤ x.2.2.1 ∧ x.2.2.1 ≤ len := by
  unfold okIns at h
  rw [h10, insB_10, Bool.and_eq_true] at h
  simpa using h.2
theorem belowI_i64 {r n : Int} (hn : I64 n) : I64 (belowI r n) := by
  have h1 := belowI_lo r n
  by_cases h : 1 ≤ n
  · have := belowI_hi r n h
    omega
  · have : belowI r n = 0 := by unfold belowI; rw [if_pos (by omega)]
    omega
theorem VS.Ok.tick {len nw : Nat} {lps : Int} {s : VS} (h : s.Ok len nw lps) (hl : s.at_ < len) : s.tick.Ok len nw lps := ⟨h.g8, h.gi, h.wi, h.wl, h.s4, h.si, h.di, hl⟩
/-- What holds of a state holds behind an instruction. -/
theorem VS.Ok.one {len nw : Nat} {lps W : Int} {s : VS} {x : Ins4} (h : s.Ok len nw lps) (hx : okIns len x) (hi : I64 x.2.2.1) (hf : vflt lps x s = 0) : (vone W x s).Ok len nw lps := by
  unfold vone
  repeat' split
  · exact h.put _ _ hi
  · exact h.put _ _ (h.reg _)
  · have := okIns_9 hx (by assumption)
    exact ⟨h.g8, h.gi, h.wi, h.wl, h.s4, h.si, h.di, by simp only; omega⟩
  · have := okIns_10 hx (by assumption)
    exact ⟨h.g8, h.gi, h.wi, h.wl, h.s4, h.si, h.di, by simp only; omega⟩
  · exact h
  · have hp := h.put x.2.1 (belowI (stepI W s.d) (s.reg x.2.2.1)) (belowI_i64 (h.reg _))
    exact ⟨hp.g8, hp.gi, hp.wi, hp.wl, hp.s4, hp.si, wrap64_i64 _, hp.al⟩
  · rename_i h1 h2 h9 h10 h11 h12
    unfold vflt at hf
    rw [if_neg (by omega), if_neg h11, if_pos h12] at hf
    split at hf
    · cases hf
    · split at hf
      · cases hf
      · refine ⟨h.g8, h.gi, h.wi, h.wl, by simp; omega, fun z hz => ?_, h.di, h.al⟩
        rcases List.mem_append.1 hz with hz | hz
        · exact h.si z hz
        · have e : z = (s.reg x.2.1, s.reg x.2.2.1, s.reg x.2.2.2) := by simpa using hz
          subst e
          exact ⟨by simp only; omega, by simp only; omega, h.reg _, h.reg _⟩
  · refine h.put _ _ ?_
    rw [List.getD_eq_getElem?_getD]
    by_cases hi : (s.reg x.2.2.1).toNat < s.w.length
    · rw [List.getElem?_eq_getElem hi]
      exact h.wi _ (List.getElem_mem hi)
    · rw [List.getElem?_eq_none (by omega)]
      exact ⟨by decide, by decide⟩
  · exact ⟨h.g8, h.gi, fun z hz => by rcases mem_set hz with hz | rfl; exact h.wi z hz; exact h.reg _, by simp [h.wl], h.s4, h.si, h.di, h.al⟩
  · exact h.put _ _ (twoI_i64 (h.reg _))
theorem getD_mem {α : Type} {l : List α} {i : Nat} {d : α} (h : i < l.length) : l.getD i d ∈ l := by
  rw [List.getD_eq_getElem?_getD, List.getElem?_eq_getElem h]
  exact List.getElem_mem h
/-- The faults that there are. -/
theorem vflt_rng {lps : Int} {x : Ins4} {s : VS} : 0 ≤ vflt lps x s ∧ vflt lps x s ≤ 6 ∧ vflt lps x s ≠ 1 := by
  unfold vflt twoF
  repeat' split
  all_goals omega
/-- What holds of the end of a run. -/
theorem vrun_ok {p : List Ins4} {nw : Nat} {lps W : Int} (hp : ∀ x ∈ p, okIns p.length x ∧ I64 x.2.2.1) : ∀ (k : Nat) (s : VS), s.Ok p.length nw lps →
    (vrun p W lps k s).1.Ok p.length nw lps ∧ 0 ≤ (vrun p W lps k s).2 ∧ (vrun p W lps k s).2 ≤ 6 ∧ (vrun p W lps k s).1.n ≤ s.n + k := by
  intro k
  induction k with
  | zero =>
    intro s hs
    unfold vrun
    split
    · exact ⟨hs, by simp, by simp, by simp⟩
    · exact ⟨hs, by simp, by simp, by simp⟩
  | succ k ih =>
    intro s hs
    unfold vrun
    split
    · exact ⟨hs, by simp, by simp, by simp only; omega⟩
    · rename_i hlt
      have hm := hp _ (getD_mem (d := ((0, 0, 0, 0) : Ins4)) (Nat.lt_of_not_le hlt))
      have ht := hs.tick (Nat.lt_of_not_le hlt)
      simp only
      split
      · exact ⟨ht, by simp, by simp, by simp only [VS.tick]; omega⟩
      · split
        · rename_i hf
          obtain ⟨a, b, c, d⟩ := ih _ (ht.one (W := W) hm.1 hm.2 hf)
          refine ⟨a, b, c, Nat.le_trans d ?_⟩
          have : (vone W (p.getD s.at_ (0, 0, 0, 0)) s.tick).n = s.n + 1 := by
            unfold vone VS.put VS.tick
            repeat' split
            all_goals rfl
          omega
        · have := vflt_rng (lps := lps) (x := p.getD s.at_ (0, 0, 0, 0)) (s := s.tick)
          exact ⟨ht, by simp only; omega, by simp only; omega, by simp only [VS.tick]; omega⟩
/-- How a run begins. -/
def vbeg (words : List Int) (pay me lps dice : Int) : VS := ⟨[pay, me, lps, words.length, 0, 0, 0, 0], words, [], dice, 0, 0⟩
/-- The whole run. -/
def vall (p : List Ins4) (words : List Int) (pay me lps seed dice : Int) : VS × Int := vrun p (wordI seed me) lps 120 (vbeg words pay me lps dice)
/-- May it be run? -/
def vmay (p : List Ins4) (nw : Nat) : Int :=
  if p.length < 1 ∨ 48 < p.length then 15 else if (p.all fun x => insB x.1 x.2.1 x.2.2.1 x.2.2.2 p.length) = true then (if 8 < nw then 2 else 0) else 15
theorem vmay_ok {p : List Ins4} {nw : Nat} (h : vmay p nw = 0) : 1 ≤ p.length ∧ p.length ≤ 48 ∧ (∀ x ∈ p, okIns p.length x) ∧ nw ≤ 8 := by
  unfold vmay at h
  split at h
  · cases h
  · split at h
    · rename_i h1 h2
      split at h
      · cases h
      · exact ⟨by omega, by omega, fun x hx => List.all_eq_true.1 h2 x hx, by omega⟩
    · cases h
theorem vbeg_ok {words : List Int} {pay me lps dice : Int} {len : Nat} (hw : ∀ z ∈ words, I64 z) (h8 : words.length ≤ 8) (h1 : I64 pay) (h2 : I64 me) (h3 : I64 lps) (h4 : I64 dice) : (vbeg words pay me lps dice).Ok len words.length lps :=
  ⟨rfl, fun z hz => by
    simp [vbeg] at hz
    rcases hz with rfl | rfl | rfl | rfl | rfl
    · exact h1
    · exact h2
    · exact h3
    · omega
    · exact ⟨by decide, by decide⟩, hw, rfl, Nat.zero_le _, fun z hz => by simp [vbeg] at hz, h4, Nat.zero_le _⟩
end Go.Proofs.Ytpfcmfannkbipaa
end

section
set_option linter.unusedVariables false
namespace Go.Proofs.Ytpfcmfannkbipaa
open Go.RowKit Go.Deep

theorem wrap64_eq (n : Int) : IntKind.i64.wrap n = wrap64 n := by
  simp [IntKind.wrap, IntKind.bits, IntKind.signed, wrap64]
  omega
theorem stir_any (z : Int) (w : World) (h0 : 0 ≤ z) (h1 : z ≤ 18446744073709551615) :
    Calls Try.prog 131 #[.int .u64 z] w fun e w' => e = .returned (.int .u64 (stirI z)) ∧ w = w' := by
  have H := hide (stir_walk z h0 h1)
  clear h0 h1
  go_enter Try.func131, Try.ntmps131
  go_wp2
  go_ret
  exact ⟨ret_int H.out, rfl⟩
theorem rstir_any (z : Int) (w : World) (h0 : 0 ≤ z) (h1 : z ≤ 18446744073709551615) :
    Calls Try.prog 135 #[.int .u64 z] w fun e w' => e = .returned (.int .u64 (stirI z)) ∧ w = w' := by
  have H := hide (rstir_walk z h0 h1)
  go_enter Try.func135, Try.ntmps135
  go_wp2
  go_ret
  exact ⟨ret_int H.out, rfl⟩
theorem step_any (z n : Int) (w : World) :
    Calls Try.prog 121 #[.int .u64 z, .int .i64 n] w fun e w' => e = .returned (.int .u64 (stepI z n)) ∧ w = w' := by
  go_enter Try.func121, Try.ntmps121
  go_wp2_with (go_at_call 131; rw [step_arg]; refine (stir_any _ _ (by omega) (by omega)).mono ?_; rintro e w' ⟨rfl, rfl⟩)
  go_ret
  exact ⟨rfl, rfl⟩

theorem wordI_eq (s p : Int) : stepI (IntKind.u64.wrap s) p = wordI s p := by rw [IntKind.wrap_u64]; rfl
theorem below_any (r n : Int) (w : World) (h0 : 0 ≤ r) (h1 : r ≤ 18446744073709551615) (hn : n ≤ 9223372036854775807) :
    Calls Try.prog 133 #[.int .u64 r, .int .i64 n] w fun e w' => e = .returned (.int .i64 (belowI r n)) ∧ w = w' := by
  by_cases h : n < 1
  · go_enter Try.func133, Try.ntmps133
    go_wp2
    go_ret
    exact ⟨ret_int (by unfold belowI; rw [if_pos h]), rfl⟩
  · have e1 : IntKind.u64.wrap n = n := by rw [IntKind.wrap_u64]; omega
    have e2 : belowI r n = r % n := by unfold belowI; rw [if_neg h]
    have h2 : 0 ≤ r % n ∧ r % n < n := ⟨Int.emod_nonneg _ (by omega), Int.emod_lt_of_pos _ (by omega)⟩
    go_enter Try.func133, Try.ntmps133
    go_wp2
    go_ret
    exact ⟨rfl, rfl⟩

/-- Dice at a block: the word, the next count. -/
def DiceAt (w : World) (b : Nat) (word count : Int) : Prop := Blk w b 166 #[.int .u64 word, .int .i64 count]

theorem new_any (s p c : Int) (w : World) :
    Calls Try.prog 114 #[.int .i64 s, .int .i64 p, .int .i64 c] w fun e w' => e = .returned (.pointer (some ⟨w.heap.size, 0, none⟩)) ∧ DiceAt w' w.heap.size (wordI s p) c ∧ Below w.heap.size w w' := by
  have H := hide (wordI_eq s p)
  go_enter Try.func114, Try.ntmps114
  go_wp2_with (go_at_call 121; refine (step_any _ _ _).mono ?_; rintro e w' ⟨rfl, rfl⟩)
  go_ret
  exact ⟨rfl, by rw [H.out]; exact Blk.new _ _ _, (Below.refl _ _).alloc (Nat.le_refl _) _⟩

theorem roll_at (b : Nat) (word c : Int) (w : World) (h : DiceAt w b word c) :
    Calls Try.prog 132 #[.pointer (some ⟨b, 0, none⟩)] w fun e w' => e = .returned (.int .u64 (stepI word c)) ∧ ∃ k, w' = (w.drewN k).setCell ⟨b, 1, none⟩ (.int .i64 (wrap64 (c + 1))) := by
  have c0 : w.cell? ⟨b, 0, none⟩ = some (.int .u64 word) := by simpa using h.cell 0
  have c1 : w.cell? ⟨b, 1, none⟩ = some (.int .i64 c) := by simpa using h.cell 1
  have hf := h.frozen 1
  go_enter Try.func132, Try.ntmps132
  go_wp2
  go_quiet ((go_at_call 121; exact quiet_left (step_any _ _ _)))
  go_wp2
  go_ret
  exact ⟨rfl, _, rfl⟩
theorem next_none (n : Int) (w : World) :
    Calls Try.prog 123 #[.pointer none, .int .i64 n] w fun e w' => e = .returned (.tuple #[.int .i64 0, .bool false]) ∧ w = w' := by
  go_enter Try.func123, Try.ntmps123
  go_wp2
  go_ret2
  exact ⟨rfl, rfl⟩
theorem count_none (w : World) :
    Calls Try.prog 102 #[.pointer none] w fun e w' => e = .returned (.int .i64 0) ∧ w = w' := by
  go_enter Try.func102, Try.ntmps102
  go_wp2
  go_ret
  exact ⟨rfl, rfl⟩
theorem count_at (b : Nat) (word c : Int) (w : World) (h : DiceAt w b word c) :
    Calls Try.prog 102 #[.pointer (some ⟨b, 0, none⟩)] w fun e w' => e = .returned (.int .i64 c) ∧ w = w' := by
  have c1 : w.cell? ⟨b, 1, none⟩ = some (.int .i64 c) := by simpa using h.cell 1
  go_enter Try.func102, Try.ntmps102
  go_wp2
  go_ret
  exact ⟨rfl, rfl⟩
theorem next_low (b : Nat) (n : Int) (w : World) (hn : n < 1) :
    Calls Try.prog 123 #[.pointer (some ⟨b, 0, none⟩), .int .i64 n] w fun e w' => e = .returned (.tuple #[.int .i64 0, .bool false]) ∧ w = w' := by
  go_enter Try.func123, Try.ntmps123
  go_wp2
  go_ret2
  exact ⟨rfl, rfl⟩
theorem DiceAt.rolled {w : World} {b : Nat} {word c d : Int} (h : DiceAt w b word c) (k : Nat) : DiceAt ((w.drewN k).setCell ⟨b, 1, none⟩ (.int .i64 d)) b word d := by
  have := (Blk.drewN h k).set_ 1 (.int .i64 d)
  simpa [DiceAt] using this
theorem next_at (b : Nat) (word c n c' : Int) (w : World) (h : DiceAt w b word c) (hn : 1 ≤ n) (hm : n ≤ 9223372036854775807) (hc : wrap64 (c + 1) = c') :
    Calls Try.prog 123 #[.pointer (some ⟨b, 0, none⟩), .int .i64 n] w fun e w' => e = .returned (.tuple #[.int .i64 (belowI (stepI word c) n), .bool true]) ∧ DiceAt w' b word c' ∧ w.grownBy w' (some b) := by
  have Hc := hide hc
  clear hc
  go_enter Try.func123, Try.ntmps123
  go_wp2_with fail
  refine (roll_at b word c _ h).mono ?_
  rintro e w' ⟨rfl, hw⟩
  go_wp2_with fail
  refine (below_any _ _ _ (stepI_nn _ _) (stepI_lt _ _) hm).mono ?_
  rintro e w' ⟨rfl, rfl⟩
  go_wp2
  go_ret2
  obtain ⟨k, rfl⟩ := hw
  exact ⟨rfl, by rw [← Hc.out]; exact h.rolled k, only_setCell (only_drewN (World.grownBy.refl w _) k) (.inl rfl) _⟩
theorem DiceAt.below {w w' : World} {b : Nat} {word c : Int} {B : Nat} (h : DiceAt w b word c) (hb : Below B w w') (hB : b < B) : DiceAt w' b word c := Blk.below h hb hB
theorem DiceAt.lt {w : World} {b : Nat} {word c : Int} (h : DiceAt w b word c) : b < w.heap.size := Blk.lt h
theorem stir_zero (w : World) : Calls Try.prog 131 #[.int .u64 0] w fun e w' => e = .returned (.int .u64 0) ∧ w = w' :=
  (stir_any 0 w (by decide) (by decide)).mono fun e w' ⟨h1, h2⟩ => ⟨by rw [h1]; rfl, h2⟩
theorem rword_any (s p : Int) (w : World) :
    Calls Try.prog 136 #[.int .i64 s, .int .i64 p] w fun e w' => e = .returned (.int .u64 (wordI s p)) ∧ w = w' := by
  have H := hide (wordI_eq s p)
  go_enter Try.func136, Try.ntmps136
  go_wp2_with (go_at_call 135; rw [step_arg]; refine (rstir_any _ _ (by omega) (by omega)).mono ?_; rintro e w' ⟨rfl, rfl⟩)
  go_ret
  exact ⟨by rw [← H.out]; rfl, rfl⟩
theorem rroll_any (s p c : Int) (w : World) :
    Calls Try.prog 128 #[.int .i64 s, .int .i64 p, .int .i64 c] w fun e w' => e = .returned (.int .u64 (stepI (wordI s p) c)) ∧ w = w' := by
  go_enter Try.func128, Try.ntmps128
  go_wp2_with fail
  refine (rword_any _ _ _).mono ?_
  rintro e w' ⟨rfl, rfl⟩
  go_wp2_with fail
  rw [step_arg]
  refine (rstir_any _ _ (by omega) (by omega)).mono ?_
  rintro e w' ⟨rfl, rfl⟩
  go_wp2
  go_ret
  exact ⟨rfl, rfl⟩
theorem rbelow_any (r n : Int) (w : World) (h0 : 0 ≤ r) (h1 : r ≤ 18446744073709551615) (hn : n ≤ 9223372036854775807) :
    Calls Try.prog 127 #[.int .u64 r, .int .i64 n] w fun e w' => e = .returned (.int .i64 (belowI r n)) ∧ w = w' := by
  by_cases h : n < 1
  · go_enter Try.func127, Try.ntmps127
    go_wp2
    go_ret
    exact ⟨ret_int (by unfold belowI; rw [if_pos h]), rfl⟩
  · have e1 : IntKind.u64.wrap n = n := by rw [IntKind.wrap_u64]; omega
    have e2 : belowI r n = r % n := by unfold belowI; rw [if_neg h]
    have h2 : 0 ≤ r % n ∧ r % n < n := ⟨Int.emod_nonneg _ (by omega), Int.emod_lt_of_pos _ (by omega)⟩
    have e3 := below_ref r n h0 (by omega)
    go_enter Try.func127, Try.ntmps127
    go_wp2
    go_ret
    refine ⟨ret_int ?_, rfl⟩
    have h3 : r % n ≤ r := emod_le_self_aux r n h0 (by omega)
    generalize r / n * n = q at *
    rw [IntKind.wrap_u64, IntKind.wrap_u64]
    unfold wrap64
    omega
end Go.Proofs.Ytpfcmfannkbipaa
end

section
set_option linter.unusedVariables false
namespace Go.Proofs.Ytpfcmfannkbipaa
open Go.RowKit Go.Deep

/-- A world that meets p. -/
structure Wo (p : World → Prop) where
  W : World
  ok : p W
theorem wp_region_quietC {P : Program} {p : World → Prop} {id : Nat} {Q : Exit → Act → World → Prop} {a : Act} {w : World} {l : List Oper} (hm : P.follows .mixedOrders = true) (hB : Region.lexB .any l.toArray = true) (hp : p w.drew)
    (h : wpQuiet P l.toArray (fun w' => ∃ i : Wo p, w' = i.W) (fun a' => ∀ w', (∃ i : Wo p, w' = i.W) → Q .normal a' w') l a) : (Code.region id l.toArray true).wp P Q a w :=
  wp_region_quiet (C := fun w' => ∃ i : Wo p, w' = i.W) hm hB ⟨⟨w.drew, hp⟩, rfl⟩ (by simpa using h)
/-- p outlives calls that only make memory. -/
def Outlives (p : World → Prop) : Prop := ∀ W W', p W → Below W.heap.size W W' → p W'
theorem Calls.quietC {P : Program} {p : World → Prop} (hp : Outlives p) {f : FuncId} {args : Array Value} {i : Wo p} {v : Value} (h : Calls P f args i.W fun e w' => e = .returned v ∧ Below i.W.heap.size i.W w') :
    Calls P f args i.W fun e w'' => e = .returned v ∧ ∃ j : Wo p, w'' = j.W := h.mono fun e w' ⟨he, hb⟩ => ⟨he, ⟨w', hp _ _ i.ok hb⟩, rfl⟩
theorem Calls.quietC_same {P : Program} {p : World → Prop} {f : FuncId} {args : Array Value} {i : Wo p} {v : Value} (h : Calls P f args i.W fun e w' => e = .returned v ∧ i.W = w') :
    Calls P f args i.W fun e w'' => e = .returned v ∧ ∃ j : Wo p, w'' = j.W := h.mono fun e w' ⟨he, hb⟩ => ⟨he, i, hb.symm⟩
/-- A law's class: behind the world at first, its arguments' boxes as they are. -/
theorem Outlives.below (w : World) : Outlives (fun W => Below w.heap.size w W) := fun _ _ h hb => below_after h hb
theorem Outlives.blk (g : Nat) (t : TypeId) (cs : Array Value) : Outlives (fun W => Blk W g t cs) := fun _ _ h hb => h.below hb h.lt
theorem Outlives.and {p q : World → Prop} (hp : Outlives p) (hq : Outlives q) : Outlives (fun W => p W ∧ q W) := fun W W' h hb => ⟨hp W W' h.1 hb, hq W W' h.2 hb⟩
/-- Worlds behind w in which boxes are as they were. -/
def BoxC (w : World) (bs : List (Nat × TypeId × Array Value)) (W : World) : Prop := Below w.heap.size w W ∧ ∀ b ∈ bs, Blk W b.1 b.2.1 b.2.2
theorem BoxC.out (w : World) (bs : List (Nat × TypeId × Array Value)) : Outlives (BoxC w bs) := fun _ _ h hb => ⟨below_after h.1 hb, fun b hm => (h.2 b hm).below hb (h.2 b hm).lt⟩
theorem BoxC.hidden (w : World) (bs : List (Nat × TypeId × Array Value)) (W0 : World) (h : BoxC w bs W0) :
    ∃ p : World → Prop, Outlives p ∧ p W0 ∧ Nonempty (Wo p) ∧ (∀ i : Wo p, BoxC w bs i.W) := ⟨BoxC w bs, BoxC.out w bs, h, ⟨⟨W0, h⟩⟩, fun i => i.ok⟩
theorem BoxC.one (w W : World) (g : Nat) (t : TypeId) (cs : Array Value) (hb : Below w.heap.size w W) (h : Blk W g t cs) : BoxC w [(g, t, cs)] W.drew := ⟨hb.drew, fun b hm => by
  have e : b = (g, t, cs) := by simpa using hm
  subst e
  exact h.drew⟩
end Go.Proofs.Ytpfcmfannkbipaa
end
