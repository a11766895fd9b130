/- The walks of the machine's small parts. No condition but what holds of every run. -/
import Derived.Test.YtpfcmfannkbipaaVmPl
import Derived.Test.YtpfcmfannkbipaaDice
import Derived.Test.YtpfcmfannkbipaaOwn
import Derived.Deep.RegionLaw
import Derived.WalkSmall
import Derived.Deep.DeepCutAuto
set_option linter.unusedVariables false
set_option linter.unusedSimpArgs false
set_option maxRecDepth 20000
namespace Go.Proofs.Ytpfcmfannkbipaa
open Go.RowKit Go.Deep

theorem need_ok (f : Int) (w : World) : Calls Try.prog 122 #[.bool true, .int .i64 f] w fun e w' => e = .returned (.tuple #[]) ∧ w = w' := by
  go_enter Try.func122, Try.ntmps122
  go_wp2
  go_end0
  exact ⟨rfl, rfl⟩
/-- A run that goes wrong. -/
def faultP (f : Int) : List PanicEntry := [{ v := .iface 164 (.int .i64 f), recovered := false }]
theorem need_no (f : Int) (w : World) : Calls Try.prog 122 #[.bool false, .int .i64 f] w fun e w' => e = .panicked (faultP f) ∧ w = w' := by
  go_enter Try.func122, Try.ntmps122
  go_wp2
  exact ⟨rfl, rfl, rfl⟩
theorem divide_no (b : Int) (w : World) : Calls Try.prog 134 #[.int .i64 b, .int .i64 0] w fun e w' => e = .panicked (faultP 2) ∧ w = w' := by
  go_enter Try.func134, Try.ntmps134
  go_wp2_with (go_at_call 122; refine (need_no _ _).mono ?_; rintro e w' ⟨rfl, rfl⟩)
  exact ⟨rfl, rfl, rfl⟩
theorem divide_any (b c : Int) (w : World) (h0 : c ≠ 0) : Calls Try.prog 134 #[.int .i64 b, .int .i64 c] w fun e w' => e = .returned (.tuple #[.int .i64 (quoI b c), .int .i64 (remI b c)]) ∧ ∃ k, w' = w.drewN k := by
  by_cases h1 : c = -1
  · subst h1
    have e1 : quoI b (-1) = wrap64 (-b) := by unfold quoI; rw [Int.tdiv_neg, Int.tdiv_one]
    have e2 : remI b (-1) = 0 := by unfold remI; rw [Int.tmod_neg, Int.tmod_one]
    rw [e1, e2]
    clear e1 e2
    go_enter Try.func134, Try.ntmps134
    go_wp2_with (go_at_call 122; refine (need_ok _ _).mono ?_; rintro e w' ⟨rfl, rfl⟩)
    go_ret2
    exact ⟨rfl, 0, rfl⟩
  · have e0 : (c != 0) = true := by rw [bne_iff_ne]; exact h0
    have e1 : (c == -1) = false := by rw [beq_eq_false_iff_ne]; exact h1
    go_enter Try.func134, Try.ntmps134
    go_wp2_with (go_at_call 122; refine (need_ok _ _).mono ?_; rintro e w' ⟨rfl, rfl⟩)
    go_quiet (fail)
    go_wp2
    go_ret2
    exact ⟨rfl, _, rfl⟩

/-! The run in memory. -/
theorem Blk.neT {w : World} {g g' : Nat} {t t' : TypeId} {cs cs' : Array Value} (h : Blk w g t cs) (h' : Blk w g' t' cs') (hne : t ≠ t') : g ≠ g' := by
  rintro rfl
  unfold Blk at h h'
  rw [h] at h'
  injection h' with h'
  injection h' with _ h'
  exact hne h'
def runCells (pv wv sv : Value) (lps : Int) (db : Nat) (s : VS) : Array Value :=
  (pv :: (s.g.map (Value.int .i64) ++ [wv, .int .i64 lps, .pointer (some ⟨db, 0, none⟩), sv, .int .i64 s.at_, .int .i64 s.n])).toArray
def encSnt (x : Snt) : List Value := [.int .i64 x.1, .int .i64 x.2.1, .int .i64 x.2.2]
theorem one_snt (x : Snt) : ∀ u ∈ encSnt x, u.oneCell' = true := by intro u hu; simp [encSnt] at hu; rcases hu with rfl | rfl | rfl <;> rfl
theorem one_int (x : Int) : ∀ u ∈ encInt x, u.oneCell' = true := by intro u hu; simp [encInt] at hu; subst hu; rfl
theorem inf_int : (Try.prog.info? 3).map (fun i => (i.zero, i.size, i.bytes)) = some (some (.int .i64 0), 1, 8) := by kernel_rfl
theorem inf_snt : (Try.prog.info? 130).map (fun i => (i.zero, i.size, i.bytes)) = some (some (.agg #[.int .i64 0, .int .i64 0, .int .i64 0]), 3, 24) := by kernel_rfl
/-- A run, as it lies in memory: w0 the world that it began in; below B its own block and its dice; rb: a result's block. -/
structure RunS (rb : Option Nat) (w0 w : World) (B b db : Nat) (pv wv sv : Value) (W lps : Int) (s : VS) : Prop where
  bel : Below w0.heap.size w0 w
  blk : Blk w b 154 (runCells pv wv sv lps db s)
  dic : DiceAt w db W s.d
  wrd : OwnR 3 1 encInt w B wv s.w
  snt : OwnR 130 3 encSnt w B sv s.s
  lb : b < B
  ld : db < B
  siz : B ≤ w.heap.size
  lo : w0.heap.size ≤ b
  lod : w0.heap.size ≤ db
  res : ∀ r, rb = some r → Blk w r 3 #[.int .i64 0] ∧ wv.ownBlock ≠ some r
section
variable {rb : Option Nat} {w0 w w' : World} {B b db : Nat} {pv wv sv : Value} {W lps : Int} {s : VS}
theorem RunS.ne (h : RunS rb w0 w B b db pv wv sv W lps s) : b ≠ db := by
  intro e
  have h1 := h.blk
  have h2 := h.dic
  subst e
  unfold DiceAt at h2
  unfold Blk at h1 h2
  rw [h1] at h2
  injection h2 with h2
  injection h2 with _ h2
  exact absurd h2 (by decide)
/-- Behind a call that only makes memory. -/
theorem RunS.below (h : RunS rb w0 w B b db pv wv sv W lps s) (hb : Below w.heap.size w w') : RunS rb w0 w' B b db pv wv sv W lps s :=
  ⟨below_after h.bel hb, h.blk.below hb h.blk.lt, h.dic.below hb h.dic.lt, h.wrd.below hb, h.snt.below hb, h.lb, h.ld, Nat.le_trans h.siz hb.size, h.lo, h.lod, fun r hr => ⟨(h.res r hr).1.below hb (h.res r hr).1.lt, (h.res r hr).2⟩⟩
theorem RunS.drew (h : RunS rb w0 w B b db pv wv sv W lps s) : RunS rb w0 w.drew B b db pv wv sv W lps s := h.below (Below.refl _ _).drew
theorem RunS.drewN (h : RunS rb w0 w B b db pv wv sv W lps s) (n : Nat) : RunS rb w0 (w.drewN n) B b db pv wv sv W lps s := h.below (below_drewN (Below.refl _ _) n)
theorem RunS.alloc (h : RunS rb w0 w B b db pv wv sv W lps s) (o : Obj) : RunS rb w0 (w.alloc o) B b db pv wv sv W lps s := h.below ((Below.refl _ _).alloc (Nat.le_refl _) o)
/-- A store into the run's own block. -/
theorem RunS.set_ (h : RunS rb w0 w B b db pv wv sv W lps s) (i : Nat) (u : Value) (s' : VS) (hw : s'.w = s.w) (hs : s'.s = s.s) (hd : s'.d = s.d)
    (hc : (runCells pv wv sv lps db s).setIfInBounds i u = runCells pv wv sv lps db s') : RunS rb w0 (w.setCell ⟨b, i, none⟩ u) B b db pv wv sv W lps s' := by
  refine ⟨h.bel.setCell (p := ⟨b, i, none⟩) h.lo _, ?_, ?_, ?_, ?_, h.lb, h.ld, by simpa [World.setCell] using h.siz, h.lo, h.lod, fun r hr => ⟨(h.res r hr).1.far (p := ⟨b, i, none⟩) ((h.res r hr).1.neT h.blk (by decide)) _, (h.res r hr).2⟩⟩
  · rw [← hc]; exact h.blk.set_ i u
  · rw [hd]; exact Blk.far h.dic (p := ⟨b, i, none⟩) (Ne.symm h.ne) u
  · rw [hw]; exact h.wrd.setCell (p := ⟨b, i, none⟩) h.lb u
  · rw [hs]; exact h.snt.setCell (p := ⟨b, i, none⟩) h.lb u
theorem rc_reg (h8 : s.g.length = 8) {i : Nat} (hi : i < 8) : (runCells pv wv sv lps db s)[1 + i]? = some (.int .i64 (s.reg i)) := by
  unfold runCells VS.reg
  rw [List.getElem?_toArray, Nat.add_comm, List.getElem?_cons_succ, List.getElem?_append_left (by rw [List.length_map]; omega), List.getElem?_map, List.getElem?_eq_getElem (by omega), Int.toNat_natCast, List.getD_eq_getElem?_getD, List.getElem?_eq_getElem (by omega)]
  rfl
theorem rc_tail (h8 : s.g.length = 8) (j : Nat) : (runCells pv wv sv lps db s)[9 + j]? = [wv, .int .i64 lps, .pointer (some ⟨db, 0, none⟩), sv, .int .i64 s.at_, .int .i64 s.n][j]? := by
  unfold runCells
  rw [List.getElem?_toArray, show 9 + j = (8 + j) + 1 from by omega, List.getElem?_cons_succ, List.getElem?_append_right (by rw [List.length_map]; omega), List.length_map, h8, Nat.add_sub_cancel_left]
theorem set_tail {α : Type} (x : α) (l m : List α) (j : Nat) (u : α) (hl : l.length = 8) : (x :: (l ++ m)).set (9 + j) u = x :: (l ++ m.set j u) := by
  rw [show 9 + j = (8 + j) + 1 from by omega, List.set_cons_succ, List.set_append_right _ _ (by omega), hl, Nat.add_sub_cancel_left]
theorem rc_put (h8 : s.g.length = 8) {i : Nat} (hi : i < 8) (v : Int) : (runCells pv wv sv lps db s).setIfInBounds (1 + i) (.int .i64 v) = runCells pv wv sv lps db (s.put i v) := by
  unfold runCells VS.put
  rw [List.setIfInBounds_toArray, Nat.add_comm, List.set_cons_succ, List.set_append_left _ _ (by rw [List.length_map]; omega), Int.toNat_natCast, List.map_set]
theorem rc_at (h8 : s.g.length = 8) (a : Nat) : (runCells pv wv sv lps db s).setIfInBounds 13 (.int .i64 a) = runCells pv wv sv lps db { s with at_ := a } := by
  unfold runCells
  rw [List.setIfInBounds_toArray, show 13 = 9 + 4 from rfl, set_tail _ _ _ _ _ (by rw [List.length_map]; exact h8)]
  rfl
theorem rc_n (h8 : s.g.length = 8) (a : Nat) : (runCells pv wv sv lps db s).setIfInBounds 14 (.int .i64 a) = runCells pv wv sv lps db { s with n := a } := by
  unfold runCells
  rw [List.setIfInBounds_toArray, show 14 = 9 + 5 from rfl, set_tail _ _ _ _ _ (by rw [List.length_map]; exact h8)]
  rfl
theorem rc_sent (h8 : s.g.length = 8) (v : Value) (l : List Snt) : (runCells pv wv sv lps db s).setIfInBounds 12 v = runCells pv wv v lps db { s with s := l } := by
  unfold runCells
  rw [List.setIfInBounds_toArray, show 12 = 9 + 3 from rfl, set_tail _ _ _ _ _ (by rw [List.length_map]; exact h8)]
  rfl
end
/-- The run's cells, as the walk asks for them. -/
theorem RunS.regC {rb : Option Nat} {w0 w : World} {B b db : Nat} {pv wv sv : Value} {W lps : Int} {s : VS} (h : RunS rb w0 w B b db pv wv sv W lps s) (h8 : s.g.length = 8) {i : Nat} (hi : i < 8) : w.cell? ⟨b, 1 + i, none⟩ = some (.int .i64 (s.reg i)) := (h.blk.cell _).trans (rc_reg h8 hi)
theorem RunS.tails {rb : Option Nat} {w0 w : World} {B b db : Nat} {pv wv sv : Value} {W lps : Int} {s : VS} (h : RunS rb w0 w B b db pv wv sv W lps s) (h8 : s.g.length = 8) :
    w.cell? ⟨b, 0, none⟩ = some pv ∧ w.cell? ⟨b, 9, none⟩ = some wv ∧ w.cell? ⟨b, 10, none⟩ = some (.int .i64 lps) ∧ w.cell? ⟨b, 11, none⟩ = some (.pointer (some ⟨db, 0, none⟩)) ∧ w.cell? ⟨b, 12, none⟩ = some sv ∧
      w.cell? ⟨b, 13, none⟩ = some (.int .i64 s.at_) ∧ w.cell? ⟨b, 14, none⟩ = some (.int .i64 s.n) :=
  ⟨(h.blk.cell 0).trans rfl, (h.blk.cell 9).trans (rc_tail h8 0), (h.blk.cell 10).trans (rc_tail h8 1), (h.blk.cell 11).trans (rc_tail h8 2), (h.blk.cell 12).trans (rc_tail h8 3), (h.blk.cell 13).trans (rc_tail h8 4), (h.blk.cell 14).trans (rc_tail h8 5)⟩

theorem word_ok (rb : Option Nat) (w0 w : World) (B b db : Nat) (pv sv : Value) (W lps : Int) (s : VS) (c n x k g : Nat) (h : RunS rb w0 w B b db pv (.slice (some ⟨g, 0, none⟩) n c) sv W lps s) (h8 : s.g.length = 8) (hx : x < 8) (hk : s.reg x = k) (hkn : k < n) :
    Calls Try.prog 125 #[.pointer (some ⟨b, 0, none⟩), .int .i64 x] w fun e w' => e = .returned (.pointer (some ⟨g, k, none⟩)) ∧ w = w' := by
  obtain ⟨_, c9, _⟩ := h.tails h8
  have cx := h.regC h8 hx
  rw [hk] at cx
  clear hk h
  go_enter Try.func125, Try.ntmps125
  go_wp2_with (go_at_call 122; refine (need_ok _ _).mono ?_; rintro e w' ⟨rfl, rfl⟩)
  go_ret
  exact ⟨rfl, rfl⟩
theorem word_no (rb : Option Nat) (w0 w : World) (B b db : Nat) (pv sv : Value) (W lps : Int) (s : VS) (A : Option Addr) (c n x : Nat) (h : RunS rb w0 w B b db pv (.slice A n c) sv W lps s) (h8 : s.g.length = 8) (hx : x < 8) (hk : s.reg x < 0 ∨ (n : Int) ≤ s.reg x) :
    Calls Try.prog 125 #[.pointer (some ⟨b, 0, none⟩), .int .i64 x] w fun e w' => e = .panicked (faultP 3) ∧ w = w' := by
  obtain ⟨_, c9, _⟩ := h.tails h8
  have cx := h.regC h8 hx
  generalize s.reg x = r at *
  clear h
  rcases hk with hk | hk
  · have d0 : decide (0 ≤ r) = false := decide_eq_false (by omega)
    go_enter Try.func125, Try.ntmps125
    go_wp2_with (go_at_call 122; refine (need_no _ _).mono ?_; rintro e w' ⟨rfl, rfl⟩)
    exact ⟨rfl, rfl, rfl⟩
  · have h0 : 0 ≤ r := by omega
    have d0 : decide (r < (n : Int)) = false := decide_eq_false (by omega)
    go_enter Try.func125, Try.ntmps125
    go_wp2_with (go_at_call 122; refine (need_no _ _).mono ?_; rintro e w' ⟨rfl, rfl⟩)
    exact ⟨rfl, rfl, rfl⟩
theorem RunS.put {rb : Option Nat} {w0 w : World} {B b db : Nat} {pv wv sv : Value} {W lps : Int} {s : VS} (h : RunS rb w0 w B b db pv wv sv W lps s) (h8 : s.g.length = 8) {i : Nat} (hi : i < 8) (v : Int) :
    RunS rb w0 (w.setCell ⟨b, 1 + i, none⟩ (.int .i64 v)) B b db pv wv sv W lps (s.put i v) := h.set_ (1 + i) _ _ rfl rfl rfl (rc_put h8 hi v)
theorem RunS.free {rb : Option Nat} {w0 w : World} {B b db : Nat} {pv wv sv : Value} {W lps : Int} {s : VS} (h : RunS rb w0 w B b db pv wv sv W lps s) (i : Nat) : w.frozen? ⟨b, i, none⟩ = false := h.blk.frozen i
theorem put_put (s : VS) (i u v : Int) : (s.put i u).put i v = s.put i v := by unfold VS.put; simp
theorem comp_ok (op : Int) (rb : Option Nat) (w0 w : World) (B b db : Nat) (pv wv sv : Value) (W lps : Int) (s : VS) (x y z : Nat) (p q : Int) (h : RunS rb w0 w B b db pv wv sv W lps s) (h8 : s.g.length = 8) (hx : x < 8) (hy : y < 8) (hz : z < 8)
    (hp : s.reg y = p) (hq : s.reg z = q) (hop : 3 ≤ op ∧ op ≤ 8) (hf : twoF op q = 0) :
    Calls Try.prog 126 #[.pointer (some ⟨b, 0, none⟩), .agg #[.int .i64 op, .int .i64 x, .int .i64 y, .int .i64 z]] w fun e w' =>
      e = .returned (.tuple #[]) ∧ RunS rb w0 w' B b db pv wv sv W lps (s.put x (twoI op p q)) := by
  have hbx := Blk.new w 142 #[.int .i64 op, .int .i64 x, .int .i64 y, .int .i64 z]
  replace h := h.alloc (.cells #[.int .i64 op, .int .i64 x, .int .i64 y, .int .i64 z] 142)
  have H := hide h
  have H8 := hide h8
  have HB := hide hbx
  have HF := hide hf
  clear h h8 hbx hf
  go_enter Try.func126, Try.ntmps126
  go_upto_region 1 with fail
  generalize w.alloc _ = w1 at *
  generalize w.heap.size = bx at *
  have q1 := HB.out.cell 1
  have q2 := HB.out.cell 2
  have q3 := HB.out.cell 3
  have cy := H.out.regC H8.out hy
  have cz := H.out.regC H8.out hz
  rw [hp] at cy
  rw [hq] at cz
  clear hp hq
  simp only [List.getElem?_toArray, List.getElem?_cons_zero, List.getElem?_cons_succ] at q1 q2 q3
  go_quiet (fail)
  replace H := hide (H.out.drewN nq)
  replace HB := hide (HB.out.drewN nq)
  clear q1 q2 q3 cy cz
  generalize w1.drewN nq = w2 at *
  clear nq
  have q1 := HB.out.cell 1
  simp only [List.getElem?_toArray, List.getElem?_cons_zero, List.getElem?_cons_succ] at q1
  go_wp2_with fail
  go_quiet (fail)
  replace H := hide (H.out.drewN nq)
  replace HB := hide (HB.out.drewN nq)
  clear q1
  generalize w2.drewN nq = w3 at *
  clear nq
  have q0 := HB.out.cell 0
  have fx := H.out.free (1 + x)
  have cx := H.out.regC H8.out hx
  simp only [List.getElem?_toArray, List.getElem?_cons_zero, List.getElem?_cons_succ] at q0
  have HP := hide (fun v => H.out.put H8.out hx v)
  have HQ := hide (fun k v => (H.out.drewN k).put H8.out hx v)
  have hcs : op = 3 ∨ op = 4 ∨ op = 5 ∨ op = 6 ∨ op = 7 ∨ op = 8 := by omega
  clear hop HB
  rcases hcs with rfl | rfl | rfl | rfl | rfl | rfl
  · clear HF HQ
    go_wp2_with fail
    go_end0
    exact ⟨rfl, by rw [show twoI 3 p q = wrap64 (p + q) from rfl]; exact HP.out _⟩
  · clear HF HQ
    go_wp2_with fail
    go_end0
    exact ⟨rfl, by rw [show twoI 4 p q = wrap64 (p - q) from rfl]; exact HP.out _⟩
  · clear HF HQ
    go_wp2_with fail
    go_end0
    exact ⟨rfl, by rw [show twoI 5 p q = wrap64 (p * q) from rfl]; exact HP.out _⟩
  · have hq : q ≠ 0 := by
      intro e
      have := HF.out
      subst e
      exact absurd this (by decide)
    clear HF HP
    go_wp2_with fail
    refine (divide_any p q _ hq).mono ?_
    rintro e w4 ⟨rfl, k, rfl⟩
    clear hq
    go_wp2_with fail
    go_end0
    exact ⟨rfl, by rw [show twoI 6 p q = quoI p q from rfl]; exact HQ.out _ _⟩
  · have hq : q ≠ 0 := by
      intro e
      have := HF.out
      subst e
      exact absurd this (by decide)
    clear HF HP
    go_wp2_with fail
    refine (divide_any p q _ hq).mono ?_
    rintro e w4 ⟨rfl, k, rfl⟩
    clear hq
    go_wp2_with fail
    go_end0
    exact ⟨rfl, by rw [show twoI 7 p q = remI p q from rfl]; exact HQ.out _ _⟩
  · clear HF HQ
    have H0 := hide (HP.out 0)
    clear HP
    have c1 := World.cell?_setCell_same w3 ⟨b, 1 + x, none⟩ (.int .i64 0) cx
    have f1 : (w3.setCell ⟨b, 1 + x, none⟩ (.int .i64 0)).frozen? ⟨b, 1 + x, none⟩ = false := by rw [World.frozen?_setCell]; exact fx
    by_cases hlt : p < q
    · have e8 := hide (show twoI 8 p q = 1 from if_pos hlt)
      go_wp2_with fail
      go_end0
      refine ⟨rfl, ?_⟩
      rw [e8.out, ← put_put s x 0 1]
      exact H0.out.put (by unfold VS.put; rw [List.length_set]; exact H8.out) hx 1
    · have e8 := hide (show twoI 8 p q = 0 from if_neg hlt)
      go_wp2_with fail
      go_end0
      exact ⟨rfl, by rw [e8.out]; exact H0.out⟩
theorem comp_no (op : Int) (rb : Option Nat) (w0 w : World) (B b db : Nat) (pv wv sv : Value) (W lps : Int) (s : VS) (x y z : Nat) (h : RunS rb w0 w B b db pv wv sv W lps s) (h8 : s.g.length = 8) (hx : x < 8) (hy : y < 8) (hz : z < 8)
    (hop : op = 6 ∨ op = 7) (hf : s.reg z = 0) :
    Calls Try.prog 126 #[.pointer (some ⟨b, 0, none⟩), .agg #[.int .i64 op, .int .i64 x, .int .i64 y, .int .i64 z]] w fun e w' =>
      e = .panicked (faultP 2) ∧ RunS rb w0 w' B b db pv wv sv W lps s := by
  have hbx := Blk.new w 142 #[.int .i64 op, .int .i64 x, .int .i64 y, .int .i64 z]
  replace h := h.alloc (.cells #[.int .i64 op, .int .i64 x, .int .i64 y, .int .i64 z] 142)
  have H := hide h
  have H8 := hide h8
  have HB := hide hbx
  have HF := hide hf
  clear h h8 hbx hf
  go_enter Try.func126, Try.ntmps126
  go_upto_region 1 with fail
  generalize w.alloc _ = w1 at *
  generalize w.heap.size = bx at *
  have q1 := HB.out.cell 1
  have q2 := HB.out.cell 2
  have q3 := HB.out.cell 3
  have cy := H.out.regC H8.out hy
  have cz := H.out.regC H8.out hz
  rw [HF.out] at cz
  simp only [List.getElem?_toArray, List.getElem?_cons_zero, List.getElem?_cons_succ] at q1 q2 q3
  go_quiet (fail)
  replace H := hide (H.out.drewN nq)
  replace HB := hide (HB.out.drewN nq)
  clear q1 q2 q3 cy cz
  generalize w1.drewN nq = w2 at *
  clear nq
  have q1 := HB.out.cell 1
  simp only [List.getElem?_toArray, List.getElem?_cons_zero, List.getElem?_cons_succ] at q1
  go_wp2_with fail
  go_quiet (fail)
  replace H := hide (H.out.drewN nq)
  replace HB := hide (HB.out.drewN nq)
  clear q1
  generalize w2.drewN nq = w3 at *
  clear nq
  have q0 := HB.out.cell 0
  simp only [List.getElem?_toArray, List.getElem?_cons_zero, List.getElem?_cons_succ] at q0
  generalize s.reg y = p at *
  clear HB HF
  rcases hop with rfl | rfl
  · go_wp2_with fail
    refine (divide_no p _).mono ?_
    rintro e w4 ⟨rfl, rfl⟩
    go_wp2_with fail
    exact ⟨rfl, rfl, H.out⟩
  · go_wp2_with fail
    refine (divide_no p _).mono ?_
    rintro e w4 ⟨rfl, rfl⟩
    go_wp2_with fail
    exact ⟨rfl, rfl, H.out⟩
/-- Other blocks stay, when a row is appended to. -/
theorem OwnR.blkT {α : Type} {e2 t : TypeId} {size2 B g : Nat} {enc2 : α → List Value} {w w' : World} {v2 : Value} {M : List α} {cs : Array Value} (h2 : OwnR e2 size2 enc2 w B v2 M) (h : Blk w g t cs) (hne : t ≠ e2) (hw : w.grownBy w' v2.ownBlock) : Blk w' g t cs := by
  refine (hw.block g h.lt ?_).trans h
  intro e
  obtain ⟨cur, hc⟩ := h2.typ e.symm
  unfold Blk at h
  rw [h] at hc
  injection hc with hc
  injection hc with _ hc
  exact hne hc
/-- An event is sent. -/
theorem RunS.send {rb : Option Nat} {w0 w : World} {B b db : Nat} {pv wv sv : Value} {W lps : Int} {s : VS} (h : RunS rb w0 w B b db pv wv sv W lps s) (h8 : s.g.length = 8) (hl : s.s.length ≤ 4) (x : Snt) (ty : TypeId) :
    ∃ A' c' w1, (Builtin.append_ #[113, 113] ty #[sv, .slice (some ⟨w.heap.size, 0, none⟩) 1 1]).run Try.prog (w.alloc (.cells #[.int .i64 x.1, .int .i64 x.2.1, .int .i64 x.2.2] 130)) = .ok (.slice A' (s.s.length + 1) c') w1 ∧
      w1.cell? ⟨b, 12, none⟩ = some sv ∧ w1.frozen? ⟨b, 12, none⟩ = false ∧ RunS rb w0 (w1.setCell ⟨b, 12, none⟩ (.slice A' (s.s.length + 1) c')) B b db pv wv (.slice A' (s.s.length + 1) c') W lps { s with s := s.s ++ [x] } ∧
      ∀ (g : Nat) (t : TypeId) (cs : Array Value), Blk w g t cs → t ≠ 130 → Blk w1 g t cs := by
  obtain ⟨v2, w2, hrun, hown, hext⟩ := run_append_one (P := Try.prog) 130 113 ty 3 24 (.agg #[.int .i64 0, .int .i64 0, .int .i64 0]) encSnt (by decide) (fun _ => rfl) one_snt Try.underlying113 inf_snt rfl w B sv s.s x _ rfl h.snt (by omega) (by omega) h.siz
  obtain ⟨⟨sA, sc, sL⟩, hv, hsL, _⟩ := hown.form
  simp only [Sl.val] at hv hsL
  subst hsL
  rw [List.length_append, List.length_singleton] at hv
  subst hv
  have hg := hext.1
  have ha := h.alloc (.cells #[.int .i64 x.1, .int .i64 x.2.1, .int .i64 x.2.2] 130)
  have hblk : Blk w2 b 154 (runCells pv wv sv lps db s) := OwnR.blk h.snt h.blk h.lb hg
  have hdic : DiceAt w2 db W s.d := OwnR.blk h.snt h.dic h.ld hg
  have hwrd : OwnR 3 1 encInt w2 B wv s.w := h.wrd.other h.snt (by decide) hg
  have hbel : Below w0.heap.size w0 w2 := h.bel.trans ((Below.refl w0.heap.size w).grown hg h.bel.size fun k hk => Nat.le_trans (Nat.le_trans h.lo (Nat.le_of_lt h.lb)) (h.snt.base k hk))
  refine ⟨sA, sc, w2, hrun, (hblk.cell 12).trans (rc_tail h8 3), hblk.frozen 12, ⟨hbel.setCell (p := ⟨b, 12, none⟩) h.lo _, ?_, Blk.far hdic (p := ⟨b, 12, none⟩) (Ne.symm h.ne) _, hwrd.setCell (p := ⟨b, 12, none⟩) h.lb _, hown.setCell (p := ⟨b, 12, none⟩) h.lb _, h.lb, h.ld, by have := h.siz; have := hg.size; simp [World.setCell]; omega, h.lo, h.lod, fun r hr => ⟨(h.snt.blkT (h.res r hr).1 (by decide) hg).far (p := ⟨b, 12, none⟩) ((h.res r hr).1.neT h.blk (by decide)) _, (h.res r hr).2⟩⟩, fun g t cs hk hne => h.snt.blkT hk hne hg⟩
  rw [← rc_sent (s := s) (sv := sv) h8 _ (s.s ++ [x])]
  exact hblk.set_ 12 _
end Go.Proofs.Ytpfcmfannkbipaa
