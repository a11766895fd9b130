/- The walk of modelio.Get: what any bytes are. No condition but that the bytes are a string of the machine. -/
import Derived.Test.YtegegljpmelomaaMioJ
import Derived.Test.YtegegljpmelomaaLaw05c
import Derived.Test.YtegegljpmelomaaRChk
import Derived.Laws.EntriesVeiled
set_option linter.unusedVariables false
set_option linter.unusedSimpArgs false
set_option maxRecDepth 20000
namespace Go.Proofs.Ytegegljpmelomaa
open Go.RowKit Go.Deep
attribute [local go_sem] run_store_float

/-! A model read, one part behind the other. -/
def sI (st : RSt) : RSt := aft (goR st Mio.pI)
def sF (st : RSt) : RSt := aft (goR st Mio.pF)
def sD (st : RSt) : RSt := aft (goR st (Mio.pL Mio.pF))
def sP (st : RSt) : RSt := aft (goR st (Mio.pL (Mio.pL Mio.pIns)))
def sL (st : RSt) : RSt := aft (goR st (Mio.pL Mio.pLP))
def sN (st : RSt) : RSt := aft (goR st (Mio.pL Mio.pIni))
theorem aft_seq {α β : Type} (x : Mio.Rd α) (f : α → List Nat → Mio.Rd β) (F : RSt → RSt) (hF : ∀ e, F (.error e) = .error e) (h : ∀ a r, aft (f a r) = F (.ok r)) : aft (Mio.thenR x f) = F (aft x) := by
  cases x with
  | error e => exact (hF e).symm
  | ok q =>
    obtain ⟨a, r⟩ := q
    exact h a r
theorem aft_end {α β : Type} (x : Mio.Rd α) (f : α → β) : aft (Mio.thenR x fun a r => .ok (f a, r)) = aft x := by
  cases x with
  | error e => rfl
  | ok q => rfl
theorem mod_aft (ws : List Nat) : aft (Mio.pM ws) = sN (sL (sP (sD (sF (sI (.ok ws)))))) := by
  unfold Mio.pM
  refine aft_seq _ _ (fun st => sN (sL (sP (sD (sF st))))) (fun _ => rfl) fun a r => ?_
  refine aft_seq _ _ (fun st => sN (sL (sP (sD st)))) (fun _ => rfl) fun a r => ?_
  refine aft_seq _ _ (fun st => sN (sL (sP st))) (fun _ => rfl) fun a r => ?_
  refine aft_seq _ _ (fun st => sN (sL st)) (fun _ => rfl) fun a r => ?_
  refine aft_seq _ _ (fun st => sN st) (fun _ => rfl) fun a r => ?_
  exact aft_end _ _
theorem mod_con {ws : List Nat} {n : Int} {f : Nat} {dl : List Nat} {pl : List (List Ins4)} {ll : List (Int × List Int)} {il : List Init3} (h1 : ∀ y r, goR (.ok ws) Mio.pI = .ok (y, r) → n = y) (h2 : ∀ y r, goR (sI (.ok ws)) Mio.pF = .ok (y, r) → f = y)
    (h3 : ∀ y r, goR (sF (sI (.ok ws))) (Mio.pL Mio.pF) = .ok (y, r) → dl = y) (h4 : ∀ y r, goR (sD (sF (sI (.ok ws)))) (Mio.pL (Mio.pL Mio.pIns)) = .ok (y, r) → pl = y) (h5 : ∀ y r, goR (sP (sD (sF (sI (.ok ws))))) (Mio.pL Mio.pLP) = .ok (y, r) → ll = y)
    (h6 : ∀ y r, goR (sL (sP (sD (sF (sI (.ok ws)))))) (Mio.pL Mio.pIni) = .ok (y, r) → il = y) : ∀ m r, Mio.pM ws = .ok (m, r) → (⟨n, f, dl, pl, ll, il⟩ : Mio.Mod) = m := by
  intro m r h
  obtain ⟨a1, r1, e1, h⟩ := Mio.thenR_ok h
  obtain ⟨a2, r2, e2, h⟩ := Mio.thenR_ok h
  obtain ⟨a3, r3, e3, h⟩ := Mio.thenR_ok h
  obtain ⟨a4, r4, e4, h⟩ := Mio.thenR_ok h
  obtain ⟨a5, r5, e5, h⟩ := Mio.thenR_ok h
  obtain ⟨a6, r6, e6, h⟩ := Mio.thenR_ok h
  cases h
  have s1 : sI (.ok ws) = .ok r1 := by show aft (Mio.pI ws) = _; rw [e1]; rfl
  have s2 : sF (.ok r1) = .ok r2 := by show aft (Mio.pF r1) = _; rw [e2]; rfl
  have s3 : sD (.ok r2) = .ok r3 := by show aft (Mio.pL Mio.pF r2) = _; rw [e3]; rfl
  have s4 : sP (.ok r3) = .ok r4 := by show aft (Mio.pL (Mio.pL Mio.pIns) r3) = _; rw [e4]; rfl
  have s5 : sL (.ok r4) = .ok r5 := by show aft (Mio.pL Mio.pLP r4) = _; rw [e5]; rfl
  rw [s1] at h2 h3 h4 h5 h6
  rw [s2] at h3 h4 h5 h6
  rw [s3] at h4 h5 h6
  rw [s4] at h5 h6
  rw [s5] at h6
  rw [h1 _ _ e1, h2 _ _ e2, h3 _ _ e3, h4 _ _ e4, h5 _ _ e5, h6 _ _ e6]
theorem aft_err {α : Type} {o : Mio.Rd α} {e : Int} (h : aft o = .error e) : o = .error e := by
  cases o with
  | error d => cases h; rfl
  | ok q => cases h
theorem aft_ok {α : Type} {o : Mio.Rd α} {ws : List Nat} (h : aft o = .ok ws) : ∃ y, o = .ok (y, ws) := by
  cases o with
  | error d => cases h
  | ok q => obtain ⟨y, r⟩ := q; cases h; exact ⟨y, rfl⟩
/-! What comes of it. -/
theorem get_err {s : ByteArray} {e : Int} (h : aft (Mio.pM (wordsOf s)) = .error e) : getE s = e ∧ getM s = emptyM := by
  have := aft_err h
  unfold getE getM
  rw [this]
  exact ⟨rfl, rfl⟩
theorem get_long {s : ByteArray} {k : Nat} (h : aft (Mio.pM (wordsOf s)) = .ok ((wordsOf s).drop k)) (hk : 8 * k < s.size) : getE s = 6 ∧ getM s = emptyM := by
  obtain ⟨y, hy⟩ := aft_ok h
  have hc : (wordsOf s).drop k ≠ [] ∨ s.size % 8 ≠ 0 := by
    by_cases h8 : s.size % 8 = 0
    · refine .inl fun he => ?_
      have := congrArg List.length he
      rw [List.length_drop, words_len, List.length_nil] at this
      omega
    · exact .inr h8
  unfold getE getM
  rw [hy]
  simp only
  rw [if_pos hc, if_pos hc]
  exact ⟨rfl, rfl⟩
theorem get_whole {s : ByteArray} {k : Nat} {m : Mio.Mod} (h : aft (Mio.pM (wordsOf s)) = .ok ((wordsOf s).drop k)) (hm : ∀ y r, Mio.pM (wordsOf s) = .ok (y, r) → m = y) (hk : 8 * k ≤ s.size) (hk2 : ¬ 8 * k < s.size) : getE s = (if chkM m then 0 else 15) ∧ getM s = if chkM m then m else emptyM := by
  obtain ⟨y, hy⟩ := aft_ok h
  obtain rfl := hm _ _ hy
  have hc : ¬ ((wordsOf s).drop k ≠ [] ∨ s.size % 8 ≠ 0) := by
    rw [List.drop_eq_nil_of_le (by rw [words_len]; omega)]
    rintro (h | h)
    · exact h rfl
    · omega
  unfold getE getM
  rw [hy]
  simp only
  rw [if_neg hc, if_neg hc]
  exact ⟨rfl, rfl⟩
def noMdl : Mdl := ⟨0, 0, ⟨none, 0, []⟩, ⟨none, 0, []⟩, ⟨none, 0, []⟩, ⟨none, 0, []⟩⟩
theorem noRow {α : Type} (d : Dec α) (size : Nat) (w : World) : Sl.At d size w ⟨none, 0, []⟩ := ⟨fun i x h => by simp at h, Nat.le_refl _, Nat.zero_le _⟩
theorem noMdl_at (w : World) : noMdl.At w := ⟨by unfold I64 noMdl; decide, by decide, noRow _ _ _, noRow _ _ _, noRow _ _ _, noRow _ _ _⟩
theorem noMdl_mod : modOf noMdl = emptyM := rfl
def GotRd (w : World) (s : ByteArray) (e : Ending) (w' : World) : Prop := ∃ m : Mdl, e = .returned (.tuple #[m.val, .int .i64 (getE s)]) ∧ m.At w' ∧ modOf m = getM s ∧ Below w.heap.size w w'
/-- How far the reading of a model has come. -/
structure GetS (w W : World) (g gm : Nat) (s : ByteArray) (st : RSt) (seed : Int) (fin : Nat) (D P L I : Value) (wr : World) : Prop where
  lo : Below w.heap.size w wr
  siz : W.heap.size ≤ wr.heap.size
  rd : RdAt wr g s st
  ou : Blk wr gm 28 #[.int .i64 seed, .float .f64 fin, D, P, L, I]
  kp : ∀ k, k < W.heap.size → k ≠ g → k ≠ gm → wr.heap[k]? = W.heap[k]?
structure GetN (w W : World) (g gm : Nat) : Prop where
  g1 : w.heap.size ≤ g
  g2 : g < W.heap.size
  m1 : w.heap.size ≤ gm
  m2 : gm < W.heap.size
  ne : g ≠ gm
section
variable {w W wr w' : World} {g gm : Nat} {s : ByteArray} {st st' : RSt} {seed : Int} {fin : Nat} {D P L I : Value}
theorem GetS.read (h : GetS w W g gm s st seed fin D P L I wr) (N : GetN w W g gm) (hg : wr.grownBy w' (some g)) (hr : RdAt w' g s st') : GetS w W g gm s st' seed fin D P L I w' := by
  refine ⟨(h.lo.grown hg h.lo.size fun k hk => by injection hk with hk; rw [← hk]; exact N.g1), Nat.le_trans h.siz hg.size, hr, h.ou.grown hg fun e => ?_, fun k h1 h2 h3 => ?_⟩
  · injection e with e
    exact N.ne e.symm
  · exact (hg.block k (Nat.lt_of_lt_of_le h1 h.siz) fun e => by injection e with e; exact h2 e).trans (h.kp k h1 h2 h3)
theorem GetS.put (h : GetS w W g gm s st seed fin D P L I wr) (N : GetN w W g gm) (i : Nat) (u : Value) {cs : Array Value} (hcs : #[.int .i64 seed, .float .f64 fin, D, P, L, I].setIfInBounds i u = cs) (D' P' L' I' : Value) (hd : cs = #[.int .i64 seed, .float .f64 fin, D', P', L', I']) : GetS w W g gm s st seed fin D' P' L' I' (wr.setCell ⟨gm, i, none⟩ u) := by
  refine ⟨h.lo.setCell N.m1 u, by simpa [World.setCell] using h.siz, h.rd.kept (Below.heap_setCell _ _ _ _ N.ne), ?_, fun k h1 h2 h3 => ?_⟩
  · have := h.ou.set_ i u
    rw [hcs, hd] at this
    exact this
  · exact (Below.heap_setCell _ _ _ _ h3).trans (h.kp k h1 h2 h3)
theorem GetS.cell (h : GetS w W g gm s st seed fin D P L I wr) {k i : Nat} {u : Value} (hc : W.cell? ⟨k, i, none⟩ = some u) (h2 : k ≠ g) (h3 : k ≠ gm) : wr.cell? ⟨k, i, none⟩ = some u := by
  have hk : k < W.heap.size := cell_lt hc
  have := h.kp k hk h2 h3
  refine Eq.trans ?_ hc
  unfold World.cell?
  simp only [this]
end
/-- The four boxes ahead of the reading. -/
theorem get_boxes (w : World) (s : ByteArray) (W : World) (hW : W = (((w.alloc (.cells #[.int .i64 0, .float .f64 0, .slice none 0 0, .slice none 0 0, .slice none 0 0, .slice none 0 0] 28)).alloc (.cells #[.string s, .int .i64 0, .int .i64 0] 83)).alloc (.cells #[.pointer (some ⟨w.heap.size + 1, 0, none⟩)] 81)).alloc (.cells #[.func (.func 61) #[] #[.pointer (some ⟨w.heap.size + 1 + 1, 0, none⟩)]] 85)) :
    Below w.heap.size w W ∧ W.heap.size = w.heap.size + 4 ∧ Blk W w.heap.size 28 #[.int .i64 0, .float .f64 0, .slice none 0 0, .slice none 0 0, .slice none 0 0, .slice none 0 0] ∧ RdAt W (w.heap.size + 1) s (.ok (wordsOf s)) ∧
      W.cell? ⟨w.heap.size + 1 + 1, 0, none⟩ = some (.pointer (some ⟨w.heap.size + 1, 0, none⟩)) ∧ W.cell? ⟨w.heap.size + 1 + 1 + 1, 0, none⟩ = some (.func (.func 61) #[] #[.pointer (some ⟨w.heap.size + 1 + 1, 0, none⟩)]) := by
  have hb := allocs_below [(#[.int .i64 0, .float .f64 0, .slice none 0 0, .slice none 0 0, .slice none 0 0, .slice none 0 0], 28), (#[.string s, .int .i64 0, .int .i64 0], 83), (#[.pointer (some ⟨w.heap.size + 1, 0, none⟩)], 81), (#[.func (.func 61) #[] #[.pointer (some ⟨w.heap.size + 1 + 1, 0, none⟩)]], 85)] w
  have hz := allocs_size [(#[.int .i64 0, .float .f64 0, .slice none 0 0, .slice none 0 0, .slice none 0 0, .slice none 0 0], 28), (#[.string s, .int .i64 0, .int .i64 0], 83), (#[.pointer (some ⟨w.heap.size + 1, 0, none⟩)], 81), (#[.func (.func 61) #[] #[.pointer (some ⟨w.heap.size + 1 + 1, 0, none⟩)]], 85)] w
  have hB := allocs_blk [(#[.int .i64 0, .float .f64 0, .slice none 0 0, .slice none 0 0, .slice none 0 0, .slice none 0 0], 28), (#[.string s, .int .i64 0, .int .i64 0], 83), (#[.pointer (some ⟨w.heap.size + 1, 0, none⟩)], 81), (#[.func (.func 61) #[] #[.pointer (some ⟨w.heap.size + 1 + 1, 0, none⟩)]], 85)] w
  have e : W = allocs w [(#[.int .i64 0, .float .f64 0, .slice none 0 0, .slice none 0 0, .slice none 0 0, .slice none 0 0], 28), (#[.string s, .int .i64 0, .int .i64 0], 83), (#[.pointer (some ⟨w.heap.size + 1, 0, none⟩)], 81), (#[.func (.func 61) #[] #[.pointer (some ⟨w.heap.size + 1 + 1, 0, none⟩)]], 85)] := hW
  rw [← e] at hb hz hB
  exact ⟨hb, hz, hB 0 _ rfl, ⟨0, rfl, Nat.zero_le _, hB 1 _ rfl⟩, Blk.cell (hB 2 _ rfl) 0, Blk.cell (hB 3 _ rfl) 0⟩
/-- A row of the call's own, and that its items are well. -/
def Rw {α : Type} (t : TypeId) (size : Nat) (enc : α → List Value) (ok : World → Nat → α → Prop) (B : Nat) (x : Sl α) (w : World) : Prop := OwnR t size enc w B x.val x.L ∧ ∀ y ∈ x.L, ok w B y
theorem Rw.g {α : Type} {t : TypeId} {size : Nat} {enc : α → List Value} {ok : World → Nat → α → Prop} (K : Keep t size enc ok) {B : Nat} {x : Sl α} {w w' : World} {g : Nat} (h : Rw t size enc ok B x w) (hg : w.grownBy w' (some g)) (hB : g < B) : Rw t size enc ok B x w' :=
  ⟨h.1.keepg hg hB, fun y hy => K.g (h.2 y hy) hg hB⟩
theorem Rw.set {α : Type} {t : TypeId} {size : Nat} {enc : α → List Value} {ok : World → Nat → α → Prop} (K : Keep t size enc ok) {B : Nat} {x : Sl α} {w : World} (h : Rw t size enc ok B x w) {p : Addr} (hB : p.block < B) (u : Value) : Rw t size enc ok B x (w.setCell p u) :=
  h.g K (only_setCell (World.grownBy.refl w (some p.block)) (.inl rfl) u) hB
theorem Rw.low {α : Type} {t : TypeId} {size : Nat} {enc : α → List Value} {ok : World → Nat → α → Prop} (K : Keep t size enc ok) {B N : Nat} {x : Sl α} {w : World} (h : Rw t size enc ok B x w) (hN : N ≤ B) : Rw t size enc ok N x w :=
  ⟨h.1.low6 hN, fun y hy => K.low (h.2 y hy) hN⟩
structure Rows4 (B : Nat) (m : Mdl) (w : World) : Prop where
  dl : Rw 22 1 encFl okFl B m.dl w
  pl : Rw 38 1 encSl okPr B m.pl w
  ll : Rw 41 2 encLp okLp B m.ll w
  il : Rw 43 3 encInit okIni B m.il w
theorem Rows4.set {B : Nat} {m : Mdl} {w : World} (h : Rows4 B m w) {p : Addr} (hB : p.block < B) (u : Value) : Rows4 B m (w.setCell p u) := ⟨h.dl.set keep_fl hB u, h.pl.set keep_pr hB u, h.ll.set keep_lp hB u, h.il.set keep_ini hB u⟩
theorem Rows4.g {B g : Nat} {m : Mdl} {w w' : World} (h : Rows4 B m w) (hg : w.grownBy w' (some g)) (hB : g < B) : Rows4 B m w' := ⟨h.dl.g keep_fl hg hB, h.pl.g keep_pr hg hB, h.ll.g keep_lp hg hB, h.il.g keep_ini hg hB⟩
theorem Rows4.at_ {B : Nat} {m : Mdl} {w : World} (h : Rows4 B m w) (h1 : I64 m.seed) (h2 : m.fin < 18446744073709551616) : m.At w := by
  refine ⟨h1, h2, ?_, ?_, ?_, ?_⟩
  · exact OwnR.sl (size := 1) (by decide) (fun _ => rfl) makes_fl h.dl.1 h.dl.2
  · exact OwnR.sl (size := 1) (by decide) (fun _ => rfl) (makes_sl InsAt 4) h.pl.1 fun x hx => OwnR.sl (size := 4) (by decide) (fun _ => rfl) makes_ins (h.pl.2 x hx).1 (h.pl.2 x hx).2
  · exact OwnR.sl (size := 2) (by decide) (fun _ => rfl) makes_lp h.ll.1 fun x hx => ⟨(h.ll.2 x hx).1, OwnR.sl (size := 1) (by decide) (fun _ => rfl) makes_int (h.ll.2 x hx).2.1 (h.ll.2 x hx).2.2⟩
  · exact OwnR.sl (size := 3) (by decide) (fun _ => rfl) makes_init h.il.1 h.il.2
end Go.Proofs.Ytegegljpmelomaa
