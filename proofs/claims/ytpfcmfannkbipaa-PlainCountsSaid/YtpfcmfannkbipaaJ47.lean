/- Texts of this claim in one. No condition. -/
import Derived.Test.YtpfcmfannkbipaaJ29
import Derived.Test.YtpfcmfannkbipaaJ49
import Derived.Test.YtpfcmfannkbipaaJ03
section
set_option linter.unusedVariables false
set_option linter.unusedSimpArgs false
set_option maxRecDepth 20000
namespace Go.Proofs.Ytpfcmfannkbipaa
open Go.RowKit Go.Deep Go.Maps

/-- All blocks but some stand. -/
structure Off (T : Nat → Prop) (w w' : World) : Prop where
  os : w'.os = w.os
  tape : w'.tape = w.tape
  output : w'.output = w.output
  size : w.heap.size ≤ w'.heap.size
  block : ∀ k, k < w.heap.size → ¬ T k → w'.heap[k]? = w.heap[k]?
section
variable {T T' : Nat → Prop} {a b c w w' : World}
theorem Off.refl (T : Nat → Prop) (w : World) : Off T w w := ⟨rfl, rfl, rfl, Nat.le_refl _, fun _ _ _ => rfl⟩
theorem Off.mono (h : Off T a b) (hT : ∀ k, k < a.heap.size → T k → T' k) : Off T' a b := ⟨h.os, h.tape, h.output, h.size, fun k hk hn => h.block k hk fun ht => hn (hT k hk ht)⟩
theorem Off.trans (h : Off T a b) (k : Off T b c) : Off T a c :=
  ⟨k.os.trans h.os, k.tape.trans h.tape, k.output.trans h.output, Nat.le_trans h.size k.size, fun i hi hn => (k.block i (Nat.lt_of_lt_of_le hi h.size) hn).trans (h.block i hi hn)⟩
/-- A step that turns some blocks and new ones alone. -/
theorem Off.then_ (h : Off T a b) (k : Off T' b c) (hT : ∀ i, T' i → T i ∨ a.heap.size ≤ i) : Off T a c :=
  ⟨k.os.trans h.os, k.tape.trans h.tape, k.output.trans h.output, Nat.le_trans h.size k.size, fun i hi hn => (k.block i (Nat.lt_of_lt_of_le hi h.size) fun ht => (hT i ht).elim hn fun h1 => by omega).trans (h.block i hi hn)⟩
theorem Off.of_below (h : Below a.heap.size a b) : Off T a b := ⟨h.os, h.tape, h.output, h.size, fun i hi _ => h.block i hi⟩
theorem Off.of_grown {row : Option Nat} (h : a.grownBy b row) (hT : ∀ g, row = some g → T g) : Off T a b := ⟨h.os, h.tape, h.output, h.size, fun i hi hn => h.block i hi fun e => hn (hT i e.symm)⟩
theorem Off.below (h : Off T a b) {B : Nat} (hB : B ≤ a.heap.size) (hT : ∀ k, T k → B ≤ k) : Below B a b := ⟨h.os, h.tape, h.output, h.size, fun k hk => h.block k (by omega) fun ht => by have := hT k ht; omega⟩
theorem Off.alloc (h : Off T a b) (o : Obj) : Off T a (b.alloc o) := h.then_ (T' := fun _ => False) (Off.of_grown (World.grownBy_alloc b o none) fun _ h => by cases h) fun _ h => h.elim
theorem Off.drew (h : Off T a b) : Off T a b.drew := ⟨h.os, h.tape, h.output, h.size, h.block⟩
theorem Off.setCell (h : Off T a b) {p : Addr} (hp : T p.block ∨ a.heap.size ≤ p.block) (u : Value) : Off T a (b.setCell p u) :=
  h.then_ (T' := fun k => k = p.block) (Off.of_grown (only_setCell (World.grownBy.refl b (some p.block)) (.inl rfl) u) fun g e => (Option.some.inj e).symm) fun i e => by rw [e]; exact hp
theorem Off.after (h : Off T a b) (k : Below b.heap.size b c) : Off T a c := h.trans (Off.of_below k)
theorem Off.blk (h : Off T w w') {g : Nat} {t : TypeId} {cs : Array Value} (hb : Blk w g t cs) (hn : ¬ T g) : Blk w' g t cs := (h.block g hb.lt hn).trans hb
theorem Off.map {H : Type} {P : Program} {k : TypeId} {R : Value → Option (DataW H × List MemPlace)} {g n : Nat} {D : DataW H} (h : Off T w w') (hm : w.ownsMap P k R g n D) (hn : ¬ T g) : w'.ownsMap P k R g n D := by
  have hlt := hm.lt
  obtain ⟨es, clock, hb, r⟩ := hm
  exact ⟨es, clock, (h.block g hlt hn).trans hb, r⟩
theorem Off.own {α : Type} {e : TypeId} {size B : Nat} {enc : α → List Value} {v : Value} {L : List α} (h : Off T w w') (ho : OwnR e size enc w B v L) (hn : ∀ g, v.ownBlock = some g → ¬ T g) : OwnR e size enc w' B v L := by
  refine ⟨ho.1, ?_⟩
  rcases ho.2 with h0 | ⟨g, cap, cur, hv, hB, hh, hrest⟩
  · exact .inl h0
  · subst hv
    exact .inr ⟨g, cap, cur, rfl, hB, (h.block g (Blk.lt (t := e) hh) (hn g rfl)).trans hh, hrest⟩
end
/-- A row in blocks of its element's type stands where no such block has turned. -/
theorem TRow.off {α : Type} {e : TypeId} {d : Dec α} {size : Nat} {T : Nat → Prop} {w w' : World} {s : Sl α} (hd : d.local_) (h : TRow e d size w s) (ho : Off T w w') (hn : ∀ k cs, Blk w k e cs → ¬ T k) : TRow e d size w' s := by
  refine ⟨⟨fun i x hx => ?_, h.at_.2⟩, fun h0 => ?_⟩
  · obtain ⟨a, ha, hx'⟩ := h.at_.1 i x hx
    obtain ⟨a', cs', ha', _, hb'⟩ := h.blk (by have := (List.getElem?_eq_some_iff.1 hx).1; omega)
    have haa : a = a' := Option.some.inj (ha.symm.trans ha')
    subst haa
    refine ⟨a, ha, hd w _ _ _ (fun o => World.cell?_of_block ?_) hx'⟩
    simp only [block_of_add]
    exact ho.block _ hb'.lt (hn _ _ hb')
  · obtain ⟨a, cs, h1, h2, h3⟩ := h.blk h0
    exact ⟨a, cs, h1, h2, ho.blk h3 (hn _ _ h3)⟩
/-- A world's first n blocks. -/
def firstW (w : World) (n : Nat) : World := { w with heap := w.heap.extract 0 n }
theorem firstW_size {w : World} {n : Nat} (hn : n ≤ w.heap.size) : (firstW w n).heap.size = n := by unfold firstW; simp; omega
theorem firstW_at {w : World} {n k : Nat} (hk : k < n) : (firstW w n).heap[k]? = w.heap[k]? := by
  unfold firstW
  simp only [Array.getElem?_extract]
  split
  · rw [Nat.zero_add]
  · rename_i h
    rw [Array.getElem?_eq_none (by omega)]
theorem firstW_below {w : World} {n : Nat} (hn : n ≤ w.heap.size) : Below n (firstW w n) w := ⟨rfl, rfl, rfl, by rw [firstW_size hn]; exact hn, fun k hk => (firstW_at hk).symm⟩
theorem below_firstW {a w : World} {n B : Nat} (h : Below B a w) (hB : B ≤ n) (ha : a.heap.size ≤ n) (hn : n ≤ w.heap.size) : Below B a (firstW w n) :=
  ⟨h.os, h.tape, h.output, by rw [firstW_size hn]; exact ha, fun k hk => (firstW_at (by omega)).trans (h.block k hk)⟩

/-- The types of a model's rows. -/
def mtyp (t : TypeId) : Prop := t = 3 ∨ t = 27 ∨ t = 118 ∨ t = 142 ∨ t = 120 ∨ t = 125
theorem mtyp_ne {t u : TypeId} (h : mtyp t) (h1 : 3 ≠ u) (h2 : 27 ≠ u) (h3 : 118 ≠ u) (h4 : 142 ≠ u) (h5 : 120 ≠ u) (h6 : 125 ≠ u) : t ≠ u := by
  rcases h with rfl | rfl | rfl | rfl | rfl | rfl <;> assumption
theorem OwnM.off {T : Nat → Prop} {w w' : World} {B : Nat} {c : Mdl} (h : OwnM B c w) (ho : Off T w w') (hT : ∀ k t cs, Blk w k t cs → mtyp t → ¬ T k) : OwnM B c w' := by
  have key : ∀ {α : Type} {e : TypeId} {size : Nat} {enc : α → List Value} {v : Value} {L : List α}, mtyp e → OwnR e size enc w B v L → OwnR e size enc w' B v L := fun {α e size enc v L} he hr => ho.own hr fun k hk => by
    obtain ⟨cur, hc⟩ := hr.typ hk
    exact hT k e cur hc he
  exact ⟨key (.inr (.inl rfl)) h.dls, key (.inr (.inr (.inl rfl))) h.pls, fun s hs => key (.inr (.inr (.inr (.inl rfl)))) (h.ps s hs), key (.inr (.inr (.inr (.inr (.inl rfl))))) h.lls, fun x hx => key (.inl rfl) (h.ls x hx), key (.inr (.inr (.inr (.inr (.inr rfl))))) h.ils⟩
theorem keyed9 : Keyed Try.prog 3 := int_keyed Try.underlying3
theorem key9 {n : Int} (h : -9223372036854775808 ≤ n ∧ n ≤ 9223372036854775807) : keyOf Try.prog 3 (.int .i64 n) = some (kI n) := keyOf_int_mk Try.underlying3 (WalkArith.wf_i64 h)
def simC (m : Mdl) (S : Sl St) (b : Nat) (nx hd : Int) : Array Value := #[.int .i64 m.seed, .float .f64 m.fin, m.dl.val, m.pl.val, m.ll.val, m.il.val, S.val, .map (some b), .int .i64 nx, .int .i64 hd]
/-- The package's simulation in memory: g its box, b its map; L what waits, numbered, in the order of handling; nx the next number; hd how many were handled. -/
structure PSm (lo g b : Nat) (m : Mdl) (S : Sl St) (L : List NE) (nx hd : Int) (w : World) : Prop where
  ms : OwnM lo m w ∧ ∃ w0, m.At w0
  ge : lo ≤ g
  geb : lo ≤ b
  box : Blk w g 136 (simC m S b nx hd)
  st : OwnR 61 3 encSt w lo S.val S.L
  wds : ∀ s ∈ S.L, TRow 3 IntAt 1 w s.wd ∧ I64 s.sent ∧ I64 s.dice
  mp : ∃ D, w.ownsMap Try.prog 3 evR b nx.toNat D ∧ Rep D L
  num : NumOk L nx
/-- The blocks that a simulation turns. -/
def tch (g b : Nat) (S : Sl St) (k : Nat) : Prop := k = g ∨ k = b ∨ S.val.ownBlock = some k
section
variable {lo g b : Nat} {m : Mdl} {S : Sl St} {L : List NE} {nx hd : Int} {w w' : World}
theorem PSm.mat (h : PSm lo g b m S L nx hd w) : m.At w := by
  obtain ⟨h1, w0, h2⟩ := h.ms
  exact h1.at_ ⟨rfl, rfl, rfl, rfl, rfl, rfl⟩ h2
theorem PSm.ne (h : PSm lo g b m S L nx hd w) : g ≠ b := by
  obtain ⟨D, ⟨es, clock, hb, _⟩, _⟩ := h.mp
  have := h.box
  unfold Blk at this
  rintro rfl
  rw [hb] at this
  cases this
theorem PSm.notb (h : PSm lo g b m S L nx hd w) {k : Nat} {t : TypeId} {cs : Array Value} (hk : Blk w k t cs) : k ≠ b := by
  obtain ⟨D, ⟨es, clock, hb, _⟩, _⟩ := h.mp
  unfold Blk at hk
  rintro rfl
  rw [hb] at hk
  cases hk
theorem PSm.tlo (h : PSm lo g b m S L nx hd w) {k : Nat} (hk : tch g b S k) : lo ≤ k := by
  rcases hk with rfl | rfl | hk
  · exact h.ge
  · exact h.geb
  · exact h.st.base _ hk
theorem PSm.thi (h : PSm lo g b m S L nx hd w) {k : Nat} (hk : tch g b S k) : k < w.heap.size := by
  rcases hk with rfl | rfl | hk
  · exact h.box.lt
  · obtain ⟨D, hm, _⟩ := h.mp
    exact hm.lt
  · exact (World.ownsRow.lt h.st _ hk).2
/-- Blocks of other types are not turned. -/
theorem PSm.typ (h : PSm lo g b m S L nx hd w) {k : Nat} {t : TypeId} {cs : Array Value} (hk : Blk w k t cs) (h1 : t ≠ 136) (h2 : 61 ≠ t) : ¬ tch g b S k := by
  rintro (rfl | rfl | hk')
  · exact Blk.ne_ hk h.box h1 rfl
  · exact h.notb hk rfl
  · exact own_blk_ne h.st hk h2 hk'
theorem PSm.mty (h : PSm lo g b m S L nx hd w) {k : Nat} {t : TypeId} {cs : Array Value} (hk : Blk w k t cs) (ht : mtyp t) : ¬ tch g b S k :=
  h.typ hk (mtyp_ne ht (by decide) (by decide) (by decide) (by decide) (by decide) (by decide)) (Ne.symm (mtyp_ne ht (by decide) (by decide) (by decide) (by decide) (by decide) (by decide)))
/-- What else turns does not touch it. -/
theorem PSm.off {T : Nat → Prop} (h : PSm lo g b m S L nx hd w) (ho : Off T w w') (hT : ∀ k, tch g b S k → ¬ T k) (hi : ∀ k t cs, Blk w k t cs → mtyp t → ¬ T k) : PSm lo g b m S L nx hd w' := by
  refine ⟨⟨h.ms.1.off ho hi, h.ms.2⟩, h.ge, h.geb, ho.blk h.box (hT _ (.inl rfl)), ho.own h.st fun k hk => hT _ (.inr (.inr hk)), fun s hs => ⟨(h.wds s hs).1.off int_local ho fun k cs hk => hi k _ cs hk (.inl rfl), (h.wds s hs).2⟩, ?_, h.num⟩
  obtain ⟨D, h1, h2⟩ := h.mp
  exact ⟨D, ho.map h1 (hT _ (.inr (.inl rfl))), h2⟩
theorem PSm.below (h : PSm lo g b m S L nx hd w) (hb : Below w.heap.size w w') : PSm lo g b m S L nx hd w' :=
  h.off (T := fun _ => False) (Off.of_below hb) (fun _ _ => id) fun _ _ _ _ _ => id
/-- One more waits: into the map, and the next number. -/
theorem PSm.put1 (h : PSm lo g b m S L nx hd w) (e : Ev) (hn : nx ≤ 1000000000) : ∃ w2, (Instr.mapUpdate 134 (.map (some b)) (.int .i64 nx) (evV e)).run Try.prog w = .ok () w2 ∧ w2.cell? ⟨g, 8, none⟩ = some (.int .i64 nx) ∧ w2.frozen? ⟨g, 8, none⟩ = false ∧
    PSm lo g b m S (insN (nx, e) L) (nx + 1) hd (w2.setCell ⟨g, 8, none⟩ (.int .i64 (nx + 1))) ∧ Off (tch g b S) w (w2.setCell ⟨g, 8, none⟩ (.int .i64 (nx + 1))) := by
  have h0 := h.num.nx
  obtain ⟨D, hm, hR⟩ := h.mp
  obtain ⟨w2, hrun, hm2, ht⟩ := hm.store keyed9 Try.underlying134 (by unfold maxLen; omega) (key9 (n := nx) ⟨by omega, by omega⟩) (evR_mk e)
  have hg := ht.grown
  have hgb := h.ne
  have hbx := h.box.grown hg (by simpa using hgb)
  have ho : Off (tch g b S) w w2 := Off.of_grown hg fun k hk => .inr (.inl (Option.some.inj hk).symm)
  have ho2 := ho.setCell (p := ⟨g, 8, none⟩) (.inl (.inl rfl)) (.int .i64 (nx + 1))
  have hi : ∀ k t cs, Blk w k t cs → mtyp t → ¬ tch g b S k := fun k t cs hk ht => h.mty hk ht
  have hst : ∀ k, S.val.ownBlock = some k → ¬ (k = g ∨ k = b) := fun k hk hor => by
    obtain ⟨cur, hc⟩ := h.st.typ hk
    rcases hor with rfl | rfl
    · exact Blk.ne_ (t := 61) hc h.box (by decide) rfl
    · exact h.notb (t := 61) hc rfl
  have ho3 : Off (fun k => k = g ∨ k = b) w (w2.setCell ⟨g, 8, none⟩ (.int .i64 (nx + 1))) := (Off.of_grown hg fun k hk => .inr (Option.some.inj hk).symm).setCell (p := ⟨g, 8, none⟩) (.inl (.inl rfl)) _
  refine ⟨w2, hrun, hbx.cell 8, hbx.frozen 8, ⟨⟨h.ms.1.off ho2 hi, h.ms.2⟩, h.ge, h.geb, ?_, ho3.own h.st hst, fun s hs => ⟨(h.wds s hs).1.off int_local ho2 fun k cs hk => hi k _ cs hk (.inl rfl), (h.wds s hs).2⟩, ?_, h.num.ins e⟩, ho2⟩
  · have := hbx.set_ 8 (.int .i64 (nx + 1))
    simpa [simC] using this
  · refine ⟨_, ?_, (hR.put fun p hp => ?_).perm (insN_perm (nx, e) L).symm⟩
    · have : nx.toNat + 1 = (nx + 1).toNat := by omega
      rw [← this]
      exact hm2.setCell (by simp only; exact Ne.symm hgb) _
    · have := h.num.lo p hp
      omega
end
theorem insNs_snoc : ∀ (M : List Ev) (n : Int) (e : Ev) (L : List NE), insNs n (M ++ [e]) L = insN (n + M.length, e) (insNs n M L)
  | [], n, e, L => by simp [insNs]
  | x :: M, n, e, L => by
    rw [List.cons_append, insNs, insNs_snoc M, insNs, List.length_cons, show n + 1 + (M.length : Int) = n + ((M.length + 1 : Nat) : Int) by omega]
end Go.Proofs.Ytpfcmfannkbipaa
end

section
set_option linter.unusedVariables false
set_option linter.unusedSimpArgs false
set_option maxRecDepth 20000
namespace Go.Proofs.Ytpfcmfannkbipaa
open Go.RowKit Go.Deep Go.Maps

attribute [local go_sem] run_store_float
set_option maxHeartbeats 2000000 in
theorem put9p_any {lo g b : Nat} {m : Mdl} {S : Sl St} {L : List NE} {nx hd : Int} {w : World} (h : PSm lo g b m S L nx hd w) (q : Sl Ev) (hq : TRow 37 EvB 5 w q) (hn : nx + q.L.length ≤ 100000000) :
    Calls Try.prog 91 #[.pointer (some ⟨g, 0, none⟩), q.val] w fun e w' => e = .returned (.tuple #[]) ∧ PSm lo g b m S (insNs nx q.L L) (nx + q.L.length) hd w' ∧ Off (tch g b S) w w' := by
  obtain ⟨A, c, l⟩ := q
  have hc := hq.at_.2
  have hnx := h.num.nx
  simp only [Sl.val] at *
  have hl : l.length ≤ 9223372036854775807 := by omega
  go_enter Try.func91, Try.ntmps91
  go_wp2_with fail
  go_loopw [8] (fun i wr => ∃ k : Nat, k ≤ l.length ∧ i = .int .i64 k ∧ PSm lo g b m S (insNs nx (l.take k) L) (nx + (k : Int)) hd wr ∧ Off (tch g b S) w wr) (fun i _ => l.length - (intOf i).toNat)
  case atStart => exact ⟨0, Nat.zero_le _, rfl, by simpa [insNs] using h, Off.refl _ _⟩
  case round =>
    obtain ⟨k, hk, rfl, hP, hO⟩ := hrel
    by_cases hlt : k < l.length
    · have hx := List.getElem?_eq_getElem hlt
      have hqr := hq.off evb_local hO (fun k cs hk => h.typ hk (by decide) (by decide))
      obtain ⟨a, hA, g0, g1, g2, g3, g4⟩ := hqr.at_.1 k _ hx
      have hA2 : A = some a := hA
      clear hA
      subst hA2
      have HT := hide (List.take_succ_eq_append_getElem hlt)
      have kI : (k : Int) < (l.length : Int) := by omega
      have kJ : (0 : Int) ≤ (k : Int) := by omega
      generalize l[k] = x at *
      obtain ⟨xt, xs, xn, xd, xp⟩ := x
      simp only at g0 g1 g2 g3 g4
      have hb := ((Below.refl wr.heap.size wr).alloc (Nat.le_refl _) (.cells #[.float .f64 xt, .int .i64 xs, .int .i64 xn, .int .i64 xd, .int .i64 xp] 37)).drew
      have hB := (Blk.new wr 37 #[.float .f64 xt, .int .i64 xs, .int .i64 xn, .int .i64 xd, .int .i64 xp]).drew
      have hP1 := hP.below hb
      obtain ⟨w2, hrun, c8, f8, hP2, hO2⟩ := hP1.put1 (xt, xs, xn, xd, xp) (by omega)
      have hrun2 : (Instr.mapUpdate 134 (.map (some b)) (.int .i64 (nx + (k : Int))) (.agg #[.float .f64 xt, .int .i64 xs, .int .i64 xn, .int .i64 xd, .int .i64 xp])).run Try.prog _ = .ok () w2 := hrun
      have d7 := hP1.box.cell 7
      have d8 := hP1.box.cell 8
      simp only [simC, List.getElem?_toArray, List.getElem?_cons_zero, List.getElem?_cons_succ] at d7 d8
      have e0 := hB.cell 0
      have e1 := hB.cell 1
      have e2 := hB.cell 2
      have e3 := hB.cell 3
      have e4 := hB.cell 4
      simp only [List.getElem?_toArray, List.getElem?_cons_zero, List.getElem?_cons_succ] at e0 e1 e2 e3 e4
      have HP := hide (show PSm lo g b m S (insNs nx (l.take (k + 1)) L) (nx + ((k + 1 : Nat) : Int)) hd (w2.setCell ⟨g, 8, none⟩ (.int .i64 (nx + (k : Int) + 1))) by
        rw [HT.out, insNs_snoc, List.length_take, Nat.min_eq_left hk, show nx + ((k + 1 : Nat) : Int) = nx + (k : Int) + 1 by omega]
        exact hP2)
      have HO := hide ((hO.after hb).trans hO2)
      clear hP hO hP1 hP2 hO2 hrun hqr hx hB hq h
      generalize hW : World.drew (wr.alloc (.cells #[.float .f64 xt, .int .i64 xs, .int .i64 xn, .int .i64 xd, .int .i64 xp] 37)) = w5 at *
      have HW := hide hW
      clear hW hb
      go_upto_region 3 with fail
      refine wp_region_still_tail 9 (by kernel_rfl) (by kernel_rfl) ?_
      change wpStill _ _ (World.drew (wr.alloc (.cells #[.float .f64 xt, .int .i64 xs, .int .i64 xn, .int .i64 xd, .int .i64 xp] 37))) _ _ _
      change wpStill _ _ _ (fun a' => wpList Try.prog _ _ _ a' (World.drew (wr.alloc (.cells #[.float .f64 xt, .int .i64 xs, .int .i64 xn, .int .i64 xd, .int .i64 xp] 37)))) _ _
      rw [HW.out]
      clear HW g0 g1 g2 g3 g4
      simp only [List.take_succ_cons, List.take_zero, List.drop_succ_cons, List.drop_zero]
      repeat still_step
      refine wpStill_nil ?_
      go_wp2_with fail
      go_roundw
      case rel => exact ⟨k + 1, by omega, by go_num, HP.out, HO.out⟩
      case measure => simp [intOf]; omega
    · obtain rfl : k = l.length := by omega
      rw [List.take_length] at hP
      have HP := hide hP
      have HO := hide hO
      clear hP hO hq h
      go_wp2_with fail
      exact bodyPost_end (results_none rfl _ _ _) rfl ⟨rfl, HP.out, HO.out⟩
end Go.Proofs.Ytpfcmfannkbipaa
end

section
set_option linter.unusedVariables false
set_option linter.unusedSimpArgs false
set_option maxRecDepth 20000
namespace Go.Proofs.Ytpfcmfannkbipaa
open Go.RowKit Go.Deep Go.Maps

attribute [local go_sem] run_store_float
def evC9 (e : Ev) : Array Value := #[.float .f64 e.1, .int .i64 e.2.1, .int .i64 e.2.2.1, .int .i64 e.2.2.2.1, .int .i64 e.2.2.2.2]
/-- The two boxes behind a look. -/
def LookTo (w : World) (gf gb : Nat) (n : Int) (e : Ev) (b : Int) (f : Ev) (x : Ending) (w' : World) : Prop :=
  x = .returned (.tuple #[]) ∧ Off (fun k => k = gf ∨ k = gb) w w' ∧ ((takesIt n e b f ∧ Blk w' gf 37 (evC9 e) ∧ Blk w' gb 3 #[.int .i64 n]) ∨ (¬ takesIt n e b f ∧ Blk w' gf 37 (evC9 f) ∧ Blk w' gb 3 #[.int .i64 b]))
theorem off_set5 {w wr : World} {gf gb : Nat} (h : Off (fun k => k = gf ∨ k = gb) w wr) (a b c d e x : Value) : Off (fun k => k = gf ∨ k = gb) w ((((((wr.setCell ⟨gb, 0, none⟩ x).setCell ⟨gf, 0, none⟩ a).setCell ⟨gf, 1, none⟩ b).setCell ⟨gf, 2, none⟩ c).setCell ⟨gf, 3, none⟩ d).setCell ⟨gf, 4, none⟩ e) :=
  (((((h.setCell (.inl (.inr rfl)) _).setCell (.inl (.inl rfl)) _).setCell (.inl (.inl rfl)) _).setCell (.inl (.inl rfl)) _).setCell (.inl (.inl rfl)) _).setCell (.inl (.inl rfl)) _
theorem look_end {w wr : World} {gf gb : Nat} {n b : Int} {e f : Ev} (ho : Off (fun k => k = gf ∨ k = gb) w wr) (hF : Blk wr gf 37 (evC9 f)) (hB : Blk wr gb 3 #[.int .i64 b]) (ht : takesIt n e b f) :
    LookTo w gf gb n e b f (.returned (.tuple #[])) ((((((wr.setCell ⟨gb, 0, none⟩ (.int .i64 n)).setCell ⟨gf, 0, none⟩ (.float .f64 e.1)).setCell ⟨gf, 1, none⟩ (.int .i64 e.2.1)).setCell ⟨gf, 2, none⟩ (.int .i64 e.2.2.1)).setCell ⟨gf, 3, none⟩ (.int .i64 e.2.2.2.1)).setCell ⟨gf, 4, none⟩ (.int .i64 e.2.2.2.2)) := by
  have hne : gb ≠ gf := Blk.ne_ hB hF (by decide)
  refine ⟨rfl, off_set5 ho _ _ _ _ _ _, .inl ⟨ht, ?_, ?_⟩⟩
  · have := (((((hF.far (p := ⟨gb, 0, none⟩) (Ne.symm hne) (.int .i64 n)).set_ 0 (.float .f64 e.1)).set_ 1 (.int .i64 e.2.1)).set_ 2 (.int .i64 e.2.2.1)).set_ 3 (.int .i64 e.2.2.2.1)).set_ 4 (.int .i64 e.2.2.2.2)
    simpa [evC9] using this
  · have := (((((hB.set_ 0 (.int .i64 n)).far (p := ⟨gf, 0, none⟩) hne (.float .f64 e.1)).far (p := ⟨gf, 1, none⟩) hne (.int .i64 e.2.1)).far (p := ⟨gf, 2, none⟩) hne (.int .i64 e.2.2.1)).far (p := ⟨gf, 3, none⟩) hne (.int .i64 e.2.2.2.1)).far (p := ⟨gf, 4, none⟩) hne (.int .i64 e.2.2.2.2)
    simpa using this
theorem LookTo.drew {w wr : World} {gf gb : Nat} {n b : Int} {e f : Ev} {x : Ending} (h : LookTo w gf gb n e b f x wr) : LookTo w gf gb n e b f x wr.drew := ⟨h.1, h.2.1.drew, h.2.2⟩
set_option maxHeartbeats 4000000 in
theorem look9_any (w : World) (gf gb : Nat) (n b : Int) (e f : Ev) (hF : Blk w gf 37 (evC9 f)) (hB : Blk w gb 3 #[.int .i64 b]) :
    Calls Try.prog 112 #[.int .i64 n, .agg #[.float .f64 e.1, .int .i64 e.2.1, .int .i64 e.2.2.1, .int .i64 e.2.2.2.1, .int .i64 e.2.2.2.2], .pointer (some ⟨gf, 0, none⟩), .pointer (some ⟨gb, 0, none⟩)] w (LookTo w gf gb n e b f) := by
  obtain ⟨et, es, en, ed, ep⟩ := e
  obtain ⟨ft, fs, fn, fd, fp⟩ := f
  have hb := (Below.refl w.heap.size w).alloc (Nat.le_refl _) (.cells #[.float .f64 et, .int .i64 es, .int .i64 en, .int .i64 ed, .int .i64 ep] 37)
  have hE := Blk.new w 37 #[.float .f64 et, .int .i64 es, .int .i64 en, .int .i64 ed, .int .i64 ep]
  have hF1 := hF.below hb hF.lt
  have hB1 := hB.below hb hB.lt
  have hc : ∀ W, Calls Try.prog 54 #[.agg #[.float .f64 et, .int .i64 es, .int .i64 en, .int .i64 ed, .int .i64 ep], .agg #[.float .f64 ft, .int .i64 fs, .int .i64 fn, .int .i64 fd, .int .i64 fp]] W fun e w' => e = .returned (.int .i64 (cmpE (et, es, en, ed, ep) (ft, fs, fn, fd, fp))) ∧ Below W.heap.size W w' := fun W => actcmp_any _ _ _ _ _ _ _ _ _ _ W
  have HT := hide (show ∀ wr : World, Off (fun k => k = gf ∨ k = gb) w wr → Blk wr gf 37 (evC9 (ft, fs, fn, fd, fp)) → Blk wr gb 3 #[.int .i64 b] → takesIt n (et, es, en, ed, ep) b (ft, fs, fn, fd, fp) → LookTo w gf gb n (et, es, en, ed, ep) b (ft, fs, fn, fd, fp) (.returned (.tuple #[])) (World.drew ((((((wr.setCell ⟨gb, 0, none⟩ (.int .i64 n)).setCell ⟨gf, 0, none⟩ (.float .f64 et)).setCell ⟨gf, 1, none⟩ (.int .i64 es)).setCell ⟨gf, 2, none⟩ (.int .i64 en)).setCell ⟨gf, 3, none⟩ (.int .i64 ed)).setCell ⟨gf, 4, none⟩ (.int .i64 ep))) from
    fun wr ho h1 h2 h3 => (look_end ho h1 h2 h3).drew)
  have HN := hide (show ∀ wr : World, Off (fun k => k = gf ∨ k = gb) w wr → Blk wr gf 37 (evC9 (ft, fs, fn, fd, fp)) → Blk wr gb 3 #[.int .i64 b] → ¬ takesIt n (et, es, en, ed, ep) b (ft, fs, fn, fd, fp) → LookTo w gf gb n (et, es, en, ed, ep) b (ft, fs, fn, fd, fp) (.returned (.tuple #[])) wr from
    fun wr ho h1 h2 h3 => ⟨rfl, ho, .inr ⟨h3, h1, h2⟩⟩)
  unfold takesIt at HT HN
  generalize LookTo w gf gb n (et, es, en, ed, ep) b (ft, fs, fn, fd, fp) = Post at *
  generalize cmpE (et, es, en, ed, ep) (ft, fs, fn, fd, fp) = C at *
  have HO := hide (Off.of_below (T := fun k => k = gf ∨ k = gb) hb)
  have HF1 := hide hF1
  have HB1 := hide hB1
  have HE := hide hE
  unfold evC9 at hF1
  have f0 := hF1.cell 0
  have f1 := hF1.cell 1
  have f2 := hF1.cell 2
  have f3 := hF1.cell 3
  have f4 := hF1.cell 4
  simp only [List.getElem?_toArray, List.getElem?_cons_zero, List.getElem?_cons_succ] at f0 f1 f2 f3 f4
  have b0 := hB1.cell 0
  simp only [List.getElem?_toArray, List.getElem?_cons_zero, List.getElem?_cons_succ] at b0
  have e0 := hE.cell 0
  have e1 := hE.cell 1
  have e2 := hE.cell 2
  have e3 := hE.cell 3
  have e4 := hE.cell 4
  simp only [List.getElem?_toArray, List.getElem?_cons_zero, List.getElem?_cons_succ] at e0 e1 e2 e3 e4
  clear hb hF1 hB1 hE hF hB
  go_enter Try.func112, Try.ntmps112
  go_upto_region 1 with fail
  generalize World.alloc w _ = w1 at *
  generalize w.heap.size = ge at *
  go_wp2_with fail
  refine (hc _).mono ?_
  rintro x w2 ⟨rfl, hb2⟩
  have HO2 := hide (HO.out.after hb2)
  have HF2 := hide (HF1.out.below hb2 HF1.out.lt)
  have HB2 := hide (HB1.out.below hb2 HB1.out.lt)
  have HE2 := hide (HE.out.below hb2 HE.out.lt)
  have b0 := HB2.out.cell 0
  simp only [List.getElem?_toArray, List.getElem?_cons_zero] at b0
  clear f0 f1 f2 f3 f4 e0 e1 e2 e3 e4 hb2 HO HF1 HB1 HE hc
  rcases (show (b < 0 ∨ (¬ b < 0 ∧ C < 0) ∨ (¬ b < 0 ∧ C = 0 ∧ n < b)) ∨ (¬ b < 0 ∧ C = 0 ∧ ¬ n < b) ∨ (¬ b < 0 ∧ 0 < C) from by omega) with hyes | hno
  · have HT2 := hide (fun wr h1 h2 h3 => HT.out wr h1 h2 h3 (by omega))
    clear HT HN
    rcases hyes with h1 | ⟨h1, h2⟩ | ⟨h1, rfl, h2⟩
    all_goals
      go_upto_region 3 with fail
      have hE3 := HE2.out
      have hF3 := HF2.out
      have hB3 := HB2.out
      have f0 := hF3.frozen 0
      have f1 := hF3.frozen 1
      have f2 := hF3.frozen 2
      have f3 := hF3.frozen 3
      have f4 := hF3.frozen 4
      have fb := hB3.frozen 0
      have cb := hB3.cell 0
      have hne : gb ≠ gf := Blk.ne_ hB3 hF3 (by decide)
      have hF4 := hF3.far (p := ⟨gb, 0, none⟩) (Ne.symm hne) (.int .i64 n)
      have y0 := hF4.frozen 0
      have y1 := hF4.frozen 1
      have y2 := hF4.frozen 2
      have y3 := hF4.frozen 3
      have y4 := hF4.frozen 4
      simp only [List.getElem?_toArray, List.getElem?_cons_zero] at cb
      have hE4 := hE3.far (p := ⟨gb, 0, none⟩) (Blk.ne_ hE3 hB3 (by decide)) (.int .i64 n)
      unfold evC9 at hF4
      have z0 := hE4.cell 0
      have z1 := hE4.cell 1
      have z2 := hE4.cell 2
      have z3 := hE4.cell 3
      have z4 := hE4.cell 4
      simp only [List.getElem?_toArray, List.getElem?_cons_zero, List.getElem?_cons_succ] at z0 z1 z2 z3 z4
      have x0 := hF4.cell 0
      have x1 := hF4.cell 1
      have x2 := hF4.cell 2
      have x3 := hF4.cell 3
      have x4 := hF4.cell 4
      simp only [List.getElem?_toArray, List.getElem?_cons_zero, List.getElem?_cons_succ] at x0 x1 x2 x3 x4
      have e0 := hE3.cell 0
      have e1 := hE3.cell 1
      have e2 := hE3.cell 2
      have e3 := hE3.cell 3
      have e4 := hE3.cell 4
      simp only [List.getElem?_toArray, List.getElem?_cons_zero, List.getElem?_cons_succ] at e0 e1 e2 e3 e4
      have HEND := hide (HT2.out _ HO2.out HF2.out HB2.out)
      clear hE3 hF3 hB3 hF4 hE4 HO2 HF2 HB2 HE2 HT2
      go_region
      all_goals (try go_wp2_with fail)
      all_goals (refine bodyPost_end (results_none rfl _ _ _) rfl ?_; with_reducible exact HEND.out)
  · have HEND := hide (HN.out _ HO2.out HF2.out HB2.out (by omega))
    clear HT HN HO2 HF2 HB2 HE2
    rcases hno with ⟨h1, rfl, h2⟩ | ⟨h1, h2⟩
    all_goals
      go_wp2_with fail
      exact bodyPost_end (results_none rfl _ _ _) rfl HEND.out
/-- The map's next entry: a number and an event. -/
theorem wpList_next9 {ops : Array Oper} {rest : List Oper} {o : Oper} {a : Act} {Q : Exit → Act → World → Prop} (w : World) (hg : o.guard = none) (it : Operand) (hop : o.op = Op.next it false) (b r n : Nat) (D : DataW Unit) (left : Lit → Bool) (cnt : Nat) (hit : a.eval it = .pointer (some ⟨r, 0, none⟩)) (h : w.ranges Try.prog 3 evR b r n D left cnt)
    (hDone : cnt = 0 → (∀ kl, left kl = false) → wpList Try.prog ops Q rest (a.put o.dst (.tuple #[.bool false])) w)
    (hMore : ∀ (x : Int) (e : Ev) (w' : World) (cnt' : Nat), left (kI x) = true → (∀ zd, D.atKey (kI x) zd = evD e) → w'.ranges Try.prog 3 evR b r n D (fun z => left z && !z.sameKey (kI x)) cnt' → cnt' < cnt → w.grownBy w' (some r) → w'.heap.size = w.heap.size →
      (Instr.entry (.pointer (some ⟨r, 0, none⟩))).run Try.prog w' = .ok (.tuple #[.int .i64 x, .agg #[.float .f64 e.1, .int .i64 e.2.1, .int .i64 e.2.2.1, .int .i64 e.2.2.2.1, .int .i64 e.2.2.2.2]]) w' → wpList Try.prog ops Q rest (a.put o.dst (.tuple #[.bool true, .int .i64 x, .agg #[.float .f64 e.1, .int .i64 e.2.1, .int .i64 e.2.2.1, .int .i64 e.2.2.2.1, .int .i64 e.2.2.2.2]])) w') :
    wpList Try.prog ops Q (o :: rest) a w :=
  wpList_next_ranges w hg it hop 3 keyed9 evR (Value.int .i64) evV (fun key kl hkey => by obtain ⟨x, rfl, _⟩ := Maps.keyOf_int_inv Try.underlying3 hkey; exact ⟨x, rfl⟩) (fun v y hv => by obtain ⟨e, rfl, _⟩ := evR_inv hv; exact ⟨e, rfl⟩)
    b r n D left cnt hit h hDone (fun x c kl y w' cnt' hkey hlk hv hat hrg hlt hgr hsz hen => by
      obtain ⟨x', ex, rfl, hwx⟩ := Maps.keyOf_int_inv Try.underlying3 hkey
      cases ex
      rw [evR_mk] at hv
      obtain rfl := Option.some.inj hv
      exact hMore x c w' cnt' hlk hat hrg hlt hgr hsz hen)
end Go.Proofs.Ytpfcmfannkbipaa
end

section
set_option linter.unusedVariables false
set_option linter.unusedSimpArgs false
set_option maxRecDepth 20000
namespace Go.Proofs.Ytpfcmfannkbipaa
open Go.RowKit Go.Deep Go.Maps

attribute [local go_sem] run_store_float
theorem box3p (w : World) (c0 c1 c2 : Array Value) (t0 t1 t2 : TypeId) : Below w.heap.size w (((w.alloc (.cells c0 t0)).alloc (.cells c1 t1)).alloc (.cells c2 t2)) ∧ Blk (((w.alloc (.cells c0 t0)).alloc (.cells c1 t1)).alloc (.cells c2 t2)) w.heap.size t0 c0 ∧
    Blk (((w.alloc (.cells c0 t0)).alloc (.cells c1 t1)).alloc (.cells c2 t2)) (w.heap.size + 1) t1 c1 ∧ Blk (((w.alloc (.cells c0 t0)).alloc (.cells c1 t1)).alloc (.cells c2 t2)) (w.heap.size + 1 + 1) t2 c2 := by
  have s1 : (w.alloc (.cells c0 t0)).heap.size = w.heap.size + 1 := Array.size_push ..
  have s2 : ((w.alloc (.cells c0 t0)).alloc (.cells c1 t1)).heap.size = w.heap.size + 1 + 1 := by rw [← s1]; exact Array.size_push ..
  refine ⟨(((Below.refl _ _).alloc (Nat.le_refl _) _).alloc (by omega) _).alloc (by omega) _, ((Blk.new w t0 c0).alloc _).alloc _, ?_, ?_⟩
  · have := (Blk.new (w.alloc (.cells c0 t0)) t1 c1).alloc (.cells c2 t2)
    rwa [s1] at this
  · have := Blk.new ((w.alloc (.cells c0 t0)).alloc (.cells c1 t1)) t2 c2
    rwa [s2] at this
/-- All have come. -/
theorem rep_take {D : DataW Unit} {L : List NE} {nx bb : Int} {f : Ev} {left : Lit → Bool} (hR : Rep D L) (hN : NumOk L nx) (hB : BestOf L left bb f) (hl : ∀ z, left z = false) :
    ((L = [] ∧ bb = -1 ∧ f = (0, 0, 0, 0, 0)) ∨ ∃ p r, L = p :: r ∧ bb = p.1 ∧ f = p.2) ∧ Rep (D.del (kI bb)) L.tail ∧ NumOk L.tail nx ∧ -1 ≤ bb ∧ bb ≤ nx := by
  have hnx := hN.nx
  cases L with
  | nil =>
    obtain ⟨rfl, rfl⟩ := best_none hB
    refine ⟨.inl ⟨rfl, rfl, rfl⟩, ?_, hN, by omega, by omega⟩
    rw [hR.del_none (fun p hp => by cases hp)]
    exact hR
  | cons p r =>
    obtain ⟨rfl, rfl⟩ := best_end hB hl (fun q hq => List.rel_of_pairwise_cons hN.sort hq) hN.nd
    have := hN.lo p (by simp)
    exact ⟨.inr ⟨p, r, rfl, rfl, rfl⟩, hR.del, hN.tail, by omega, by omega⟩
/-- What take hands back. -/
def TakeTo (w : World) (lo g b : Nat) (m : Mdl) (S : Sl St) (L : List NE) (nx hd : Int) (x : Ending) (w' : World) : Prop :=
  ∃ bb f, ((L = [] ∧ bb = -1 ∧ f = (0, 0, 0, 0, 0)) ∨ ∃ p r, L = p :: r ∧ bb = p.1 ∧ f = p.2) ∧ x = .returned (.tuple #[.agg (evC9 f), .bool (decide (0 ≤ bb))]) ∧ PSm lo g b m S L.tail nx hd w' ∧ Off (tch g b S) w w'
theorem PSm.take1 {lo g b : Nat} {m : Mdl} {S : Sl St} {L M : List NE} {nx hd : Int} {w w' : World} {D : DataW Unit} (h : PSm lo g b m S L nx hd w) (hg : w.grownBy w' (some b)) (hm : w'.ownsMap Try.prog 3 evR b nx.toNat D) (hR : Rep D M) (hN : NumOk M nx) : PSm lo g b m S M nx hd w' := by
  have ho : Off (fun k => k = b) w w' := Off.of_grown hg fun k e => (Option.some.inj e).symm
  have hint : ∀ k t cs, Blk w k t cs → mtyp t → ¬ k = b := fun k t cs hk _ => h.notb hk
  refine ⟨⟨h.ms.1.off ho hint, h.ms.2⟩, h.ge, h.geb, ho.blk h.box h.ne, ho.own h.st fun k hk => ?_, fun s hs => ⟨(h.wds s hs).1.off int_local ho fun k cs hk => hint k _ cs hk (.inl rfl), (h.wds s hs).2⟩, ⟨D, hm, hR⟩, hN⟩
  obtain ⟨cur, hc⟩ := h.st.typ hk
  exact h.notb (t := 61) hc
structure TkR (w : World) (b r n : Nat) (nx : Int) (L : List NE) (D : DataW Unit) (left : Lit → Bool) (cnt : Nat) (bb : Int) (f : Ev) (wr : World) : Prop where
  rg : wr.ranges Try.prog 3 evR b r nx.toNat D left cnt
  sub : ∀ kl, left kl = true → has D kl = true
  best : BestOf L left bb f
  bx : Blk wr n 37 (evC9 (0, 0, 0, 0, 0))
  bi : Blk wr (n + 1) 3 #[.int .i64 bb]
  bf : Blk wr (n + 1 + 1) 37 (evC9 f)
  bel : Below w.heap.size w wr
theorem ranges_off {w w' : World} {b r n : Nat} {D : DataW Unit} {left : Lit → Bool} {cnt : Nat} (h : w.ranges Try.prog 3 evR b r n D left cnt) (hb : w'.heap[b]? = w.heap[b]?) (hr : w'.heap[r]? = w.heap[r]?) : w'.ranges Try.prog 3 evR b r n D left cnt := by
  obtain ⟨es, clock, since, seen, c0, h1, F, hs, hD, h2, rest⟩ := h
  exact ⟨es, clock, since, seen, c0, hb.trans h1, F, hs, hD, hr.trans h2, rest⟩
/-- A box for an event that is the call's own is written. -/
theorem PSm.ownbox {lo g b : Nat} {m : Mdl} {S : Sl St} {L : List NE} {nx hd : Int} {w w' : World} {n : Nat} {cs : Array Value} (h : PSm lo g b m S L nx hd w) (hX : Blk w n 37 cs) (hlo : lo ≤ n) (ho : Off (fun k => k = n) w w') : PSm lo g b m S L nx hd w' :=
  h.off ho (fun k hk e => h.typ hX (by decide) (by decide) (e ▸ hk)) fun k t cs' hk ht e => Blk.ne_ hk hX (mtyp_ne ht (by decide) (by decide) (by decide) (by decide) (by decide) (by decide)) e
theorem off_set5e {w wr : World} {n : Nat} {T : Nat → Prop} (h : Off T w wr) (hn : T n ∨ w.heap.size ≤ n) (a b c d e : Value) : Off T w (((((wr.setCell ⟨n, 0, none⟩ a).setCell ⟨n, 1, none⟩ b).setCell ⟨n, 2, none⟩ c).setCell ⟨n, 3, none⟩ d).setCell ⟨n, 4, none⟩ e) :=
  ((((h.setCell (p := ⟨n, 0, none⟩) hn _).setCell (p := ⟨n, 1, none⟩) hn _).setCell (p := ⟨n, 2, none⟩) hn _).setCell (p := ⟨n, 3, none⟩) hn _).setCell (p := ⟨n, 4, none⟩) hn _
set_option maxHeartbeats 8000000 in
theorem take9_any {lo g b : Nat} {m : Mdl} {S : Sl St} {L : List NE} {nx hd : Int} {w : World} (h : PSm lo g b m S L nx hd w) (hnx : nx ≤ 1000000000) : Calls Try.prog 92 #[.pointer (some ⟨g, 0, none⟩)] w (TakeTo w lo g b m S L nx hd) := by
  have HN := hide h.num
  have h0 := h.num.nx
  have hbw : b < w.heap.size := h.thi (.inr (.inl rfl))
  obtain ⟨hb3, hX, hI, hF⟩ := box3p w (evC9 (0, 0, 0, 0, 0)) #[.int .i64 (-1)] (evC9 (0, 0, 0, 0, 0)) 37 3 37
  have hP1 := h.below hb3
  have HP := hide (fun wr (hb : Below w.heap.size w wr) => h.below hb)
  have HEND := hide (fun bb f (hc : (L = [] ∧ bb = -1 ∧ f = (0, 0, 0, 0, 0)) ∨ ∃ p r, L = p :: r ∧ bb = p.1 ∧ f = p.2) W (hP : PSm lo g b m S L.tail nx hd W) (hO : Off (tch g b S) w W) => (show TakeTo w lo g b m S L nx hd (.returned (.tuple #[.agg (evC9 f), .bool (decide (0 ≤ bb))])) W from ⟨bb, f, hc, rfl, hP, hO⟩))
  generalize TakeTo w lo g b m S L nx hd = Post at *
  clear h
  go_enter Try.func92, Try.ntmps92
  go_upto_region 3 with fail
  change Code.wp _ _ _ _ (World.alloc (World.alloc (World.alloc w (.cells (evC9 (0, 0, 0, 0, 0)) 37)) (.cells #[.int .i64 (-1)] 3)) (.cells (evC9 (0, 0, 0, 0, 0)) 37))
  generalize (World.alloc (World.alloc (World.alloc w _) _) _) = w1 at *
  obtain ⟨D, hm1, hR⟩ := hP1.mp
  have b7 := hP1.box.cell 7
  simp only [simC, List.getElem?_toArray, List.getElem?_cons_zero, List.getElem?_cons_succ] at b7
  have HR := hide hR
  have HX := hide hX
  have HI := hide hI
  have HF := hide hF
  have HB3 := hide hb3
  have hs1 := hF.lt
  clear hR hX hI hF hb3 hP1
  go_wp2_with (first
    | (at_range; refine wpList_range_own _ rfl _ 134 rfl 3 37 keyed9 Try.underlying134 _ b _ _ rfl hm1 ?_; intro w0 hrg0 hg0 hs0)
    | go_in)
  go_frame
  have HS := hide (show TkR w b w1.heap.size w.heap.size nx L D (has D) (size D) (-1) (0, 0, 0, 0, 0) w0 from ⟨hrg0, fun _ h => h, best_start HR.out, HX.out.grown hg0 (by simp), HI.out.grown hg0 (by simp), HF.out.grown hg0 (by simp), HB3.out.grown hg0 HB3.out.size (fun j hj => by cases hj)⟩)
  clear hrg0 hg0 hs0 hm1 b7 HX HI HF HB3
  go_loopw [] (fun wr => ∃ left cnt bb f, TkR w b w1.heap.size w.heap.size nx L D left cnt bb f wr) (fun wr => wr.rangeLeft b w1.heap.size)
  case atStart => exact ⟨_, _, _, _, HS.out⟩
  case round =>
    clear HS
    obtain ⟨left, cnt, bb, f, hT⟩ := hrel
    have HT := hide hT
    have hrg := hT.rg
    clear hT
    go_wp2_with (first
      | (at_next; refine wpList_next9 _ rfl _ rfl b w1.heap.size _ _ _ _ rfl hrg ?_ ?_)
      | go_in)
    · intro hc0 hl0
      obtain ⟨hcase, hRt, hNt, hlo, hhi⟩ := rep_take HR.out HN.out HT.out.best hl0
      have hd : Below wr.heap.size wr wr.drew := (Below.refl _ _).drew
      have hmd : wr.drew.ownsMap Try.prog 3 evR b nx.toNat D := HT.out.rg.owns
      have HPW := hide ((HP.out wr HT.out.bel).below hd)
      have HX := hide HT.out.bx.drew
      have HI := hide HT.out.bi.drew
      have HF := hide HT.out.bf.drew
      have HB := hide (below_after HT.out.bel hd)
      have HEN := hide (HEND.out bb f hcase)
      have HRT := hide hRt
      have HNT := hide hNt
      have hkey := key9 (n := bb) ⟨by omega, by omega⟩
      clear hcase hRt hNt hd hrg HT HEND HP HR HN hc0 hl0
      obtain ⟨ft, fs, fn, fd, fp⟩ := f
      go_upto_region 7 with fail
      refine wp_region_still_tail 5 (by kernel_rfl) (by kernel_rfl) ?_
      change wpStill _ _ (World.drew wr) _ _ _
      change wpStill _ _ _ (fun a' => wpList Try.prog _ _ _ a' (World.drew wr)) _ _
      generalize World.drew wr = wd at *
      have b7 := HPW.out.box.cell 7
      have bi0 := HI.out.cell 0
      simp only [simC, List.getElem?_toArray, List.getElem?_cons_zero, List.getElem?_cons_succ] at b7 bi0
      simp only [List.take_succ_cons, List.take_zero, List.drop_succ_cons, List.drop_zero]
      repeat still_step
      refine wpStill_nil ?_
      clear b7 bi0
      go_upto_region 8 with (at_delete; refine wpList_delete_own _ rfl _ _ 134 3 rfl 37 keyed9 Try.underlying134 _ b nx.toNat D rfl hmd _ _ rfl hkey ?_; intro w3 hm3 ht3)
      have hg3 := ht3.grown
      have HP3 := hide (HPW.out.take1 hg3 hm3 HRT.out HNT.out)
      have HO3 := hide (show Off (tch g b S) w w3 from (Off.of_below (T := tch g b S) HB.out).trans (Off.of_grown hg3 fun k e => .inr (.inl (Option.some.inj e).symm)))
      have hX3 := HX.out.grown hg3 (by simp; omega)
      have hI3 := HI.out.grown hg3 (by simp; omega)
      have hF3 := HF.out.grown hg3 (by simp; omega)
      clear hg3 hm3 ht3 hmd HPW HRT HNT HX HI HF HB
      have hlo3 : lo ≤ w.heap.size := by have := HP3.out.geb; omega
      have HFIN := hide (fun a0 a1 a2 a3 a4 => HEN.out _ (HP3.out.ownbox hX3 hlo3 (off_set5e (T := fun k => k = w.heap.size) (n := w.heap.size) (Off.refl _ w3) (.inl rfl) a0 a1 a2 a3 a4).drew) (off_set5e (n := w.heap.size) HO3.out (.inr (Nat.le_refl _)) a0 a1 a2 a3 a4).drew)
      clear HP3 HO3 HEN
      have fx0 := hX3.frozen 0
      have fx1 := hX3.frozen 1
      have fx2 := hX3.frozen 2
      have fx3 := hX3.frozen 3
      have fx4 := hX3.frozen 4
      unfold evC9 at hX3 hF3
      have x0 := hX3.cell 0
      have x1 := hX3.cell 1
      have x2 := hX3.cell 2
      have x3 := hX3.cell 3
      have x4 := hX3.cell 4
      simp only [List.getElem?_toArray, List.getElem?_cons_zero, List.getElem?_cons_succ] at x0 x1 x2 x3 x4
      have f0 := hF3.cell 0
      have f1 := hF3.cell 1
      have f2 := hF3.cell 2
      have f3 := hF3.cell 3
      have f4 := hF3.cell 4
      simp only [List.getElem?_toArray, List.getElem?_cons_zero, List.getElem?_cons_succ] at f0 f1 f2 f3 f4
      have i0 := hI3.cell 0
      simp only [List.getElem?_toArray, List.getElem?_cons_zero, List.getElem?_cons_succ] at i0
      clear hX3 hF3 hI3
      go_region
      all_goals (try go_wp2_with fail)
      all_goals (refine bodyPost_ret (v := .tuple #[.agg (evC9 (ft, fs, fn, fd, fp)), .bool (decide (0 ≤ bb))]) (by simp [results, Try.results92, go_sem, evC9, x0, x1, x2, x3, x4]) rfl ?_; with_reducible exact HFIN.out _ _ _ _ _)
    · intro x et es en ed ep w2 cnt2 hlx hat hrg2 hlt hg2 hs2 hen
      have hmem := HR.out.entry (n := x) (e := (et, es, en, ed, ep)) (HT.out.sub _ hlx) hat
      have hbs := best_step (fun p hp => (HN.out.lo p hp).1) HN.out.nd hmem HT.out.best
      have hX2 := HT.out.bx.grown hg2 (by simp; omega)
      have hI2 := HT.out.bi.grown hg2 (by simp; omega)
      have hF2 := HT.out.bf.grown hg2 (by simp; omega)
      have hb2 := HT.out.bel.grown hg2 HT.out.bel.size (fun j hj => by cases hj; omega)
      have hb3 := (Below.refl w2.heap.size w2).alloc (Nat.le_refl _) (.cells #[.float .f64 et, .int .i64 es, .int .i64 en, .int .i64 ed, .int .i64 ep] 37)
      have hB3 := Blk.new w2 37 #[.float .f64 et, .int .i64 es, .int .i64 en, .int .i64 ed, .int .i64 ep]
      have HLK := hide (look9_any _ (w.heap.size + 1 + 1) (w.heap.size + 1) x bb (et, es, en, ed, ep) f (hF2.below hb3 hF2.lt) (hI2.below hb3 hI2.lt))
      have HLE := hide HT.out.rg.left_eq
      have HR2 := hide hrg2
      have HBS := hide hbs
      have HSB := hide (fun kl (h : (left kl && !kl.sameKey (kI x)) = true) => HT.out.sub kl (by cases h1 : left kl <;> simp_all))
      have HX3 := hide (hX2.below hb3 hX2.lt)
      have HB3 := hide (below_after hb2 hb3)
      have hsz := hb2.size
      have hrl := hrg2.lt
      have HBW := hide (fun (k : Nat) (hk : k < w2.heap.size) => hb3.block k hk)
      have hsz3 := hb3.size
      have e0 := hB3.cell 0
      have e1 := hB3.cell 1
      have e2 := hB3.cell 2
      have e3 := hB3.cell 3
      have e4 := hB3.cell 4
      simp only [List.getElem?_toArray, List.getElem?_cons_zero, List.getElem?_cons_succ] at e0 e1 e2 e3 e4
      clear hmem hbs hX2 hI2 hF2 hb2 hb3 hB3 HT hrg hrg2 hlx hat
      go_wp2_with fail
      refine HLK.out.mono ?_
      rintro y w4 ⟨rfl, ho4, hway⟩
      have HOT := hide (show ∃ bb' f', BestOf L (fun z => left z && !z.sameKey (kI x)) bb' f' ∧ Blk w4 (w.heap.size + 1) 3 #[.int .i64 bb'] ∧ Blk w4 (w.heap.size + 1 + 1) 37 (evC9 f') from by
        rcases hway with ⟨h1, h2, h3⟩ | ⟨h1, h2, h3⟩
        · exact ⟨_, _, HBS.out.1 h1, h3, h2⟩
        · exact ⟨_, _, HBS.out.2 h1, h3, h2⟩)
      have HX4 := hide (ho4.blk HX3.out (by omega))
      have HB4 := hide (HB3.out.trans (ho4.below (B := w.heap.size) HB3.out.size (fun k hk => by rcases hk with rfl | rfl <;> omega)))
      have HR4 := hide (ranges_off HR2.out ((ho4.block b (by omega) (by omega)).trans (HBW.out b (by omega))) ((ho4.block w1.heap.size (by omega) (by omega)).trans (HBW.out _ hrl)))
      clear hway ho4 HLK HBS HX3 HB3 HR2 HBW e0 e1 e2 e3 e4
      go_wp2_with fail
      go_roundw
      case rel =>
        obtain ⟨bb', f', h1, h2, h3⟩ := HOT.out
        exact ⟨_, cnt2, bb', f', HR4.out, HSB.out, h1, HX4.out, h2, h3, HB4.out⟩
      case measure => rw [HR4.out.left_eq, HLE.out]; exact hlt
end Go.Proofs.Ytpfcmfannkbipaa
end
