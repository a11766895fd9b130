/- The walk of the reference's Get: its reading, its lists, its tail. Merged of several texts. No condition but that the bytes are a string of the machine. -/
import Derived.Test.YtegegljpmelomaaMioI
import Derived.BigRegion
import Derived.Test.YtegegljpmelomaaMioG
set_option linter.unusedVariables false
set_option linter.unusedSimpArgs false
set_option maxRecDepth 20000
namespace Go.Proofs.Ytegegljpmelomaa
open Go.RowKit Go.Deep
attribute [local go_sem] run_store_float

/-- A place in the bytes, and an error: what they are good for. -/
def RefSt (s : ByteArray) (st : RSt) (n e : Int) : Prop := match st with
  | .ok ws => ∃ k : Nat, ws = (wordsOf s).drop k ∧ 8 * k ≤ s.size ∧ n = (8 * k : Nat) ∧ e = 0
  | .error er => er ≠ 0 ∧ e = er
theorem RefSt.err {s : ByteArray} {st : RSt} {n e : Int} (h : RefSt s st n e) : e = errOf st := by
  cases st with
  | ok ws => obtain ⟨k, _, _, _, h⟩ := h; exact h
  | error er => exact h.2
def IntRf (w : World) (s : ByteArray) (st : RSt) (en : Ending) (w' : World) : Prop :=
  ∃ v n e : Int, en = .returned (.tuple #[.int .i64 v, .agg #[.int .i64 n, .int .i64 e]]) ∧ I64 v ∧ RefSt s (aft (goR st Mio.pI)) n e ∧ (∀ y r, goR st Mio.pI = .ok (y, r) → v = y) ∧ Below w.heap.size w w'
def FlRf (w : World) (s : ByteArray) (st : RSt) (en : Ending) (w' : World) : Prop :=
  ∃ (v : Nat) (n e : Int), en = .returned (.tuple #[.float .f64 v, .agg #[.int .i64 n, .int .i64 e]]) ∧ v < 18446744073709551616 ∧ RefSt s (aft (goR st Mio.pF)) n e ∧ (∀ y r, goR st Mio.pF = .ok (y, r) → v = y) ∧ Below w.heap.size w w'
def CountRf (w : World) (s : ByteArray) (st : RSt) (en : Ending) (w' : World) : Prop :=
  ∃ v n e : Int, en = .returned (.tuple #[.int .i64 v, .agg #[.int .i64 n, .int .i64 e]]) ∧ I64 v ∧ RefSt s (aft (goR st Mio.pC)) n e ∧ (∀ y r, goR st Mio.pC = .ok (y, r) → v = (y : Int)) ∧ Below w.heap.size w w'
theorem rfi_bad (s : ByteArray) (n e : Int) (w : World) (he : e ≠ 0) : Calls Try.prog 73 #[.string s, .agg #[.int .i64 n, .int .i64 e]] w fun en w' => en = .returned (.tuple #[.int .i64 0, .agg #[.int .i64 n, .int .i64 e]]) ∧ Below w.heap.size w w' := by
  go_enter Try.func73, Try.ntmps73
  go_wp2_with fail
  go_region
  all_goals
    go_wp2_with fail
    refine bodyPost_ret (v := .tuple #[.int .i64 0, .agg #[.int .i64 n, .int .i64 e]]) (by simp [results, Try.results73, go_sem]) rfl ⟨rfl, ?_⟩
    exact ((((Below.refl _ _).alloc (Nat.le_refl _) _).alloc (by simp) _).drew)
theorem rfi_good (s : ByteArray) (hs : s.size ≤ 9223372036854775807) (q n p er : Int) (w : World) (h1 : riN s q = n) (h2 : ruP s q = p) (h3 : ruE s q = er) : Calls Try.prog 73 #[.string s, .agg #[.int .i64 q, .int .i64 0]] w fun en w' => en = .returned (.tuple #[.int .i64 n, .agg #[.int .i64 p, .int .i64 er]]) ∧ Below w.heap.size w w' := by
  have hk := fun W => rreadi_all s q W hs
  rw [h1, h2, h3] at hk
  clear h1 h2 h3
  go_enter Try.func73, Try.ntmps73
  go_wp2_with fail
  refine (hk _).mono ?_
  rintro e w1 ⟨rfl, rfl⟩
  clear hk
  go_wp2_with fail
  refine bodyPost_ret (v := .tuple #[.int .i64 n, .agg #[.int .i64 p, .int .i64 er]]) (by simp [results, Try.results73, go_sem]) rfl ⟨rfl, ?_⟩
  exact (((Below.refl _ _).alloc (Nat.le_refl _) _).alloc (by simp) _)
theorem rff_bad (s : ByteArray) (n e : Int) (w : World) (he : e ≠ 0) : Calls Try.prog 74 #[.string s, .agg #[.int .i64 n, .int .i64 e]] w fun en w' => en = .returned (.tuple #[.float .f64 0, .agg #[.int .i64 n, .int .i64 e]]) ∧ Below w.heap.size w w' := by
  go_enter Try.func74, Try.ntmps74
  go_wp2_with fail
  go_region
  all_goals
    go_wp2_with fail
    refine bodyPost_ret (v := .tuple #[.float .f64 0, .agg #[.int .i64 n, .int .i64 e]]) (by simp [results, Try.results74, go_sem]) rfl ⟨rfl, ?_⟩
    exact ((((Below.refl _ _).alloc (Nat.le_refl _) _).alloc (by simp) _).drew)
theorem rff_good (s : ByteArray) (hs : s.size ≤ 9223372036854775807) (q n p er : Int) (w : World) (h1 : ruN s q = n) (h2 : ruP s q = p) (h3 : ruE s q = er) : Calls Try.prog 74 #[.string s, .agg #[.int .i64 q, .int .i64 0]] w fun en w' => en = .returned (.tuple #[.float .f64 n.toNat, .agg #[.int .i64 p, .int .i64 er]]) ∧ Below w.heap.size w w' := by
  have hk := fun W => rreadu_all s q W hs
  rw [h1, h2, h3] at hk
  clear h1 h2 h3
  have ff := f64from_run
  go_enter Try.func74, Try.ntmps74
  go_wp2_with fail
  refine (hk _).mono ?_
  rintro e w1 ⟨rfl, rfl⟩
  clear hk
  go_wp2_with fail
  refine bodyPost_ret (v := .tuple #[.float .f64 n.toNat, .agg #[.int .i64 p, .int .i64 er]]) (by simp [results, Try.results74, go_sem]) rfl ⟨rfl, ?_⟩
  exact (((Below.refl _ _).alloc (Nat.le_refl _) _).alloc (by simp) _)
theorem rint_any {s : ByteArray} (hs : s.size ≤ 9223372036854775807) {st : RSt} {n e : Int} (h : RefSt s st n e) (w : World) : Calls Try.prog 73 #[.string s, .agg #[.int .i64 n, .int .i64 e]] w (IntRf w s st) := by
  cases st with
  | error er =>
    obtain ⟨he, rfl⟩ := h
    refine (rfi_bad s n e w he).mono ?_
    rintro en w' ⟨rfl, hb⟩
    exact ⟨0, n, e, rfl, by unfold I64; omega, ⟨he, rfl⟩, fun y r h => (by cases h), hb⟩
  | ok ws =>
    obtain ⟨k, rfl, hk, rfl, rfl⟩ := h
    have hn := nextI hk
    refine (rfi_good s hs _ _ _ _ w rfl rfl rfl).mono ?_
    rintro en w' ⟨rfl, hb⟩
    refine ⟨_, _, _, rfl, hn.i64, ?_, hn.con, hb⟩
    by_cases h8 : 8 * k + 8 ≤ s.size
    · obtain ⟨h1, _, h3, _⟩ := ru_ok h8
      show RefSt s (aft (Mio.pI _)) _ _
      rw [h1, h3, words_more h8]
      exact ⟨k + 1, rfl, by omega, by omega, rfl⟩
    · obtain ⟨h1, _, h3, _⟩ := ru_short (s := s) (p := (8 * k : Nat)) (by omega) (by omega)
      show RefSt s (aft (Mio.pI _)) _ _
      rw [h1, h3, words_none (by omega)]
      exact ⟨by decide, rfl⟩
theorem rfloat_any6 {s : ByteArray} (hs : s.size ≤ 9223372036854775807) {st : RSt} {n e : Int} (h : RefSt s st n e) (w : World) : Calls Try.prog 74 #[.string s, .agg #[.int .i64 n, .int .i64 e]] w (FlRf w s st) := by
  cases st with
  | error er =>
    obtain ⟨he, rfl⟩ := h
    refine (rff_bad s n e w he).mono ?_
    rintro en w' ⟨rfl, hb⟩
    exact ⟨0, n, e, rfl, by decide, ⟨he, rfl⟩, fun y r h => (by cases h), hb⟩
  | ok ws =>
    obtain ⟨k, rfl, hk, rfl, rfl⟩ := h
    have hn := nextU hk
    refine (rff_good s hs _ _ _ _ w rfl rfl rfl).mono ?_
    rintro en w' ⟨rfl, hb⟩
    refine ⟨_, _, _, rfl, hn.hi, ?_, hn.con, hb⟩
    by_cases h8 : 8 * k + 8 ≤ s.size
    · obtain ⟨h1, _, h3, _⟩ := ru_ok h8
      show RefSt s (aft (Mio.pF _)) _ _
      rw [h1, h3, words_more h8]
      exact ⟨k + 1, rfl, by omega, by omega, rfl⟩
    · obtain ⟨h1, _, h3, _⟩ := ru_short (s := s) (p := (8 * k : Nat)) (by omega) (by omega)
      show RefSt s (aft (Mio.pF _)) _ _
      rw [h1, h3, words_none (by omega)]
      exact ⟨by decide, rfl⟩
theorem aft_err6 {α : Type} {o : Mio.Rd α} {e : Int} (h : aft o = .error e) : o = .error e := by
  cases o with
  | error d => cases h; rfl
  | ok q => cases h
/-! How many there are. -/
theorem cnt_bad {st : RSt} {e : Int} (h : aft (goR st Mio.pI) = .error e) : goR st Mio.pC = .error e := by
  cases st with
  | error d => cases h; rfl
  | ok ws =>
    have h' : aft (Mio.pI ws) = .error e := h
    show Mio.thenR (Mio.pI ws) _ = _
    rw [aft_err6 h']
    rfl
theorem cnt_good {st : RSt} {ws : List Nat} {n : Int} (h : aft (goR st Mio.pI) = .ok ws) (hn : ∀ y r, goR st Mio.pI = .ok (y, r) → n = y) : goR st Mio.pC = if n < 0 ∨ 48 < n then .error 6 else .ok (n.toNat, ws) := by
  cases st with
  | error d => cases h
  | ok vs =>
    have h' : aft (Mio.pI vs) = .ok ws := h
    show Mio.thenR (Mio.pI vs) _ = _
    cases hp : Mio.pI vs with
    | error d => rw [hp] at h'; cases h'
    | ok q =>
      obtain ⟨y, r⟩ := q
      rw [hp] at h'
      have e1 : n = y := hn y r hp
      have e2 : r = ws := Except.ok.inj h'
      subst e1 e2
      rfl
set_option maxHeartbeats 800000 in
theorem rcount_any {s : ByteArray} (hs : s.size ≤ 9223372036854775807) {st : RSt} {n e : Int} (h : RefSt s st n e) (w : World) : Calls Try.prog 75 #[.string s, .agg #[.int .i64 n, .int .i64 e]] w (CountRf w s st) := by
  have HR := hide (show ∀ (v n e : Int) w', I64 v → RefSt s (aft (goR st Mio.pC)) n e → (∀ y r, goR st Mio.pC = .ok (y, r) → v = (y : Int)) → Below w.heap.size w w' → CountRf w s st (.returned (.tuple #[.int .i64 v, .agg #[.int .i64 n, .int .i64 e]])) w' from fun v n e w' a b c d => ⟨v, n, e, rfl, a, b, c, d⟩)
  generalize CountRf w s st = Post at *
  have hk := fun W => rint_any hs h W
  clear h
  have HB := hide (show Below w.heap.size w ((w.alloc (.cells #[.int .i64 n, .int .i64 e] 97)).alloc (.cells #[.int .i64 0, .int .i64 0] 97)) from ((Below.refl _ _).alloc (Nat.le_refl _) _).alloc (by simp) _)
  have hZ : Blk ((w.alloc (.cells #[.int .i64 n, .int .i64 e] 97)).alloc (.cells #[.int .i64 0, .int .i64 0] 97)) (w.heap.size + 1) 97 #[.int .i64 0, .int .i64 0] := by
    have := Blk.new (w.alloc (.cells #[.int .i64 n, .int .i64 e] 97)) 97 #[.int .i64 0, .int .i64 0]
    simpa using this
  have HZ := hide hZ
  clear hZ
  go_enter Try.func75, Try.ntmps75
  go_wp2_with fail
  refine (hk _).mono ?_
  rintro en w1 ⟨v, n1, e1, rfl, hv, hr1, hc1, hb1⟩
  have HB1 := hide (below_after HB.out hb1)
  have hZ1 := HZ.out.below hb1 HZ.out.lt
  have r0 := hZ1.cell 0
  have r1 := hZ1.cell 1
  have q0 := hZ1.frozen 0
  have q1 := hZ1.frozen 1
  simp only [List.getElem?_toArray, List.getElem?_cons_zero, List.getElem?_cons_succ] at r0 r1
  have hne : ¬ w.heap.size + 1 = w1.heap.size := by have := hZ1.lt; omega
  have hne' : ¬ w1.heap.size = w.heap.size + 1 := by have := hZ1.lt; omega
  have hlt1 : w.heap.size + 1 < w1.heap.size := hZ1.lt
  have HV := hide hv
  unfold I64 at hv
  have HZ1 := hide hZ1
  clear hk hb1 HB HZ hZ1
  generalize hst : aft (goR st Mio.pI) = st1 at *
  cases st1 with
  | error er =>
    obtain ⟨he, rfl⟩ := hr1
    have HT := hide (cnt_bad hst)
    clear hst hc1
    go_wp2_with fail
    go_region
    all_goals
      go_wp2_with fail
      have hF := (((HZ1.out.set_ 0 (.int .i64 (n1))).set_ 1 (.int .i64 (e1))).alloc (.cells #[.int .i64 n1, .int .i64 e1] 97)).drew
      have f0 := hF.cell 0
      have f1 := hF.cell 1
      simp at f0 f1
      refine bodyPost_ret (v := .tuple #[.int .i64 v, .agg #[.int .i64 (n1), .int .i64 (e1)]]) (by simp [results, Try.results75, go_sem, f0, f1]) rfl (HR.out _ _ _ _ HV.out (by rw [HT.out]; exact ⟨he, rfl⟩) (fun y r h => by rw [HT.out] at h; cases h) ?_)
      have hbl := ((HB1.out.setCell (p := ⟨w.heap.size + 1, 0, none⟩) (Nat.le_succ _) (.int .i64 (n1))).setCell (p := ⟨w.heap.size + 1, 1, none⟩) (Nat.le_succ _) (.int .i64 (e1)))
      exact (hbl.alloc hbl.size _).drew
  | ok ws =>
    obtain ⟨k, hws, hk8, rfl, rfl⟩ := hr1
    have HT := hide (cnt_good hst hc1)
    have HW := hide (And.intro hws hk8)
    clear hst hc1 hws hk8
    by_cases h1 : v < 0
    · go_wp2_with fail
      have hF := (((HZ1.out.set_ 0 (.int .i64 (0))).set_ 1 (.int .i64 (6))).alloc (.cells #[.int .i64 (8 * (k : Int)), .int .i64 0] 97))
      have f0 := hF.cell 0
      have f1 := hF.cell 1
      simp at f0 f1
      refine bodyPost_ret (v := .tuple #[.int .i64 0, .agg #[.int .i64 (0), .int .i64 (6)]]) (by simp [results, Try.results75, go_sem, f0, f1]) rfl (HR.out _ _ _ _ (by unfold I64; omega) (by rw [HT.out, if_pos (.inl h1)]; exact ⟨by decide, rfl⟩) (fun y r h => by rw [HT.out, if_pos (.inl h1)] at h; cases h) ?_)
      have hbl := ((HB1.out.setCell (p := ⟨w.heap.size + 1, 0, none⟩) (Nat.le_succ _) (.int .i64 (0))).setCell (p := ⟨w.heap.size + 1, 1, none⟩) (Nat.le_succ _) (.int .i64 (6)))
      exact (hbl.alloc hbl.size _)
    · by_cases h2 : 48 < v
      · go_wp2_with fail
        have hF := (((HZ1.out.set_ 0 (.int .i64 (0))).set_ 1 (.int .i64 (6))).alloc (.cells #[.int .i64 (8 * (k : Int)), .int .i64 0] 97))
        have f0 := hF.cell 0
        have f1 := hF.cell 1
        simp at f0 f1
        refine bodyPost_ret (v := .tuple #[.int .i64 0, .agg #[.int .i64 (0), .int .i64 (6)]]) (by simp [results, Try.results75, go_sem, f0, f1]) rfl (HR.out _ _ _ _ (by unfold I64; omega) (by rw [HT.out, if_pos (.inr h2)]; exact ⟨by decide, rfl⟩) (fun y r h => by rw [HT.out, if_pos (.inr h2)] at h; cases h) ?_)
        have hbl := ((HB1.out.setCell (p := ⟨w.heap.size + 1, 0, none⟩) (Nat.le_succ _) (.int .i64 (0))).setCell (p := ⟨w.heap.size + 1, 1, none⟩) (Nat.le_succ _) (.int .i64 (6)))
        exact (hbl.alloc hbl.size _)
      · have hc : ¬ (v < 0 ∨ 48 < v) := by omega
        have HT2 := hide (show goR st Mio.pC = .ok (v.toNat, ws) by rw [HT.out, if_neg hc])
        clear hc
        go_wp2_with fail
        go_region
        all_goals
          go_wp2_with fail
          have hF := (((HZ1.out.set_ 0 (.int .i64 (8 * (k : Int)))).set_ 1 (.int .i64 (0))).alloc (.cells #[.int .i64 (8 * (k : Int)), .int .i64 0] 97)).drew
          have f0 := hF.cell 0
          have f1 := hF.cell 1
          simp at f0 f1
          refine bodyPost_ret (v := .tuple #[.int .i64 v, .agg #[.int .i64 (8 * (k : Int)), .int .i64 (0)]]) (by simp [results, Try.results75, go_sem, f0, f1]) rfl (HR.out _ _ _ _ HV.out (by rw [HT2.out]; exact ⟨k, HW.out.1, HW.out.2, by omega, rfl⟩) (fun y r h => by rw [HT2.out] at h; cases h; omega) ?_)
          have hbl := ((HB1.out.setCell (p := ⟨w.heap.size + 1, 0, none⟩) (Nat.le_succ _) (.int .i64 (8 * (k : Int)))).setCell (p := ⟨w.heap.size + 1, 1, none⟩) (Nat.le_succ _) (.int .i64 (0)))
          exact (hbl.alloc hbl.size _).drew
end Go.Proofs.Ytegegljpmelomaa
namespace Go.Proofs.Ytegegljpmelomaa
open Go.RowKit Go.Deep

section
variable {α β : Type} {con : α → β} {p : List Nat → Mio.Rd β} {n : Int} {T : Mio.Rd (List β)} {k : Nat} {L : List α} {st : RSt}
theorem going_start {s : ByteArray} {v : Int} {st0 : RSt} (hc : ∀ y r, goR st0 Mio.pC = .ok (y, r) → v = (y : Int)) : Going con p v (goR st0 (Mio.pL p)) 0 ([] : List α) (aft (goR st0 Mio.pC)) := by
  cases st0 with
  | error e => exact rfl
  | ok ws =>
    show Going con p v (Mio.pL p ws) 0 [] (aft (Mio.pC ws))
    cases hp : Mio.pC ws with
    | error e =>
      show Mio.pL p ws = .error e
      unfold Mio.pL
      rw [hp]
      rfl
    | ok q =>
      obtain ⟨y, r⟩ := q
      have hv := hc y r hp
      have h48 := (Mio.once_C hp).2
      refine ⟨by omega, by omega, Nat.zero_le _, ?_⟩
      rw [List.map_nil, Mio.items_start, Nat.sub_zero, show v.toNat = y by omega]
      unfold Mio.pL
      rw [hp]
      rfl
theorem going_next {ws : List Nat} {x : α} (hG : Going con p n T k L (.ok ws)) (hlt : (k : Int) < n) (hcon : ∀ y r, goR (.ok ws) p = .ok (y, r) → con x = y) : Going con p n T (k + 1) (L ++ [x]) (aft (goR (.ok ws) p)) := by
  obtain ⟨z1, z2, z3, z4⟩ := hG
  show Going con p n T (k + 1) (L ++ [x]) (aft (p ws))
  have e1 : n.toNat - k = (n.toNat - (k + 1)) + 1 := by omega
  rw [e1] at z4
  cases hp : p ws with
  | error e =>
    rw [Mio.items_fall hp] at z4
    exact z4.symm
  | ok q =>
    obtain ⟨y, r⟩ := q
    have hc := hcon y r hp
    rw [Mio.items_step hp] at z4
    refine ⟨z1, z2, by omega, ?_⟩
    rw [List.map_append, List.map_cons, List.map_nil, hc]
    exact z4
theorem going_end (hG : Going con p n T k L st) (hend : ∀ ws, st = .ok ws → ¬ (k : Int) < n) : aft T = st ∧ ∀ y r, T = .ok (y, r) → L.map con = y := by
  cases st with
  | error e =>
    have hG' : T = .error e := hG
    subst hG'
    exact ⟨rfl, fun y r h => (by cases h)⟩
  | ok ws =>
    obtain ⟨z1, z2, z3, z4⟩ := hG
    have := hend ws rfl
    have e0 : n.toNat - k = 0 := by omega
    rw [e0, Mio.items_end] at z4
    subst z4
    refine ⟨rfl, fun y r h => ?_⟩
    have := Except.ok.inj h
    exact congrArg Prod.fst this
theorem going_le {ws : List Nat} (hG : Going con p n T k L (.ok ws)) : n ≤ 48 := hG.2.1
end
/-- What is well of an item stays so, a box of another kind written. -/
structure KeepT {α : Type} (t : TypeId) (ok : World → Nat → α → Prop) : Prop where
  far : ∀ {w : World} {B : Nat} {x : α} {g : Nat} {cs : Array Value}, ok w B x → Blk w g t cs → ∀ (j : Nat) (u : Value), ok (w.setCell ⟨g, j, none⟩ u) B x
  below : ∀ {w w' : World} {B : Nat} {x : α}, ok w B x → Below w.heap.size w w' → ok w' B x
theorem OwnR.far6 {α : Type} {e : TypeId} {size B : Nat} {enc : α → List Value} {w : World} {v : Value} {L : List α} (h : OwnR e size enc w B v L) {g : Nat} {t : TypeId} {cs : Array Value} (hb : Blk w g t cs) (hne : e ≠ t) (j : Nat) (x : Value) : OwnR e size enc (w.setCell ⟨g, j, none⟩ x) B v L := by
  refine World.ownsRow.kept h (only_setCell (World.grownBy.refl w (some g)) (.inl rfl) x) (.inr fun he => ?_)
  exact own_blk_ne h hb hne he
/-- A row of its own, and boxes. -/
structure CodeM {α : Type} (t : TypeId) (size : Nat) (enc : α → List Value) (ok : World → Nat → α → Prop) (w : World) (B ga : Nat) (out : Sl α) (n e : Int) (wr : World) : Prop where
  bel : Below w.heap.size w wr
  siz : B ≤ wr.heap.size
  own : Rw t size enc ok B out wr
  a : Blk wr ga 97 #[.int .i64 n, .int .i64 e]
section
variable {α : Type} {t : TypeId} {size : Nat} {enc : α → List Value} {ok : World → Nat → α → Prop} {w : World} {B ga : Nat} {out : Sl α} {n e : Int} {wr w' : World}
theorem Rw.below (K : KeepT 97 ok) {x : Sl α} (h : Rw t size enc ok B x wr) (hb : Below wr.heap.size wr w') : Rw t size enc ok B x w' := ⟨h.1.below hb, fun y hy => K.below (h.2 y hy) hb⟩
theorem Rw.far (K : KeepT 97 ok) (ht : t ≠ 97) {x : Sl α} (h : Rw t size enc ok B x wr) {g : Nat} {cs : Array Value} (hX : Blk wr g 97 cs) (j : Nat) (u : Value) : Rw t size enc ok B x (wr.setCell ⟨g, j, none⟩ u) :=
  ⟨h.1.far6 hX ht j u, fun y hy => K.far (h.2 y hy) hX j u⟩
theorem CodeM.below (h : CodeM t size enc ok w B ga out n e wr) (K : KeepT 97 ok) (hb : Below wr.heap.size wr w') : CodeM t size enc ok w B ga out n e w' :=
  ⟨below_after h.bel hb, Nat.le_trans h.siz hb.size, h.own.below K hb, h.a.below hb h.a.lt⟩
/-- A box that is none of these is written. -/
theorem CodeM.box (h : CodeM t size enc ok w B ga out n e wr) (K : KeepT 97 ok) (ht : t ≠ 97) {g : Nat} {cs : Array Value} (hX : Blk wr g 97 cs) (hg : w.heap.size ≤ g) (hne : ga ≠ g) (j : Nat) (u : Value) : CodeM t size enc ok w B ga out n e (wr.setCell ⟨g, j, none⟩ u) :=
  ⟨h.bel.setCell hg u, by simpa [World.setCell] using h.siz, h.own.far K ht hX j u, h.a.far hne u⟩
end
theorem keept_ins : KeepT 97 okIns := ⟨fun h _ _ _ => h, fun h _ => h⟩
theorem keept_fl : KeepT 97 okFl := ⟨fun h _ _ _ => h, fun h _ => h⟩
theorem keept_int : KeepT 97 okInt := ⟨fun h _ _ _ => h, fun h _ => h⟩
theorem keept_ini : KeepT 97 okIni := ⟨fun h _ _ _ => h, fun h _ => h⟩
theorem keept_pr : KeepT 97 okPr := ⟨fun h hX j u => ⟨h.1.far6 hX (by decide) j u, h.2⟩, fun h hb => ⟨h.1.below hb, h.2⟩⟩
theorem keept_lp : KeepT 97 okLp := ⟨fun h hX j u => ⟨h.1, h.2.1.far6 hX (by decide) j u, h.2.2⟩, fun h hb => ⟨h.1, h.2.1.below hb, h.2.2⟩⟩
section
variable {α : Type} {t : TypeId} {size : Nat} {enc : α → List Value} {ok : World → Nat → α → Prop} {w : World} {B ga : Nat} {out : Sl α} {n e : Int} {wr w' : World}
/-- The place is written. -/
theorem CodeM.seta (h : CodeM t size enc ok w B ga out n e wr) (K : Keep t size enc ok) (hg : w.heap.size ≤ ga) (hB : ga < B) (n' e' : Int) : CodeM t size enc ok w B ga out n' e' ((wr.setCell ⟨ga, 0, none⟩ (.int .i64 n')).setCell ⟨ga, 1, none⟩ (.int .i64 e')) :=
  ⟨(h.bel.setCell hg _).setCell hg _, by simpa [World.setCell] using h.siz, (h.own.set (p := ⟨ga, 0, none⟩) K hB _).set (p := ⟨ga, 1, none⟩) K hB _, by simpa using (h.a.set_ 0 (.int .i64 n')).set_ 1 (.int .i64 e')⟩
/-- One more item. -/
theorem CodeM.app (h : CodeM t size enc ok w B ga out n e wr) (K : Keep t size enc ok) (ht : t ≠ 97) {x : α} (hx : ok wr B x) {out' : Sl α} (hL : out'.L = out.L ++ [x]) (ho : OwnR t size enc w' B out'.val out'.L) (hg : GExt wr w' out.val out'.val) (hwB : w.heap.size ≤ B) : CodeM t size enc ok w B ga out' n e w' := by
  refine ⟨h.bel.grown hg.1 h.bel.size fun k hk => Nat.le_trans hwB (h.own.1.base k hk), Nat.le_trans h.siz hg.1.size, ⟨ho, fun y hy => ?_⟩, h.a.grown hg.1 fun e => own_blk_ne h.own.1 h.a ht e.symm⟩
  rw [hL] at hy
  rcases List.mem_append.1 hy with hy | hy
  · exact K.app (h.own.2 y hy) h.own.1 hg.1
  · rw [List.mem_singleton.1 hy]
    exact K.app hx h.own.1 hg.1
end
section
variable {α : Type} {t : TypeId} {size : Nat} {enc : α → List Value} {ok : World → Nat → α → Prop} {w : World} {B ga : Nat} {out : Sl α} {n e : Int} {wr w' : World}
/-- A box ahead of the row is written. -/
theorem CodeM.low_ (h : CodeM t size enc ok w B ga out n e wr) (K : Keep t size enc ok) {p : Addr} (hg : w.heap.size ≤ p.block) (hB : p.block < B) (hne : ga ≠ p.block) (u : Value) : CodeM t size enc ok w B ga out n e (wr.setCell p u) :=
  ⟨h.bel.setCell hg u, by simpa [World.setCell] using h.siz, h.own.set K hB u, h.a.far hne u⟩
end
end Go.Proofs.Ytegegljpmelomaa
namespace Go.Proofs.Ytegegljpmelomaa
open Go.RowKit Go.Deep
attribute [local go_sem] run_store_float

def CodeRf (w : World) (s : ByteArray) (st : RSt) (en : Ending) (w' : World) : Prop :=
  ∃ (out : Sl Ins4) (n e : Int), en = .returned (.tuple #[out.val, .agg #[.int .i64 n, .int .i64 e]]) ∧ Rw 34 4 encIns okIns w.heap.size out w' ∧ RefSt s (aft (goR st (Mio.pL Mio.pIns))) n e ∧ (∀ y r, goR st (Mio.pL Mio.pIns) = .ok (y, r) → out.L = y) ∧ Below w.heap.size w w'
def CodeRel (w : World) (B : Nat) (s : ByteArray) (v : Int) (T : Mio.Rd (List Ins4)) (o i : Value) (wr : World) : Prop :=
  ∃ (k : Nat) (out : Sl Ins4) (st : RSt) (n e : Int), i = .int .i64 k ∧ o = out.val ∧ CodeM 34 4 encIns okIns w B w.heap.size out n e wr ∧ Blk wr (w.heap.size + 1) 97 #[.int .i64 0, .int .i64 0] ∧ out.L.length ≤ k ∧ k ≤ 48 ∧ RefSt s st n e ∧ Going id Mio.pIns v T k out.L st
set_option maxHeartbeats 2000000 in
theorem rcode_any {s : ByteArray} (hs : s.size ≤ 9223372036854775807) {st : RSt} {n e : Int} (h : RefSt s st n e) (w : World) : Calls Try.prog 76 #[.string s, .agg #[.int .i64 n, .int .i64 e]] w (CodeRf w s st) := by
  have HR := hide (show ∀ (out : Sl Ins4) (n e : Int) w', Rw 34 4 encIns okIns w.heap.size out w' → RefSt s (aft (goR st (Mio.pL Mio.pIns))) n e → (∀ y r, goR st (Mio.pL Mio.pIns) = .ok (y, r) → out.L.map id = y) → Below w.heap.size w w' → CodeRf w s st (.returned (.tuple #[out.val, .agg #[.int .i64 n, .int .i64 e]])) w' from fun out n e w' a b c d => ⟨out, n, e, rfl, a, b, fun y r h => by have := c y r h; rwa [List.map_id] at this, d⟩)
  generalize CodeRf w s st = Post at *
  have hk := fun W => rcount_any hs h W
  clear h
  have hb0 : Below w.heap.size w ((w.alloc (.cells #[.int .i64 n, .int .i64 e] 97)).alloc (.cells #[.int .i64 0, .int .i64 0] 97)) := ((Below.refl _ _).alloc (Nat.le_refl _) _).alloc (by simp) _
  have hZ : Blk ((w.alloc (.cells #[.int .i64 n, .int .i64 e] 97)).alloc (.cells #[.int .i64 0, .int .i64 0] 97)) (w.heap.size + 1) 97 #[.int .i64 0, .int .i64 0] := by
    have := Blk.new (w.alloc (.cells #[.int .i64 n, .int .i64 e] 97)) 97 #[.int .i64 0, .int .i64 0]
    simpa using this
  have hA := (Blk.new w 97 #[.int .i64 n, .int .i64 e]).alloc (.cells #[.int .i64 0, .int .i64 0] 97)
  have HB := hide hb0
  have HZ := hide hZ
  have HA := hide hA
  clear hb0 hZ hA
  go_enter Try.func76, Try.ntmps76
  go_wp2_with fail
  refine (hk _).mono ?_
  rintro en w1 ⟨v, n1, e1, rfl, hv, hr1, hc1, hb1⟩
  have hA1 := HA.out.below hb1 HA.out.lt
  have hZ1 := HZ.out.below hb1 HZ.out.lt
  have a0 := hA1.cell 0
  have a1 := hA1.cell 1
  have d0 := hA1.frozen 0
  have d1 := hA1.frozen 1
  simp only [List.getElem?_toArray, List.getElem?_cons_zero, List.getElem?_cons_succ] at a0 a1
  go_upto_region 2 with fail
  have hM : CodeM 34 4 encIns okIns w w1.heap.size w.heap.size ⟨none, 0, []⟩ n1 e1 ((w1.setCell ⟨w.heap.size, 0, none⟩ (.int .i64 n1)).setCell ⟨w.heap.size, 1, none⟩ (.int .i64 e1)) :=
    ⟨((below_after HB.out hb1).setCell (Nat.le_refl _) _).setCell (Nat.le_refl _) _, by simp [World.setCell], ⟨OwnR.nil, fun x hx => (by cases hx)⟩, by simpa using (hA1.set_ 0 (.int .i64 n1)).set_ 1 (.int .i64 e1)⟩
  have hR : Blk ((w1.setCell ⟨w.heap.size, 0, none⟩ (.int .i64 n1)).setCell ⟨w.heap.size, 1, none⟩ (.int .i64 e1)) (w.heap.size + 1) 97 #[.int .i64 0, .int .i64 0] := (hZ1.far (p := ⟨w.heap.size, 0, none⟩) (by simp only; omega) _).far (p := ⟨w.heap.size, 1, none⟩) (by simp only; omega) _
  have HBB := hide (show w.heap.size + 1 < w1.heap.size from hZ1.lt)
  have HM := hide hM
  have HRB := hide hR
  have HGO := hide (going_start (con := id) (p := Mio.pIns) (α := Ins4) (s := s) hc1)
  have HRS := hide hr1
  have hv' := hv
  unfold I64 at hv'
  clear a0 a1 d0 d1 hA1 hZ1 hM hR hb1 hr1 hc1 HB HZ HA hk hv
  generalize (w1.setCell ⟨w.heap.size, 0, none⟩ (.int .i64 n1)).setCell ⟨w.heap.size, 1, none⟩ (.int .i64 e1) = w2 at *
  generalize w1.heap.size = B at *
  go_wp2_with fail
  go_loopw [7, 8] (fun o i wr => CodeRel w B s v (goR st (Mio.pL Mio.pIns)) o i wr) (fun _ i _ => (v - intOf i).toNat)
  case atStart => exact ⟨0, ⟨none, 0, []⟩, _, n1, e1, rfl, rfl, HM.out, HRB.out, Nat.le_refl _, by decide, HRS.out, HGO.out⟩
  case round =>
    clear HM HRB HRS HGO
    obtain ⟨k, out, st1, n, e, rfl, rfl, hM, hRB, hl, hk48, hr, hG⟩ := hrel
    have a0 := hM.a.cell 0
    have a1 := hM.a.cell 1
    simp only [List.getElem?_toArray, List.getElem?_cons_zero, List.getElem?_cons_succ] at a0 a1
    have HM := hide hM
    have HRB := hide hRB
    have HGO := hide hG
    clear hM hRB hG
    by_cases hlt : (k : Int) < v
    · cases st1 with
      | error er =>
        have hge := going_end HGO.out (fun ws e => by cases e)
        have HEND := hide (And.intro hge.1 hge.2)
        obtain ⟨he, rfl⟩ := hr
        have hRB := HRB.out
        have r0 := hRB.cell 0
        have r1 := hRB.cell 1
        have q0 := hRB.frozen 0
        have q1 := hRB.frozen 1
        simp only [List.getElem?_toArray, List.getElem?_cons_zero, List.getElem?_cons_succ] at r0 r1
        have hne : ¬ w.heap.size = w.heap.size + 1 := by omega
        clear hRB
        go_wp2_with fail
        go_region
        all_goals
          go_wp2_with fail
          refine bodyPost_ret (v := .tuple #[out.val, .agg #[.int .i64 n, .int .i64 e]]) (by simp [results, Try.results76, go_sem, r0, r1]) rfl (HR.out out n e _ ?_ (by rw [HEND.out.1]; exact ⟨he, rfl⟩) HEND.out.2 ?_)
          · exact Rw.low keep_ins (((HM.out.own.set (p := ⟨w.heap.size + 1, 0, none⟩) keep_ins HBB.out _).set (p := ⟨w.heap.size + 1, 1, none⟩) keep_ins HBB.out _)) (Nat.le_of_lt (Nat.lt_of_succ_lt HBB.out))
          · exact ((HM.out.bel.setCell (p := ⟨w.heap.size + 1, 0, none⟩) (Nat.le_succ _) _).setCell (p := ⟨w.heap.size + 1, 1, none⟩) (Nat.le_succ _) _).drew
      | ok ws =>
        have h0 : e = 0 := hr.err
        subst h0
        have hk := rint_any hs hr wr
        go_wp2_with fail
        refine hk.mono ?_
        rintro en w1 ⟨x1, n1, e1, rfl, i1, hr1, c1, hb1⟩
        clear hk a0 a1
        go_upto_region 7 with fail
        have hbx := (Below.refl w1.heap.size w1).alloc (Nat.le_refl _) (.cells #[.int .i64 n1, .int .i64 e1] 97)
        have hM1 := (HM.out.below keept_ins hb1).below keept_ins hbx
        have hR1 := HRB.out.below (below_after hb1 hbx) HRB.out.lt
        have hX1 := Blk.new w1 97 #[.int .i64 n1, .int .i64 e1]
        have hG : w.heap.size ≤ w1.heap.size ∧ w.heap.size ≠ w1.heap.size ∧ w.heap.size + 1 ≠ w1.heap.size := ⟨Nat.le_trans HM.out.bel.size hb1.size, by have := HM.out.a.lt; have := hb1.size; omega, by have := HRB.out.lt; have := hb1.size; omega⟩
        have HX := hide hX1
        have HM := hide hM1
        have HRB := hide hR1
        have HG := hide hG
        clear hbx hM1 hR1 hX1 hG hb1
        generalize w1.alloc (.cells #[.int .i64 n1, .int .i64 e1] 97) = wb at *
        generalize w1.heap.size = gb at *
        have hk := rint_any hs hr1 wb
        have b0 := HX.out.cell 0
        have b1 := HX.out.cell 1
        simp only [List.getElem?_toArray, List.getElem?_cons_zero, List.getElem?_cons_succ] at b0 b1
        go_wp2_with fail
        refine hk.mono ?_
        rintro en w2 ⟨x2, n2, e2, rfl, i2, hr2, c2, hb⟩
        have hX := HX.out.below hb HX.out.lt
        clear b0 b1 hk
        have b0 := hX.cell 0
        have b1 := hX.cell 1
        have d0 := hX.frozen 0
        have d1 := hX.frozen 1
        simp only [List.getElem?_toArray, List.getElem?_cons_zero, List.getElem?_cons_succ] at b0 b1
        go_upto_region 8 with fail
        have hM0 := HM.out.below keept_ins hb
        have hR0 := HRB.out.below hb HRB.out.lt
        have hX2 := hX.set_ 0 (.int .i64 n2)
        have hM2 := (hM0.box keept_ins (by decide) hX HG.out.1 HG.out.2.1 0 (.int .i64 n2)).box keept_ins (by decide) hX2 HG.out.1 HG.out.2.1 1 (.int .i64 e2)
        have hR2 := (hR0.far (p := ⟨gb, 0, none⟩) HG.out.2.2 (.int .i64 n2)).far (p := ⟨gb, 1, none⟩) HG.out.2.2 (.int .i64 e2)
        have hX3 := hX2.set_ 1 (.int .i64 e2)
        simp only [List.setIfInBounds_toArray, List.set_cons_zero, List.set_cons_succ] at hX3
        have HX := hide hX3
        have HM := hide hM2
        have HRB := hide hR2
        clear b0 b1 d0 d1 hX hX2 hX3 hM0 hM2 hR0 hR2 hb
        generalize (w2.setCell ⟨gb, 0, none⟩ (.int .i64 n2)).setCell ⟨gb, 1, none⟩ (.int .i64 e2) = v2 at *
        have hk := rint_any hs hr2 v2
        have b0 := HX.out.cell 0
        have b1 := HX.out.cell 1
        simp only [List.getElem?_toArray, List.getElem?_cons_zero, List.getElem?_cons_succ] at b0 b1
        go_wp2_with fail
        refine hk.mono ?_
        rintro en w3 ⟨x3, n3, e3, rfl, i3, hr3, c3, hb⟩
        have hX := HX.out.below hb HX.out.lt
        clear b0 b1 hk
        have b0 := hX.cell 0
        have b1 := hX.cell 1
        have d0 := hX.frozen 0
        have d1 := hX.frozen 1
        simp only [List.getElem?_toArray, List.getElem?_cons_zero, List.getElem?_cons_succ] at b0 b1
        go_upto_region 9 with fail
        have hM0 := HM.out.below keept_ins hb
        have hR0 := HRB.out.below hb HRB.out.lt
        have hX2 := hX.set_ 0 (.int .i64 n3)
        have hM2 := (hM0.box keept_ins (by decide) hX HG.out.1 HG.out.2.1 0 (.int .i64 n3)).box keept_ins (by decide) hX2 HG.out.1 HG.out.2.1 1 (.int .i64 e3)
        have hR2 := (hR0.far (p := ⟨gb, 0, none⟩) HG.out.2.2 (.int .i64 n3)).far (p := ⟨gb, 1, none⟩) HG.out.2.2 (.int .i64 e3)
        have hX3 := hX2.set_ 1 (.int .i64 e3)
        simp only [List.setIfInBounds_toArray, List.set_cons_zero, List.set_cons_succ] at hX3
        have HX := hide hX3
        have HM := hide hM2
        have HRB := hide hR2
        clear b0 b1 d0 d1 hX hX2 hX3 hM0 hM2 hR0 hR2 hb
        generalize (w3.setCell ⟨gb, 0, none⟩ (.int .i64 n3)).setCell ⟨gb, 1, none⟩ (.int .i64 e3) = v3 at *
        have hk := rint_any hs hr3 v3
        have b0 := HX.out.cell 0
        have b1 := HX.out.cell 1
        simp only [List.getElem?_toArray, List.getElem?_cons_zero, List.getElem?_cons_succ] at b0 b1
        go_wp2_with fail
        refine hk.mono ?_
        rintro en w4 ⟨x4, n4, e4, rfl, i4, hr4, c4, hb⟩
        have hX := HX.out.below hb HX.out.lt
        clear b0 b1 hk
        have b0 := hX.cell 0
        have b1 := hX.cell 1
        have d0 := hX.frozen 0
        have d1 := hX.frozen 1
        simp only [List.getElem?_toArray, List.getElem?_cons_zero, List.getElem?_cons_succ] at b0 b1
        go_upto_region 10 with fail
        have hM0 := HM.out.below keept_ins hb
        have hR0 := HRB.out.below hb HRB.out.lt
        have hX2 := hX.set_ 0 (.int .i64 n4)
        have hM2 := (hM0.box keept_ins (by decide) hX HG.out.1 HG.out.2.1 0 (.int .i64 n4)).box keept_ins (by decide) hX2 HG.out.1 HG.out.2.1 1 (.int .i64 e4)
        have hR2 := (hR0.far (p := ⟨gb, 0, none⟩) HG.out.2.2 (.int .i64 n4)).far (p := ⟨gb, 1, none⟩) HG.out.2.2 (.int .i64 e4)
        have hX3 := hX2.set_ 1 (.int .i64 e4)
        simp only [List.setIfInBounds_toArray, List.set_cons_zero, List.set_cons_succ] at hX3
        have HX := hide hX3
        have HM := hide hM2
        have HRB := hide hR2
        clear b0 b1 d0 d1 hX hX2 hX3 hM0 hM2 hR0 hR2 hb
        generalize (w4.setCell ⟨gb, 0, none⟩ (.int .i64 n4)).setCell ⟨gb, 1, none⟩ (.int .i64 e4) = v4 at *
        have HC4 := hide (ins_con c1 c2 c3 c4)
        have HS4 := hide (show RefSt s (aft (goR (.ok ws) Mio.pIns)) n4 e4 by rw [ins_aft]; exact hr4)
        have HI4 := hide (show okIns v4 B (x1, x2, x3, x4) from ⟨i1, i2, i3, i4⟩)
        have h48 := going_le HGO.out
        obtain ⟨v', w9, hrun, ho9, hx9⟩ := run_append_one (P := Try.prog) 34 38 38 4 32 (.agg #[.int .i64 0, .int .i64 0, .int .i64 0, .int .i64 0]) encIns (by decide) (fun _ => rfl) one_ins Try.underlying38 inf_ins rfl v4 B out.val out.L (x1, x2, x3, x4) #[.int .i64 x1, .int .i64 x2, .int .i64 x3, .int .i64 x4] rfl HM.out.own.1 (by omega) (by omega) HM.out.siz
        obtain ⟨o9, hv9, hL9, _, _⟩ := ho9.form
        subst hv9
        rw [← hL9] at ho9
        have hM9 := HM.out.app keep_ins (by decide) HI4.out hL9 ho9 hx9 (Nat.le_of_lt (Nat.lt_of_succ_lt HBB.out))
        have hR9 := HRB.out.grown hx9.1 (fun e => own_blk_ne HM.out.own.1 HRB.out (by decide) e.symm)
        have hX9 := HX.out.grown hx9.1 (fun e => own_blk_ne HM.out.own.1 HX.out (by decide) e.symm)
        have b0 := hX9.cell 0
        have b1 := hX9.cell 1
        have a0 := hM9.a.cell 0
        have a1 := hM9.a.cell 1
        have d0 := hM9.a.frozen 0
        have d1 := hM9.a.frozen 1
        simp only [List.getElem?_toArray, List.getElem?_cons_zero, List.getElem?_cons_succ] at b0 b1 a0 a1
        have HMZ := hide (hM9.seta keep_ins (Nat.le_refl _) (Nat.lt_of_succ_lt HBB.out) n4 e4)
        have HRZ := hide ((hR9.far (p := ⟨w.heap.size, 0, none⟩) (by simp only; omega) (.int .i64 n4)).far (p := ⟨w.heap.size, 1, none⟩) (by simp only; omega) (.int .i64 e4))
        have HGZ := hide (going_next HGO.out hlt HC4.out)
        have HLL := hide (show o9.L.length ≤ k + 1 by rw [hL9]; simp; omega)
        rw [← hL9] at HGZ
        have kI : (k : Int) + 1 ≤ 48 := by omega
        clear hM9 hR9 hX9 ho9 hx9 hL9 c1 c2 c3 c4 i1 i2 i3 i4 hr1 hr2 hr3 hr4 hr
        go_wp2_with (at_builtin; go_must (refine wpList_of_append rfl _ w9 (.tmp 54) (.tmp 60) 38 _ _ _ rfl rfl rfl hrun ?_))
        clear hrun b0 b1 a0 a1 d0 d1
        go_roundw
        case rel => exact ⟨k + 1, o9, _, n4, e4, by go_num, rfl, HMZ.out, HRZ.out, HLL.out, by omega, HS4.out, HGZ.out⟩
        case measure => simp [intOf]; omega
    · have hge := going_end HGO.out (fun ws e => by omega)
      have HEND := hide (And.intro hge.1 hge.2)
      have HRS := hide hr
      clear hge hr
      have hRB := HRB.out
      have r0 := hRB.cell 0
      have r1 := hRB.cell 1
      have q0 := hRB.frozen 0
      have q1 := hRB.frozen 1
      simp only [List.getElem?_toArray, List.getElem?_cons_zero, List.getElem?_cons_succ] at r0 r1
      have hne : ¬ w.heap.size = w.heap.size + 1 := by omega
      clear hRB
      go_wp2_with fail
      go_region
      all_goals
        go_wp2_with fail
        refine bodyPost_ret (v := .tuple #[out.val, .agg #[.int .i64 n, .int .i64 e]]) (by simp [results, Try.results76, go_sem, r0, r1]) rfl (HR.out out n e _ ?_ (by rw [HEND.out.1]; exact HRS.out) HEND.out.2 ?_)
        · exact Rw.low keep_ins (((HM.out.own.set (p := ⟨w.heap.size + 1, 0, none⟩) keep_ins HBB.out _).set (p := ⟨w.heap.size + 1, 1, none⟩) keep_ins HBB.out _)) (Nat.le_of_lt (Nat.lt_of_succ_lt HBB.out))
        · exact ((HM.out.bel.setCell (p := ⟨w.heap.size + 1, 0, none⟩) (Nat.le_succ _) _).setCell (p := ⟨w.heap.size + 1, 1, none⟩) (Nat.le_succ _) _).drew
def ProcRf (w : World) (s : ByteArray) (st : RSt) (en : Ending) (w' : World) : Prop :=
  ∃ (x : LP2) (n e : Int), en = .returned (.tuple #[vLp x, .agg #[.int .i64 n, .int .i64 e]]) ∧ okLp w' w.heap.size x ∧ RefSt s (aft (goR st Mio.pLP)) n e ∧ (∀ y r, goR st Mio.pLP = .ok (y, r) → (x.1, x.2.L) = y) ∧ Below w.heap.size w w'
def ProcRel (w : World) (B gx : Nat) (s : ByteArray) (pp v : Int) (T : Mio.Rd (List Int)) (i : Value) (wr : World) : Prop :=
  ∃ (k : Nat) (out : Sl Int) (st : RSt) (n e : Int), i = .int .i64 k ∧ CodeM 3 1 encInt okInt w B w.heap.size out n e wr ∧ Blk wr (w.heap.size + 1) 41 #[.int .i64 0, .slice none 0 0] ∧ Blk wr (w.heap.size + 1 + 1) 97 #[.int .i64 0, .int .i64 0] ∧ Blk wr gx 41 #[.int .i64 pp, out.val] ∧ out.L.length ≤ k ∧ k ≤ 48 ∧ RefSt s st n e ∧ Going id Mio.pI v T k out.L st
set_option maxHeartbeats 2000000 in
theorem rproc_any {s : ByteArray} (hs : s.size ≤ 9223372036854775807) {st : RSt} {n e : Int} (h : RefSt s st n e) (w : World) : Calls Try.prog 77 #[.string s, .agg #[.int .i64 n, .int .i64 e]] w (ProcRf w s st) := by
  have HR := hide (show ∀ (pp : Int) (A : Option Addr) (c : Nat) (L : List Int) (n e : Int) w', okLp w' w.heap.size (pp, ⟨A, c, L⟩) → RefSt s (aft (goR st Mio.pLP)) n e → (∀ y r, goR st Mio.pLP = .ok (y, r) → (pp, L) = y) → Below w.heap.size w w' → ProcRf w s st (.returned (.tuple #[.agg #[.int .i64 pp, .slice A L.length c], .agg #[.int .i64 n, .int .i64 e]])) w' from fun pp A c L n e w' a b c2 d => ⟨(pp, ⟨A, c, L⟩), n, e, rfl, a, b, c2, d⟩)
  generalize ProcRf w s st = Post at *
  have hk := fun W => rint_any hs h W
  clear h
  have hb0 : Below w.heap.size w (((w.alloc (.cells #[.int .i64 n, .int .i64 e] 97)).alloc (.cells #[.int .i64 0, .slice none 0 0] 41)).alloc (.cells #[.int .i64 0, .int .i64 0] 97)) := (((Below.refl _ _).alloc (Nat.le_refl _) _).alloc (by simp) _).alloc (by simp; omega) _
  have hA : Blk (((w.alloc (.cells #[.int .i64 n, .int .i64 e] 97)).alloc (.cells #[.int .i64 0, .slice none 0 0] 41)).alloc (.cells #[.int .i64 0, .int .i64 0] 97)) w.heap.size 97 #[.int .i64 n, .int .i64 e] := ((Blk.new w 97 #[.int .i64 n, .int .i64 e]).alloc _).alloc _
  have h4 : Blk (((w.alloc (.cells #[.int .i64 n, .int .i64 e] 97)).alloc (.cells #[.int .i64 0, .slice none 0 0] 41)).alloc (.cells #[.int .i64 0, .int .i64 0] 97)) (w.heap.size + 1) 41 #[.int .i64 0, .slice none 0 0] := by
    have := (Blk.new (w.alloc (.cells #[.int .i64 n, .int .i64 e] 97)) 41 #[.int .i64 0, .slice none 0 0]).alloc (.cells #[.int .i64 0, .int .i64 0] 97)
    simpa using this
  have h5 : Blk (((w.alloc (.cells #[.int .i64 n, .int .i64 e] 97)).alloc (.cells #[.int .i64 0, .slice none 0 0] 41)).alloc (.cells #[.int .i64 0, .int .i64 0] 97)) (w.heap.size + 1 + 1) 97 #[.int .i64 0, .int .i64 0] := by
    have := Blk.new ((w.alloc (.cells #[.int .i64 n, .int .i64 e] 97)).alloc (.cells #[.int .i64 0, .slice none 0 0] 41)) 97 #[.int .i64 0, .int .i64 0]
    simpa using this
  have HB := hide hb0
  have HA := hide hA
  have H4 := hide h4
  have H5 := hide h5
  clear hb0 hA h4 h5
  go_enter Try.func77, Try.ntmps77
  go_wp2_with fail
  refine (hk _).mono ?_
  rintro en w1 ⟨pp, n1, e1, rfl, hpp, hr1, hc1, hb1⟩
  clear hk
  have hA1 := HA.out.below hb1 HA.out.lt
  have h41 := H4.out.below hb1 H4.out.lt
  have h51 := H5.out.below hb1 H5.out.lt
  have a0 := hA1.cell 0
  have a1 := hA1.cell 1
  have d0 := hA1.frozen 0
  have d1 := hA1.frozen 1
  simp only [List.getElem?_toArray, List.getElem?_cons_zero, List.getElem?_cons_succ] at a0 a1
  have hZ5 : w.heap.size + 1 + 1 < w1.heap.size := h51.lt
  go_upto_region 2 with fail
  have hA2 := (hA1.set_ 0 (.int .i64 n1)).set_ 1 (.int .i64 e1)
  simp only [List.setIfInBounds_toArray, List.set_cons_zero, List.set_cons_succ] at hA2
  have HB := hide (((below_after HB.out hb1).setCell (p := ⟨w.heap.size, 0, none⟩) (Nat.le_refl _) (.int .i64 n1)).setCell (p := ⟨w.heap.size, 1, none⟩) (Nat.le_refl _) (.int .i64 e1))
  have HA := hide hA2
  have H4 := hide ((h41.far (p := ⟨w.heap.size, 0, none⟩) (by simp only; omega) (.int .i64 n1)).far (p := ⟨w.heap.size, 1, none⟩) (by simp only; omega) (.int .i64 e1))
  have H5 := hide ((h51.far (p := ⟨w.heap.size, 0, none⟩) (by simp only; omega) (.int .i64 n1)).far (p := ⟨w.heap.size, 1, none⟩) (by simp only; omega) (.int .i64 e1))
  clear hA1 h41 h51 a0 a1 d0 d1 hA2 hb1 hZ5
  generalize (w1.setCell ⟨w.heap.size, 0, none⟩ (.int .i64 n1)).setCell ⟨w.heap.size, 1, none⟩ (.int .i64 e1) = wa at *
  have hk := rcount_any hs hr1 wa
  have a0 := HA.out.cell 0
  have a1 := HA.out.cell 1
  simp only [List.getElem?_toArray, List.getElem?_cons_zero, List.getElem?_cons_succ] at a0 a1
  go_wp2_with fail
  refine hk.mono ?_
  rintro en w2 ⟨v, n2, e2, rfl, hv, hr2, hc2, hb2⟩
  clear hk a0 a1
  have hA1 := HA.out.below hb2 HA.out.lt
  have h41 := H4.out.below hb2 H4.out.lt
  have h51 := H5.out.below hb2 H5.out.lt
  have a0 := hA1.cell 0
  have a1 := hA1.cell 1
  have d0 := hA1.frozen 0
  have d1 := hA1.frozen 1
  simp only [List.getElem?_toArray, List.getElem?_cons_zero, List.getElem?_cons_succ] at a0 a1
  have hZ5 : w.heap.size + 1 + 1 < w2.heap.size := h51.lt
  go_upto_region 3 with fail
  have hA2 := (hA1.set_ 0 (.int .i64 n2)).set_ 1 (.int .i64 e2)
  simp only [List.setIfInBounds_toArray, List.set_cons_zero, List.set_cons_succ] at hA2
  have HB := hide (((below_after HB.out hb2).setCell (p := ⟨w.heap.size, 0, none⟩) (Nat.le_refl _) (.int .i64 n2)).setCell (p := ⟨w.heap.size, 1, none⟩) (Nat.le_refl _) (.int .i64 e2))
  have HA := hide hA2
  have H4 := hide ((h41.far (p := ⟨w.heap.size, 0, none⟩) (by simp only; omega) (.int .i64 n2)).far (p := ⟨w.heap.size, 1, none⟩) (by simp only; omega) (.int .i64 e2))
  have H5 := hide ((h51.far (p := ⟨w.heap.size, 0, none⟩) (by simp only; omega) (.int .i64 n2)).far (p := ⟨w.heap.size, 1, none⟩) (by simp only; omega) (.int .i64 e2))
  clear hA1 h41 h51 a0 a1 d0 d1 hA2 hb2 hZ5
  generalize (w2.setCell ⟨w.heap.size, 0, none⟩ (.int .i64 n2)).setCell ⟨w.heap.size, 1, none⟩ (.int .i64 e2) = wb at *
  go_upto_region 4 with fail
  have hbx := (Below.refl wb.heap.size wb).alloc (Nat.le_refl _) (.cells #[.int .i64 pp, .slice none 0 0] 41)
  have HB := hide (below_after HB.out hbx)
  have HBB := hide (show w.heap.size + 1 + 1 < wb.heap.size from H5.out.lt)
  have HA := hide (HA.out.below hbx HA.out.lt)
  have H4 := hide (H4.out.below hbx H4.out.lt)
  have H5 := hide (H5.out.below hbx H5.out.lt)
  have HX := hide (Blk.new wb 41 #[.int .i64 pp, .slice none 0 0])
  clear hbx
  generalize wb.alloc (.cells #[.int .i64 pp, .slice none 0 0] 41) = wc at *
  generalize wb.heap.size = gx at *
  have HM := hide (show CodeM 3 1 encInt okInt w wc.heap.size w.heap.size ⟨none, 0, []⟩ n2 e2 wc from ⟨HB.out, Nat.le_refl _, ⟨OwnR.nil, fun x hx => (by cases hx)⟩, HA.out⟩)
  have HGX := hide (show gx < wc.heap.size from HX.out.lt)
  have HGO := hide (going_start (con := id) (p := Mio.pI) (α := Int) (s := s) hc2)
  have HRS := hide hr2
  have HC1 := hide hc1
  have HPP := hide hpp
  have hv' := hv
  unfold I64 at hv'
  clear hr1 hr2 hc1 hc2 hv hpp HB HA
  have HT0 := hide (show (Sl.val (⟨none, 0, []⟩ : Sl Int)) = .slice none 0 0 from rfl)
  go_wp2_with fail
  go_loopw [9] (fun i wr => ProcRel w wc.heap.size gx s pp v (goR (aft (goR st Mio.pI)) (Mio.pL Mio.pI)) i wr) (fun i _ => (v - intOf i).toNat)
  case atStart => exact ⟨0, ⟨none, 0, []⟩, _, n2, e2, rfl, HM.out, H4.out, H5.out, HX.out, Nat.le_refl _, by decide, HRS.out, HGO.out⟩
  case round =>
    clear HM H4 H5 HX HRS HGO
    obtain ⟨k, out, st1, n, e, rfl, hM, h4, h5, hX, hl, hk48, hr, hG⟩ := hrel
    have a0 := hM.a.cell 0
    have a1 := hM.a.cell 1
    simp only [List.getElem?_toArray, List.getElem?_cons_zero, List.getElem?_cons_succ] at a0 a1
    have HM := hide hM
    have H4 := hide h4
    have H5 := hide h5
    have HX := hide hX
    have HGO := hide hG
    clear hM h4 h5 hX hG
    by_cases hlt : (k : Int) < v
    · cases st1 with
      | error er =>
        have hge := going_end HGO.out (fun ws e => by cases e)
        have HEND := hide (And.intro hge.1 hge.2)
        obtain ⟨he, rfl⟩ := hr
        clear hge
        obtain ⟨oA, oc, oL⟩ := out
        have hX := HX.out
        have x0 := hX.cell 0
        have x1 := hX.cell 1
        have h4 := H4.out
        have r0 := h4.cell 0
        have r1 := h4.cell 1
        have q0 := h4.frozen 0
        have q1 := h4.frozen 1
        have h5 := H5.out
        have s0 := h5.cell 0
        have s1 := h5.cell 1
        have u0 := h5.frozen 0
        have u1 := h5.frozen 1
        simp only [Sl.val, List.getElem?_toArray, List.getElem?_cons_zero, List.getElem?_cons_succ] at x0 x1 r0 r1 s0 s1
        have z1 : ¬ w.heap.size = w.heap.size + 1 := by omega
        have z2 : ¬ w.heap.size = w.heap.size + 1 + 1 := by omega
        have z3 : ¬ w.heap.size + 1 = w.heap.size + 1 + 1 := by omega
        have z4 : ¬ gx = w.heap.size + 1 := by have := HBB.out; omega
        have z5 : ¬ gx = w.heap.size + 1 + 1 := by have := HBB.out; omega
        have z6 : ¬ w.heap.size + 1 + 1 = w.heap.size + 1 := by omega
        have HL3 := hide (show w.heap.size + 1 < wc.heap.size ∧ w.heap.size + 1 + 1 < wc.heap.size by have := HBB.out; have := HGX.out; omega)
        clear hX h4 h5
        go_wp2_with fail
        go_region
        all_goals
          go_wp2_with fail
          refine bodyPost_ret (v := .tuple #[.agg #[.int .i64 pp, .slice oA oL.length oc], .agg #[.int .i64 n, .int .i64 e]]) (by simp [results, Try.results77, go_sem, r0, r1, s0, s1]) rfl (HR.out pp oA oc oL n e _ ⟨HPP.out, ?_⟩ (by rw [lp_aft, HEND.out.1]; exact ⟨he, rfl⟩) (lp_con HC1.out HEND.out.2) ?_)
          · exact Rw.low keep_int ((((HM.out.own.set (p := ⟨w.heap.size + 1, 0, none⟩) keep_int HL3.out.1 _).set (p := ⟨w.heap.size + 1, 1, none⟩) keep_int HL3.out.1 _).set (p := ⟨w.heap.size + 1 + 1, 0, none⟩) keep_int HL3.out.2 _).set (p := ⟨w.heap.size + 1 + 1, 1, none⟩) keep_int HL3.out.2 _) (Nat.le_trans (by omega) (Nat.le_of_lt HL3.out.2))
          · exact ((((HM.out.bel.setCell (p := ⟨w.heap.size + 1, 0, none⟩) (Nat.le_succ _) _).setCell (p := ⟨w.heap.size + 1, 1, none⟩) (Nat.le_succ _) _).setCell (p := ⟨w.heap.size + 1 + 1, 0, none⟩) (by simp only; omega) _).setCell (p := ⟨w.heap.size + 1 + 1, 1, none⟩) (by simp only; omega) _).drew
      | ok ws =>
        have h0 : e = 0 := hr.err
        subst h0
        have hsz := HM.out.siz
        have hk := rint_any hs hr wr
        go_wp2_with fail
        refine hk.mono ?_
        rintro en w1 ⟨x1, n1, e1, rfl, i1, hr1, c1, hb1⟩
        have hgb : wc.heap.size ≤ w1.heap.size := Nat.le_trans hsz hb1.size
        clear hk a0 a1
        go_upto_region 8 with fail
        have hbx := below_after hb1 ((Below.refl w1.heap.size w1).alloc (Nat.le_refl _) (.cells #[.int .i64 n1, .int .i64 e1] 97))
        have HM := hide (HM.out.below keept_int hbx)
        have H4 := hide (H4.out.below hbx H4.out.lt)
        have H5 := hide (H5.out.below hbx H5.out.lt)
        have HX := hide (HX.out.below hbx HX.out.lt)
        have HY := hide (Blk.new w1 97 #[.int .i64 n1, .int .i64 e1])
        clear hb1 hbx hsz
        generalize w1.alloc (.cells #[.int .i64 n1, .int .i64 e1] 97) = wb2 at *
        generalize w1.heap.size = gb at *
        have HNB := hide (show gb ≠ gx ∧ gb ≠ w.heap.size by have := HGX.out; have := HBB.out; omega)
        have h48 := going_le HGO.out
        have hwB : w.heap.size ≤ wc.heap.size := by have := HGX.out; have := HBB.out; omega
        obtain ⟨v', w9, hrun, ho9, hx9⟩ := run_append_one (P := Try.prog) 3 39 39 1 8 (.int .i64 0) encInt (by decide) (fun _ => rfl) one_int Try.underlying39 inf_int rfl wb2 wc.heap.size out.val out.L x1 #[.int .i64 x1] rfl HM.out.own.1 (by omega) (by omega) HM.out.siz
        obtain ⟨o9, hv9, hL9, _, _⟩ := ho9.form
        subst hv9
        rw [← hL9] at ho9
        obtain ⟨qA, qc, qL⟩ := o9
        have hrun : (Builtin.append_ #[39, 39] 39 #[out.val, .slice (some ⟨wb2.heap.size, 0, none⟩) 1 1]).run Try.prog (wb2.alloc (.cells #[.int .i64 x1] 3)) = .ok (.slice qA qL.length qc) w9 := hrun
        simp only at hL9
        have hM9 := HM.out.app keep_int (by decide) (show okInt wb2 wc.heap.size x1 from i1) hL9 ho9 hx9 hwB
        have h49 := H4.out.grown hx9.1 (fun e => own_blk_ne HM.out.own.1 H4.out (by decide) e.symm)
        have h59 := H5.out.grown hx9.1 (fun e => own_blk_ne HM.out.own.1 H5.out (by decide) e.symm)
        have hX9 := HX.out.grown hx9.1 (fun e => own_blk_ne HM.out.own.1 HX.out (by decide) e.symm)
        have hY9 := HY.out.grown hx9.1 (fun e => own_blk_ne HM.out.own.1 HY.out (by decide) e.symm)
        have x1c := HX.out.cell 1
        have x19 := hX9.cell 1
        have f19 := hX9.frozen 1
        simp only [List.getElem?_toArray, List.getElem?_cons_zero, List.getElem?_cons_succ] at x1c x19
        have HNG := hide (show w.heap.size ≤ gx ∧ w.heap.size ≠ gx ∧ w.heap.size + 1 ≠ gx ∧ w.heap.size + 1 + 1 ≠ gx by have := HBB.out; omega)
        have hMX := hM9.low_ keep_int (p := ⟨gx, 1, none⟩) HNG.out.1 HGX.out HNG.out.2.1 (.slice qA qL.length qc)
        have h4X := h49.far (p := ⟨gx, 1, none⟩) HNG.out.2.2.1 (.slice qA qL.length qc)
        have h5X := h59.far (p := ⟨gx, 1, none⟩) HNG.out.2.2.2 (.slice qA qL.length qc)
        have hXX := hX9.set_ 1 (.slice qA qL.length qc)
        have hYX := hY9.far (p := ⟨gx, 1, none⟩) HNB.out.1 (.slice qA qL.length qc)
        simp only [List.setIfInBounds_toArray, List.set_cons_zero, List.set_cons_succ] at hXX
        have HMX := hide hMX
        have H4X := hide h4X
        have H5X := hide h5X
        have HXX := hide hXX
        have HYX := hide hYX
        have HGZ := hide (going_next HGO.out hlt c1)
        have HLL := hide (show qL.length ≤ k + 1 by rw [hL9]; simp; omega)
        rw [← hL9] at HGZ
        have HR1 := hide hr1
        have kI : (k : Int) + 1 ≤ 48 := by omega
        clear hM9 h49 h59 hX9 hY9 ho9 hx9 hL9 c1 i1 hr1 hr hMX h4X h5X hXX hYX
        go_upto_region 9 with (at_builtin; go_must (refine wpList_of_append rfl _ w9 (.tmp 43) (.tmp 45) 39 _ _ _ rfl rfl rfl hrun ?_))
        clear hrun x1c x19 f19
        generalize w9.setCell ⟨gx, 1, none⟩ (.slice qA qL.length qc) = v9 at *
        have b0 := HYX.out.cell 0
        have b1 := HYX.out.cell 1
        have a0 := HMX.out.a.cell 0
        have a1 := HMX.out.a.cell 1
        have d0 := HMX.out.a.frozen 0
        have d1 := HMX.out.a.frozen 1
        simp only [List.getElem?_toArray, List.getElem?_cons_zero, List.getElem?_cons_succ] at b0 b1 a0 a1
        have HNA := hide (show w.heap.size + 1 ≠ w.heap.size ∧ w.heap.size + 1 + 1 ≠ w.heap.size ∧ gx ≠ w.heap.size ∧ w.heap.size < wc.heap.size by have := HGX.out; have := HBB.out; omega)
        have HMZ := hide (HMX.out.seta keep_int (Nat.le_refl _) HNA.out.2.2.2 n1 e1)
        have H4Z := hide ((H4X.out.far (p := ⟨w.heap.size, 0, none⟩) HNA.out.1 (.int .i64 n1)).far (p := ⟨w.heap.size, 1, none⟩) HNA.out.1 (.int .i64 e1))
        have H5Z := hide ((H5X.out.far (p := ⟨w.heap.size, 0, none⟩) HNA.out.2.1 (.int .i64 n1)).far (p := ⟨w.heap.size, 1, none⟩) HNA.out.2.1 (.int .i64 e1))
        have HXZ := hide ((HXX.out.far (p := ⟨w.heap.size, 0, none⟩) HNA.out.2.2.1 (.int .i64 n1)).far (p := ⟨w.heap.size, 1, none⟩) HNA.out.2.2.1 (.int .i64 e1))
        go_wp2_with fail
        clear b0 b1 a0 a1 d0 d1
        go_roundw
        case rel => exact ⟨k + 1, ⟨qA, qc, qL⟩, _, n1, e1, by go_num, HMZ.out, H4Z.out, H5Z.out, HXZ.out, HLL.out, by omega, HR1.out, HGZ.out⟩
        case measure => simp [intOf]; omega
    · have hge := going_end HGO.out (fun ws e => by omega)
      have HEND := hide (And.intro hge.1 hge.2)
      have HRS := hide hr
      clear hge hr
      obtain ⟨oA, oc, oL⟩ := out
      have hX := HX.out
      have x0 := hX.cell 0
      have x1 := hX.cell 1
      have h4 := H4.out
      have r0 := h4.cell 0
      have r1 := h4.cell 1
      have q0 := h4.frozen 0
      have q1 := h4.frozen 1
      have h5 := H5.out
      have s0 := h5.cell 0
      have s1 := h5.cell 1
      have u0 := h5.frozen 0
      have u1 := h5.frozen 1
      simp only [Sl.val, List.getElem?_toArray, List.getElem?_cons_zero, List.getElem?_cons_succ] at x0 x1 r0 r1 s0 s1
      have z1 : ¬ w.heap.size = w.heap.size + 1 := by omega
      have z2 : ¬ w.heap.size = w.heap.size + 1 + 1 := by omega
      have z3 : ¬ w.heap.size + 1 = w.heap.size + 1 + 1 := by omega
      have z4 : ¬ gx = w.heap.size + 1 := by have := HBB.out; omega
      have z5 : ¬ gx = w.heap.size + 1 + 1 := by have := HBB.out; omega
      have z6 : ¬ w.heap.size + 1 + 1 = w.heap.size + 1 := by omega
      have HL3 := hide (show w.heap.size + 1 < wc.heap.size ∧ w.heap.size + 1 + 1 < wc.heap.size by have := HBB.out; have := HGX.out; omega)
      clear hX h4 h5
      go_wp2_with fail
      go_region
      all_goals
        go_wp2_with fail
        refine bodyPost_ret (v := .tuple #[.agg #[.int .i64 pp, .slice oA oL.length oc], .agg #[.int .i64 n, .int .i64 e]]) (by simp [results, Try.results77, go_sem, r0, r1, s0, s1]) rfl (HR.out pp oA oc oL n e _ ⟨HPP.out, ?_⟩ (by rw [lp_aft, HEND.out.1]; exact HRS.out) (lp_con HC1.out HEND.out.2) ?_)
        · exact Rw.low keep_int ((((HM.out.own.set (p := ⟨w.heap.size + 1, 0, none⟩) keep_int HL3.out.1 _).set (p := ⟨w.heap.size + 1, 1, none⟩) keep_int HL3.out.1 _).set (p := ⟨w.heap.size + 1 + 1, 0, none⟩) keep_int HL3.out.2 _).set (p := ⟨w.heap.size + 1 + 1, 1, none⟩) keep_int HL3.out.2 _) (Nat.le_trans (by omega) (Nat.le_of_lt HL3.out.2))
        · exact ((((HM.out.bel.setCell (p := ⟨w.heap.size + 1, 0, none⟩) (Nat.le_succ _) _).setCell (p := ⟨w.heap.size + 1, 1, none⟩) (Nat.le_succ _) _).setCell (p := ⟨w.heap.size + 1 + 1, 0, none⟩) (by simp only; omega) _).setCell (p := ⟨w.heap.size + 1 + 1, 1, none⟩) (by simp only; omega) _).drew
end Go.Proofs.Ytegegljpmelomaa
namespace Go.Proofs.Ytegegljpmelomaa
open Go.RowKit Go.Deep
attribute [local go_sem] run_store_float

section
variable {P : Program} {ops : Array Oper} {md : Region.Mode} {Q : Exit → Act → World → Prop} {S : World → Prop} {m f : Nat} {listed : Array Bool} {a : Act} {w : World}
/-- A store. -/
theorem tree_skip (i : Nat) {o : Oper} (w1 : World) (hr : Region.ready md ops listed = [i]) (hi : ops[i]? = some o) (hgd : Region.wanted o (yielded ops a.tmps) = true) (h : (execOp a.eval o).run P w = .ok .skip w1) (hd : o.dst = none) (hS : S w1) (hk : anyTo P md ops Q S [] m f (listed.setIfInBounds i true) a w1) : anyTo P md ops Q S [] m (f + 1) listed a w :=
  ⟨fun h1 => (by rw [hr] at h1; cases h1), fun j hj => by
    rw [hr] at hj
    obtain rfl : j = i := by simpa using hj
    unfold wpOp
    simp only [hi, hgd, if_true]
    refine .inl ?_
    unfold Oper.wp
    rw [h]
    simp only [Oper.upon]
    rw [hd]
    exact ⟨fun _ _ => hS, hk⟩⟩
end
theorem six_far6 (w : World) (b : Nat) (v0 v1 v2 v3 v4 v5 : Value) {k i : Nat} (hne : k ≠ b) : ((((((w.setCell ⟨b, 0, none⟩ v0).setCell ⟨b, 1, none⟩ v1).setCell ⟨b, 2, none⟩ v2).setCell ⟨b, 3, none⟩ v3).setCell ⟨b, 4, none⟩ v4).setCell ⟨b, 5, none⟩ v5).drew.cell? ⟨k, i, none⟩ = w.cell? ⟨k, i, none⟩ := by
  have h : ((((((w.setCell ⟨b, 0, none⟩ v0).setCell ⟨b, 1, none⟩ v1).setCell ⟨b, 2, none⟩ v2).setCell ⟨b, 3, none⟩ v3).setCell ⟨b, 4, none⟩ v4).setCell ⟨b, 5, none⟩ v5).heap[k]? = w.heap[k]? :=
    (Below.heap_setCell _ _ _ _ hne).trans ((Below.heap_setCell _ _ _ _ hne).trans ((Below.heap_setCell _ _ _ _ hne).trans ((Below.heap_setCell _ _ _ _ hne).trans ((Below.heap_setCell _ _ _ _ hne).trans (Below.heap_setCell _ _ _ _ hne)))))
  show World.cell? _ _ = _
  unfold World.cell?
  simp only [World.drew]
  rw [h]
/-- What is well of an item stays so, a row of another kind appended onto. -/
structure KeepA {α : Type} (ok : World → Nat → α → Prop) (t2 : TypeId) : Prop where
  app : ∀ {β : Type} {size2 : Nat} {enc2 : β → List Value} {w w' : World} {B : Nat} {x : α} {v : Value} {M : List β}, ok w B x → OwnR t2 size2 enc2 w B v M → w.grownBy w' v.ownBlock → ok w' B x
theorem Rw.app2 {α β : Type} {t t2 : TypeId} {size size2 : Nat} {enc : α → List Value} {enc2 : β → List Value} {ok : World → Nat → α → Prop} (K : KeepA ok t2) (hne : t ≠ t2) {B : Nat} {x : Sl α} {w w' : World} {v : Value} {M : List β} (h : Rw t size enc ok B x w) (h2 : OwnR t2 size2 enc2 w B v M) (hg : w.grownBy w' v.ownBlock) : Rw t size enc ok B x w' :=
  ⟨h.1.other h2 hne hg, fun y hy => K.app (h.2 y hy) h2 hg⟩
theorem keepa_fl (t : TypeId) : KeepA okFl t := ⟨fun h _ _ => h⟩
theorem keepa_pr {t : TypeId} (ht : 34 ≠ t) : KeepA okPr t := ⟨fun h h2 hg => ⟨h.1.other h2 ht hg, h.2⟩⟩
theorem keepa_lp {t : TypeId} (ht : 3 ≠ t) : KeepA okLp t := ⟨fun h h2 hg => ⟨h.1, h.2.1.other h2 ht hg, h.2.2⟩⟩
/-- One more item in a row. -/
theorem Rw.more {α : Type} {t : TypeId} {size : Nat} {enc : α → List Value} {ok : World → Nat → α → Prop} (K : Keep t size enc ok) {B : Nat} {out out' : Sl α} {w w' : World} {x : α} (h : Rw t size enc ok B out w) (hx : ok w B x) (hL : out'.L = out.L ++ [x]) (ho : OwnR t size enc w' B out'.val out'.L) (hg : GExt w w' out.val out'.val) : Rw t size enc ok B out' w' := by
  refine ⟨ho, fun y hy => ?_⟩
  rw [hL] at hy
  rcases List.mem_append.1 hy with hy | hy
  · exact K.app (h.2 y hy) h.1 hg.1
  · rw [List.mem_singleton.1 hy]
    exact K.app hx h.1 hg.1
/-- The boxes of Get. -/
structure GetR (w : World) (B ga gm : Nat) (n e : Int) (cs : Array Value) (wr : World) : Prop where
  bel : Below w.heap.size w wr
  siz : B ≤ wr.heap.size
  a : Blk wr ga 97 #[.int .i64 n, .int .i64 e]
  m : Blk wr gm 28 cs
  r : Blk wr w.heap.size 28 #[.int .i64 0, .float .f64 0, .slice none 0 0, .slice none 0 0, .slice none 0 0, .slice none 0 0]
structure GetB (w : World) (B ga gm : Nat) : Prop where
  a0 : w.heap.size < ga
  m0 : w.heap.size < gm
  am : ga ≠ gm
  a1 : ga < B
  m1 : gm < B
section
variable {w wr w' : World} {B ga gm : Nat} {n e : Int} {cs : Array Value}
theorem GetR.below (h : GetR w B ga gm n e cs wr) (hb : Below wr.heap.size wr w') : GetR w B ga gm n e cs w' := ⟨below_after h.bel hb, Nat.le_trans h.siz hb.size, h.a.below hb h.a.lt, h.m.below hb h.m.lt, h.r.below hb h.r.lt⟩
theorem GetR.far (h : GetR w B ga gm n e cs wr) (N : GetB w B ga gm) {p : Addr} (hp : B ≤ p.block) (u : Value) : GetR w B ga gm n e cs (wr.setCell p u) := by
  have h1 := N.a0
  have h2 := N.a1
  have h3 := N.m1
  exact ⟨h.bel.setCell (by omega) u, by simpa [World.setCell] using h.siz, h.a.far (by omega) u, h.m.far (by omega) u, h.r.far (by omega) u⟩
theorem GetR.app (h : GetR w B ga gm n e cs wr) (N : GetB w B ga gm) {row : Option Nat} (hg : wr.grownBy w' row) (hr : ∀ k, row = some k → B ≤ k) : GetR w B ga gm n e cs w' := by
  have h1 := N.a0
  have h2 := N.a1
  have h3 := N.m1
  refine ⟨h.bel.grown hg h.bel.size fun k hk => by have := hr k hk; omega, Nat.le_trans h.siz hg.size, h.a.grown hg fun e => by have := hr _ e.symm; omega, h.m.grown hg fun e => by have := hr _ e.symm; omega, h.r.grown hg fun e => by have := hr _ e.symm; omega⟩
theorem GetR.setm (h : GetR w B ga gm n e cs wr) (N : GetB w B ga gm) (i : Nat) (u : Value) {cs' : Array Value} (hcs : cs.setIfInBounds i u = cs') : GetR w B ga gm n e cs' (wr.setCell ⟨gm, i, none⟩ u) :=
  ⟨h.bel.setCell (Nat.le_of_lt N.m0) u, by simpa [World.setCell] using h.siz, h.a.far N.am u, hcs ▸ h.m.set_ i u, h.r.far (Nat.ne_of_lt N.m0) u⟩
theorem GetR.seta (h : GetR w B ga gm n e cs wr) (N : GetB w B ga gm) (n' e' : Int) : GetR w B ga gm n' e' cs ((wr.setCell ⟨ga, 0, none⟩ (.int .i64 n')).setCell ⟨ga, 1, none⟩ (.int .i64 e')) := by
  have hg := Nat.le_of_lt N.a0
  refine ⟨(h.bel.setCell hg _).setCell hg _, by simpa [World.setCell] using h.siz, by simpa using (h.a.set_ 0 (.int .i64 n')).set_ 1 (.int .i64 e'), (h.m.far (p := ⟨ga, 0, none⟩) N.am.symm _).far (p := ⟨ga, 1, none⟩) N.am.symm _, (h.r.far (p := ⟨ga, 0, none⟩) (Nat.ne_of_lt N.a0) _).far (p := ⟨ga, 1, none⟩) (Nat.ne_of_lt N.a0) _⟩
end
/-- What stands behind n statements. -/
def restOf : Nat → Code → Code
  | 0, c => c
  | n + 1, .seq _ b => restOf n b
  | _ + 1, c => c
noncomputable def tailC : Code := restOf 12 (Try.f27.body.getD .skip)
set_option maxHeartbeats 4000000 in
theorem tail_err (s : ByteArray) (w wr : World) (Post : Ending → World → Prop) (B ga gm : Nat) (n e sd : Int) (f : Nat) (dA : Option Addr) (dc : Nat) (dl : List Nat) (pA : Option Addr) (pc : Nat) (pl : List (Sl Ins4)) (lA : Option Addr) (lc : Nat) (ll : List LP2) (iA : Option Addr) (ic : Nat) (il : List Init3) (c1 c4 c6 c8 c9 c10 c11 c12 c13 c14 c15 c16 c17 c18 c19 c20 c21 c22 c23 c24 c25 c26 c27 c28 c29 c30 c31 c32 c33 c34 c35 c36 c37 c38 c39 c40 c41 c42 c43 c44 c45 c46 c47 c48 c49 c50 c51 c52 c53 c54 c55 c56 c57 c58 c59 c60 c61 c62 c63 c64 c65 c66 c67 c68 c69 c70 c71 c72 c73 c74 c75 c76 c77 c78 c79 c80 c81 c82 c83 c84 c85 c86 c87 c88 c89 c90 c91 c92 c93 c94 c95 c96 c97 c98 c99 c100 c101 c102 c103 c104 c105 c106 c107 c108 c109 c110 c111 c112 c113 c114 c115 c116 c117 c118 c119 c120 c121 c122 c123 c124 c125 c126 c127 c128 c129 c130 c131 c132 c133 c134 c135 c136 c137 c138 c139 c140 c141 c142 c143 c144 c145 c146 c147 c148 c149 c150 c151 c152 c153 c154 c155 c156 c157 c158 c159 c160 c161 c162 c163 c164 c165 c166 c167 c168 c169 c170 c171 c172 c173 c174 c175 c176 c177 c178 c179 c180 c181 c182 c183 c184 c185 c186 c187 c188 : Value)
    (hsz : s.size ≤ 9223372036854775807)
    (HGOT : Hid (∀ m w', m.At w' → modOf m = getM s → Below w.heap.size w w' → Post (.returned (.tuple #[m.val, .int .i64 (getE s)])) w'))
    (HN : Hid (GetB w B ga gm)) (HG : Hid (GetR w B ga gm n e #[.int .i64 sd, .float .f64 f, .slice dA dl.length dc, .slice pA pl.length pc, .slice lA ll.length lc, .slice iA il.length ic] wr)) (HNF : Hid (I64 sd ∧ f < 18446744073709551616)) (HR4 : Hid (Rows4 B (⟨sd, f, ⟨dA, dc, dl⟩, ⟨pA, pc, pl⟩, ⟨lA, lc, ll⟩, ⟨iA, ic, il⟩⟩ : Mdl) wr))
    (he : e ≠ 0) (HGE : Hid (getE s = e ∧ getM s = emptyM)) : Code.wp Try.prog tailC (bodyPost Try.prog Try.f27 Post) ⟨#[.string s, c1, .pointer (some ⟨w.heap.size, 0, none⟩), .int .i64 0, c4, .pointer (some ⟨ga, 0, none⟩), c6, .pointer (some ⟨gm, 0, none⟩), c8, c9, c10, c11, c12, c13, c14, c15, c16, c17, c18, c19, c20, c21, c22, c23, c24, c25, c26, c27, c28, c29, c30, c31, c32, c33, c34, c35, c36, c37, c38, c39, c40, c41, c42, c43, c44, c45, c46, c47, c48, c49, c50, c51, c52, c53, c54, c55, c56, c57, c58, c59, c60, c61, c62, c63, c64, c65, c66, c67, c68, c69, c70, c71, c72, c73, c74, c75, c76, c77, c78, c79, c80, c81, c82, c83, c84, c85, c86, c87, c88, c89, c90, c91, c92, c93, c94, c95, c96, c97, c98, c99, c100, c101, c102, c103, c104, c105, c106, c107, c108, c109, c110, c111, c112, c113, c114, c115, c116, c117, c118, c119, c120, c121, c122, c123, c124, c125, c126, c127, c128, c129, c130, c131, c132, c133, c134, c135, c136, c137, c138, c139, c140, c141, c142, c143, c144, c145, c146, c147, c148, c149, c150, c151, c152, c153, c154, c155, c156, c157, c158, c159, c160, c161, c162, c163, c164, c165, c166, c167, c168, c169, c170, c171, c172, c173, c174, c175, c176, c177, c178, c179, c180, c181, c182, c183, c184, c185, c186, c187, c188], []⟩ wr := by
  conv => arg 2; whnf
  have a0 := HG.out.a.cell 0
  have a1 := HG.out.a.cell 1
  simp only [List.getElem?_toArray, List.getElem?_cons_zero, List.getElem?_cons_succ] at a0 a1
  have hO := HG.out.r
  have r0 := hO.cell 0
  have q0 := hO.frozen 0
  have r1 := hO.cell 1
  have q1 := hO.frozen 1
  have r2 := hO.cell 2
  have q2 := hO.frozen 2
  have r3 := hO.cell 3
  have q3 := hO.frozen 3
  have r4 := hO.cell 4
  have q4 := hO.frozen 4
  have r5 := hO.cell 5
  have q5 := hO.frozen 5
  simp only [List.getElem?_toArray, List.getElem?_cons_zero, List.getElem?_cons_succ] at r0 r1 r2 r3 r4 r5
  clear hO
  have z1 : ¬ ga = w.heap.size := by have := HN.out.a0; omega
  have z2 : ¬ w.heap.size = ga := by have := HN.out.a0; omega
  go_wp2_with fail
  go_region
  go_wp2_with fail
  refine bodyPost_ret (v := .tuple #[.agg #[.int .i64 0, .float .f64 0, .slice none 0 0, .slice none 0 0, .slice none 0 0, .slice none 0 0], .int .i64 e]) (by simp [results, Try.results27, go_sem, r0, r1, r2, r3, r4, r5]) rfl ?_
  have hfin := fun W9 hb9 => HGOT.out noMdl W9 (noMdl_at W9) (noMdl_mod.trans HGE.out.2.symm) hb9
  rw [HGE.out.1] at hfin
  exact hfin _ ((((((((HG.out.bel).setCell (Nat.le_refl _) _).setCell (Nat.le_refl _) _).setCell (Nat.le_refl _) _).setCell (Nat.le_refl _) _).setCell (Nat.le_refl _) _).setCell (Nat.le_refl _) _).drew)
set_option maxHeartbeats 4000000 in
theorem tail_long (s : ByteArray) (w wr : World) (Post : Ending → World → Prop) (B ga gm : Nat) (n e sd : Int) (f : Nat) (dA : Option Addr) (dc : Nat) (dl : List Nat) (pA : Option Addr) (pc : Nat) (pl : List (Sl Ins4)) (lA : Option Addr) (lc : Nat) (ll : List LP2) (iA : Option Addr) (ic : Nat) (il : List Init3) (c1 c4 c6 c8 c9 c10 c11 c12 c13 c14 c15 c16 c17 c18 c19 c20 c21 c22 c23 c24 c25 c26 c27 c28 c29 c30 c31 c32 c33 c34 c35 c36 c37 c38 c39 c40 c41 c42 c43 c44 c45 c46 c47 c48 c49 c50 c51 c52 c53 c54 c55 c56 c57 c58 c59 c60 c61 c62 c63 c64 c65 c66 c67 c68 c69 c70 c71 c72 c73 c74 c75 c76 c77 c78 c79 c80 c81 c82 c83 c84 c85 c86 c87 c88 c89 c90 c91 c92 c93 c94 c95 c96 c97 c98 c99 c100 c101 c102 c103 c104 c105 c106 c107 c108 c109 c110 c111 c112 c113 c114 c115 c116 c117 c118 c119 c120 c121 c122 c123 c124 c125 c126 c127 c128 c129 c130 c131 c132 c133 c134 c135 c136 c137 c138 c139 c140 c141 c142 c143 c144 c145 c146 c147 c148 c149 c150 c151 c152 c153 c154 c155 c156 c157 c158 c159 c160 c161 c162 c163 c164 c165 c166 c167 c168 c169 c170 c171 c172 c173 c174 c175 c176 c177 c178 c179 c180 c181 c182 c183 c184 c185 c186 c187 c188 : Value)
    (hsz : s.size ≤ 9223372036854775807)
    (HGOT : Hid (∀ m w', m.At w' → modOf m = getM s → Below w.heap.size w w' → Post (.returned (.tuple #[m.val, .int .i64 (getE s)])) w'))
    (HN : Hid (GetB w B ga gm)) (HG : Hid (GetR w B ga gm n e #[.int .i64 sd, .float .f64 f, .slice dA dl.length dc, .slice pA pl.length pc, .slice lA ll.length lc, .slice iA il.length ic] wr)) (HNF : Hid (I64 sd ∧ f < 18446744073709551616)) (HR4 : Hid (Rows4 B (⟨sd, f, ⟨dA, dc, dl⟩, ⟨pA, pc, pl⟩, ⟨lA, lc, ll⟩, ⟨iA, ic, il⟩⟩ : Mdl) wr))
    (he : e = 0) (hn : (n : Int) < (s.size : Int)) (HGE : Hid (getE s = 6 ∧ getM s = emptyM)) : Code.wp Try.prog tailC (bodyPost Try.prog Try.f27 Post) ⟨#[.string s, c1, .pointer (some ⟨w.heap.size, 0, none⟩), .int .i64 0, c4, .pointer (some ⟨ga, 0, none⟩), c6, .pointer (some ⟨gm, 0, none⟩), c8, c9, c10, c11, c12, c13, c14, c15, c16, c17, c18, c19, c20, c21, c22, c23, c24, c25, c26, c27, c28, c29, c30, c31, c32, c33, c34, c35, c36, c37, c38, c39, c40, c41, c42, c43, c44, c45, c46, c47, c48, c49, c50, c51, c52, c53, c54, c55, c56, c57, c58, c59, c60, c61, c62, c63, c64, c65, c66, c67, c68, c69, c70, c71, c72, c73, c74, c75, c76, c77, c78, c79, c80, c81, c82, c83, c84, c85, c86, c87, c88, c89, c90, c91, c92, c93, c94, c95, c96, c97, c98, c99, c100, c101, c102, c103, c104, c105, c106, c107, c108, c109, c110, c111, c112, c113, c114, c115, c116, c117, c118, c119, c120, c121, c122, c123, c124, c125, c126, c127, c128, c129, c130, c131, c132, c133, c134, c135, c136, c137, c138, c139, c140, c141, c142, c143, c144, c145, c146, c147, c148, c149, c150, c151, c152, c153, c154, c155, c156, c157, c158, c159, c160, c161, c162, c163, c164, c165, c166, c167, c168, c169, c170, c171, c172, c173, c174, c175, c176, c177, c178, c179, c180, c181, c182, c183, c184, c185, c186, c187, c188], []⟩ wr := by
  conv => arg 2; whnf
  have a0 := HG.out.a.cell 0
  have a1 := HG.out.a.cell 1
  simp only [List.getElem?_toArray, List.getElem?_cons_zero, List.getElem?_cons_succ] at a0 a1
  subst he
  have hO := HG.out.r
  have r0 := hO.cell 0
  have q0 := hO.frozen 0
  have r1 := hO.cell 1
  have q1 := hO.frozen 1
  have r2 := hO.cell 2
  have q2 := hO.frozen 2
  have r3 := hO.cell 3
  have q3 := hO.frozen 3
  have r4 := hO.cell 4
  have q4 := hO.frozen 4
  have r5 := hO.cell 5
  have q5 := hO.frozen 5
  simp only [List.getElem?_toArray, List.getElem?_cons_zero, List.getElem?_cons_succ] at r0 r1 r2 r3 r4 r5
  clear hO
  go_wp2_with fail
  refine bodyPost_ret (v := .tuple #[.agg #[.int .i64 0, .float .f64 0, .slice none 0 0, .slice none 0 0, .slice none 0 0, .slice none 0 0], .int .i64 6]) (by simp [results, Try.results27, go_sem, r0, r1, r2, r3, r4, r5]) rfl ?_
  have hfin := fun W9 hb9 => HGOT.out noMdl W9 (noMdl_at W9) (noMdl_mod.trans HGE.out.2.symm) hb9
  rw [HGE.out.1] at hfin
  exact hfin _ (((((((HG.out.bel).setCell (Nat.le_refl _) _).setCell (Nat.le_refl _) _).setCell (Nat.le_refl _) _).setCell (Nat.le_refl _) _).setCell (Nat.le_refl _) _).setCell (Nat.le_refl _) _)
set_option maxHeartbeats 4000000 in
theorem tail_good (s : ByteArray) (w wr : World) (Post : Ending → World → Prop) (B ga gm : Nat) (n e sd : Int) (f : Nat) (dA : Option Addr) (dc : Nat) (dl : List Nat) (pA : Option Addr) (pc : Nat) (pl : List (Sl Ins4)) (lA : Option Addr) (lc : Nat) (ll : List LP2) (iA : Option Addr) (ic : Nat) (il : List Init3) (c1 c4 c6 c8 c9 c10 c11 c12 c13 c14 c15 c16 c17 c18 c19 c20 c21 c22 c23 c24 c25 c26 c27 c28 c29 c30 c31 c32 c33 c34 c35 c36 c37 c38 c39 c40 c41 c42 c43 c44 c45 c46 c47 c48 c49 c50 c51 c52 c53 c54 c55 c56 c57 c58 c59 c60 c61 c62 c63 c64 c65 c66 c67 c68 c69 c70 c71 c72 c73 c74 c75 c76 c77 c78 c79 c80 c81 c82 c83 c84 c85 c86 c87 c88 c89 c90 c91 c92 c93 c94 c95 c96 c97 c98 c99 c100 c101 c102 c103 c104 c105 c106 c107 c108 c109 c110 c111 c112 c113 c114 c115 c116 c117 c118 c119 c120 c121 c122 c123 c124 c125 c126 c127 c128 c129 c130 c131 c132 c133 c134 c135 c136 c137 c138 c139 c140 c141 c142 c143 c144 c145 c146 c147 c148 c149 c150 c151 c152 c153 c154 c155 c156 c157 c158 c159 c160 c161 c162 c163 c164 c165 c166 c167 c168 c169 c170 c171 c172 c173 c174 c175 c176 c177 c178 c179 c180 c181 c182 c183 c184 c185 c186 c187 c188 : Value)
    (hsz : s.size ≤ 9223372036854775807)
    (HGOT : Hid (∀ m w', m.At w' → modOf m = getM s → Below w.heap.size w w' → Post (.returned (.tuple #[m.val, .int .i64 (getE s)])) w'))
    (HN : Hid (GetB w B ga gm)) (HG : Hid (GetR w B ga gm n e #[.int .i64 sd, .float .f64 f, .slice dA dl.length dc, .slice pA pl.length pc, .slice lA ll.length lc, .slice iA il.length ic] wr)) (HNF : Hid (I64 sd ∧ f < 18446744073709551616)) (HR4 : Hid (Rows4 B (⟨sd, f, ⟨dA, dc, dl⟩, ⟨pA, pc, pl⟩, ⟨lA, lc, ll⟩, ⟨iA, ic, il⟩⟩ : Mdl) wr))
    (he : e = 0) (hn : ¬ (n : Int) < (s.size : Int)) (HCK : Hid (chkE (⟨sd, f, ⟨dA, dc, dl⟩, ⟨pA, pc, pl⟩, ⟨lA, lc, ll⟩, ⟨iA, ic, il⟩⟩ : Mdl) = 0)) (HG3 : Hid (getE s = 0 ∧ getM s = modOf (⟨sd, f, ⟨dA, dc, dl⟩, ⟨pA, pc, pl⟩, ⟨lA, lc, ll⟩, ⟨iA, ic, il⟩⟩ : Mdl))) : Code.wp Try.prog tailC (bodyPost Try.prog Try.f27 Post) ⟨#[.string s, c1, .pointer (some ⟨w.heap.size, 0, none⟩), .int .i64 0, c4, .pointer (some ⟨ga, 0, none⟩), c6, .pointer (some ⟨gm, 0, none⟩), c8, c9, c10, c11, c12, c13, c14, c15, c16, c17, c18, c19, c20, c21, c22, c23, c24, c25, c26, c27, c28, c29, c30, c31, c32, c33, c34, c35, c36, c37, c38, c39, c40, c41, c42, c43, c44, c45, c46, c47, c48, c49, c50, c51, c52, c53, c54, c55, c56, c57, c58, c59, c60, c61, c62, c63, c64, c65, c66, c67, c68, c69, c70, c71, c72, c73, c74, c75, c76, c77, c78, c79, c80, c81, c82, c83, c84, c85, c86, c87, c88, c89, c90, c91, c92, c93, c94, c95, c96, c97, c98, c99, c100, c101, c102, c103, c104, c105, c106, c107, c108, c109, c110, c111, c112, c113, c114, c115, c116, c117, c118, c119, c120, c121, c122, c123, c124, c125, c126, c127, c128, c129, c130, c131, c132, c133, c134, c135, c136, c137, c138, c139, c140, c141, c142, c143, c144, c145, c146, c147, c148, c149, c150, c151, c152, c153, c154, c155, c156, c157, c158, c159, c160, c161, c162, c163, c164, c165, c166, c167, c168, c169, c170, c171, c172, c173, c174, c175, c176, c177, c178, c179, c180, c181, c182, c183, c184, c185, c186, c187, c188], []⟩ wr := by
  conv => arg 2; whnf
  have a0 := HG.out.a.cell 0
  have a1 := HG.out.a.cell 1
  simp only [List.getElem?_toArray, List.getElem?_cons_zero, List.getElem?_cons_succ] at a0 a1
  subst he
  have hAT := HR4.out.at_ HNF.out.1 HNF.out.2
  have hchk := rcheck_any (⟨sd, f, ⟨dA, dc, dl⟩, ⟨pA, pc, pl⟩, ⟨lA, lc, ll⟩, ⟨iA, ic, il⟩⟩ : Mdl) wr hAT
  have m0 := HG.out.m.cell 0
  have m1 := HG.out.m.cell 1
  have m2 := HG.out.m.cell 2
  have m3 := HG.out.m.cell 3
  have m4 := HG.out.m.cell 4
  have m5 := HG.out.m.cell 5
  simp only [List.getElem?_toArray, List.getElem?_cons_zero, List.getElem?_cons_succ] at m0 m1 m2 m3 m4 m5
  rw [HCK.out] at hchk
  simp only [Mdl.val, Sl.val] at hchk
  clear hAT
  go_wp2_with fail
  refine hchk.mono ?_
  rintro en w9 ⟨rfl, hb9⟩
  have HG9 := hide (HG.out.below hb9)
  have HR9 := hide (show Rows4 B (⟨sd, f, ⟨dA, dc, dl⟩, ⟨pA, pc, pl⟩, ⟨lA, lc, ll⟩, ⟨iA, ic, il⟩⟩ : Mdl) w9 from HR4.out.g (only_of_below hb9 (some ga)) HN.out.a1)
  clear m0 m1 m2 m3 m4 m5
  have m0 := HG9.out.m.cell 0
  have m1 := HG9.out.m.cell 1
  have m2 := HG9.out.m.cell 2
  have m3 := HG9.out.m.cell 3
  have m4 := HG9.out.m.cell 4
  have m5 := HG9.out.m.cell 5
  simp only [List.getElem?_toArray, List.getElem?_cons_zero, List.getElem?_cons_succ] at m0 m1 m2 m3 m4 m5
  have hO := HG9.out.r
  have r0 := hO.cell 0
  have q0 := hO.frozen 0
  have r1 := hO.cell 1
  have q1 := hO.frozen 1
  have r2 := hO.cell 2
  have q2 := hO.frozen 2
  have r3 := hO.cell 3
  have q3 := hO.frozen 3
  have r4 := hO.cell 4
  have q4 := hO.frozen 4
  have r5 := hO.cell 5
  have q5 := hO.frozen 5
  simp only [List.getElem?_toArray, List.getElem?_cons_zero, List.getElem?_cons_succ] at r0 r1 r2 r3 r4 r5
  clear hO
  clear hb9 a0 a1 hchk
  go_wp2_with fail
  refine bodyPost_ret (v := .tuple #[.agg #[.int .i64 sd, .float .f64 f, .slice dA dl.length dc, .slice pA pl.length pc, .slice lA ll.length lc, .slice iA il.length ic], .int .i64 0]) (by simp [results, Try.results27, go_sem, r0, r1, r2, r3, r4, r5]) rfl ?_
  have hlt9 : w.heap.size < B := Nat.lt_trans HN.out.a0 HN.out.a1
  have hfin := fun W9 hat9 hb9 => HGOT.out (⟨sd, f, ⟨dA, dc, dl⟩, ⟨pA, pc, pl⟩, ⟨lA, lc, ll⟩, ⟨iA, ic, il⟩⟩ : Mdl) W9 hat9 HG3.out.2.symm hb9
  rw [HG3.out.1] at hfin
  exact hfin _ (((((((HR9.out.set (p := ⟨w.heap.size, 0, none⟩) hlt9 _).set (p := ⟨w.heap.size, 1, none⟩) hlt9 _).set (p := ⟨w.heap.size, 2, none⟩) hlt9 _).set (p := ⟨w.heap.size, 3, none⟩) hlt9 _).set (p := ⟨w.heap.size, 4, none⟩) hlt9 _).set (p := ⟨w.heap.size, 5, none⟩) hlt9 _).at_ HNF.out.1 HNF.out.2) (((((((HG9.out.bel).setCell (Nat.le_refl _) _).setCell (Nat.le_refl _) _).setCell (Nat.le_refl _) _).setCell (Nat.le_refl _) _).setCell (Nat.le_refl _) _).setCell (Nat.le_refl _) _)
set_option maxHeartbeats 4000000 in
theorem tail_bad (s : ByteArray) (w wr : World) (Post : Ending → World → Prop) (B ga gm : Nat) (n e sd : Int) (f : Nat) (dA : Option Addr) (dc : Nat) (dl : List Nat) (pA : Option Addr) (pc : Nat) (pl : List (Sl Ins4)) (lA : Option Addr) (lc : Nat) (ll : List LP2) (iA : Option Addr) (ic : Nat) (il : List Init3) (c1 c4 c6 c8 c9 c10 c11 c12 c13 c14 c15 c16 c17 c18 c19 c20 c21 c22 c23 c24 c25 c26 c27 c28 c29 c30 c31 c32 c33 c34 c35 c36 c37 c38 c39 c40 c41 c42 c43 c44 c45 c46 c47 c48 c49 c50 c51 c52 c53 c54 c55 c56 c57 c58 c59 c60 c61 c62 c63 c64 c65 c66 c67 c68 c69 c70 c71 c72 c73 c74 c75 c76 c77 c78 c79 c80 c81 c82 c83 c84 c85 c86 c87 c88 c89 c90 c91 c92 c93 c94 c95 c96 c97 c98 c99 c100 c101 c102 c103 c104 c105 c106 c107 c108 c109 c110 c111 c112 c113 c114 c115 c116 c117 c118 c119 c120 c121 c122 c123 c124 c125 c126 c127 c128 c129 c130 c131 c132 c133 c134 c135 c136 c137 c138 c139 c140 c141 c142 c143 c144 c145 c146 c147 c148 c149 c150 c151 c152 c153 c154 c155 c156 c157 c158 c159 c160 c161 c162 c163 c164 c165 c166 c167 c168 c169 c170 c171 c172 c173 c174 c175 c176 c177 c178 c179 c180 c181 c182 c183 c184 c185 c186 c187 c188 : Value)
    (hsz : s.size ≤ 9223372036854775807)
    (HGOT : Hid (∀ m w', m.At w' → modOf m = getM s → Below w.heap.size w w' → Post (.returned (.tuple #[m.val, .int .i64 (getE s)])) w'))
    (HN : Hid (GetB w B ga gm)) (HG : Hid (GetR w B ga gm n e #[.int .i64 sd, .float .f64 f, .slice dA dl.length dc, .slice pA pl.length pc, .slice lA ll.length lc, .slice iA il.length ic] wr)) (HNF : Hid (I64 sd ∧ f < 18446744073709551616)) (HR4 : Hid (Rows4 B (⟨sd, f, ⟨dA, dc, dl⟩, ⟨pA, pc, pl⟩, ⟨lA, lc, ll⟩, ⟨iA, ic, il⟩⟩ : Mdl) wr))
    (he : e = 0) (hn : ¬ (n : Int) < (s.size : Int)) (HCK : Hid (chkE (⟨sd, f, ⟨dA, dc, dl⟩, ⟨pA, pc, pl⟩, ⟨lA, lc, ll⟩, ⟨iA, ic, il⟩⟩ : Mdl) = 15)) (HGE : Hid (getE s = 15 ∧ getM s = emptyM)) : Code.wp Try.prog tailC (bodyPost Try.prog Try.f27 Post) ⟨#[.string s, c1, .pointer (some ⟨w.heap.size, 0, none⟩), .int .i64 0, c4, .pointer (some ⟨ga, 0, none⟩), c6, .pointer (some ⟨gm, 0, none⟩), c8, c9, c10, c11, c12, c13, c14, c15, c16, c17, c18, c19, c20, c21, c22, c23, c24, c25, c26, c27, c28, c29, c30, c31, c32, c33, c34, c35, c36, c37, c38, c39, c40, c41, c42, c43, c44, c45, c46, c47, c48, c49, c50, c51, c52, c53, c54, c55, c56, c57, c58, c59, c60, c61, c62, c63, c64, c65, c66, c67, c68, c69, c70, c71, c72, c73, c74, c75, c76, c77, c78, c79, c80, c81, c82, c83, c84, c85, c86, c87, c88, c89, c90, c91, c92, c93, c94, c95, c96, c97, c98, c99, c100, c101, c102, c103, c104, c105, c106, c107, c108, c109, c110, c111, c112, c113, c114, c115, c116, c117, c118, c119, c120, c121, c122, c123, c124, c125, c126, c127, c128, c129, c130, c131, c132, c133, c134, c135, c136, c137, c138, c139, c140, c141, c142, c143, c144, c145, c146, c147, c148, c149, c150, c151, c152, c153, c154, c155, c156, c157, c158, c159, c160, c161, c162, c163, c164, c165, c166, c167, c168, c169, c170, c171, c172, c173, c174, c175, c176, c177, c178, c179, c180, c181, c182, c183, c184, c185, c186, c187, c188], []⟩ wr := by
  conv => arg 2; whnf
  have a0 := HG.out.a.cell 0
  have a1 := HG.out.a.cell 1
  simp only [List.getElem?_toArray, List.getElem?_cons_zero, List.getElem?_cons_succ] at a0 a1
  subst he
  have hAT := HR4.out.at_ HNF.out.1 HNF.out.2
  have hchk := rcheck_any (⟨sd, f, ⟨dA, dc, dl⟩, ⟨pA, pc, pl⟩, ⟨lA, lc, ll⟩, ⟨iA, ic, il⟩⟩ : Mdl) wr hAT
  have m0 := HG.out.m.cell 0
  have m1 := HG.out.m.cell 1
  have m2 := HG.out.m.cell 2
  have m3 := HG.out.m.cell 3
  have m4 := HG.out.m.cell 4
  have m5 := HG.out.m.cell 5
  simp only [List.getElem?_toArray, List.getElem?_cons_zero, List.getElem?_cons_succ] at m0 m1 m2 m3 m4 m5
  rw [HCK.out] at hchk
  simp only [Mdl.val, Sl.val] at hchk
  clear hAT
  go_wp2_with fail
  refine hchk.mono ?_
  rintro en w9 ⟨rfl, hb9⟩
  have HG9 := hide (HG.out.below hb9)
  clear m0 m1 m2 m3 m4 m5
  have hO := HG9.out.r
  have r0 := hO.cell 0
  have q0 := hO.frozen 0
  have r1 := hO.cell 1
  have q1 := hO.frozen 1
  have r2 := hO.cell 2
  have q2 := hO.frozen 2
  have r3 := hO.cell 3
  have q3 := hO.frozen 3
  have r4 := hO.cell 4
  have q4 := hO.frozen 4
  have r5 := hO.cell 5
  have q5 := hO.frozen 5
  simp only [List.getElem?_toArray, List.getElem?_cons_zero, List.getElem?_cons_succ] at r0 r1 r2 r3 r4 r5
  clear hO
  clear hb9 a0 a1 hchk
  go_wp2_with fail
  refine bodyPost_ret (v := .tuple #[.agg #[.int .i64 0, .float .f64 0, .slice none 0 0, .slice none 0 0, .slice none 0 0, .slice none 0 0], .int .i64 15]) (by simp [results, Try.results27, go_sem, r0, r1, r2, r3, r4, r5]) rfl ?_
  have hfin := fun W9 hb9 => HGOT.out noMdl W9 (noMdl_at W9) (noMdl_mod.trans HGE.out.2.symm) hb9
  rw [HGE.out.1] at hfin
  exact hfin _ (((((((HG9.out.bel).setCell (Nat.le_refl _) _).setCell (Nat.le_refl _) _).setCell (Nat.le_refl _) _).setCell (Nat.le_refl _) _).setCell (Nat.le_refl _) _).setCell (Nat.le_refl _) _)
end Go.Proofs.Ytegegljpmelomaa
namespace Go.Proofs.Ytegegljpmelomaa
open Go.RowKit Go.Deep
attribute [local go_sem] run_store_float

def TestC (b : Value) (wr wx : World) (k : Nat) (v : Int) (st : RSt) : Prop := ∃ bb, b = .bool bb ∧ wr = wx ∧ ((bb = true ∧ (k : Int) < v ∧ ∃ ws, st = .ok ws) ∨ (bb = false ∧ ∀ ws, st = .ok ws → ¬ (k : Int) < v))
def GRelD (w : World) (B ga gm : Nat) (s : ByteArray) (sd : Int) (f : Nat) (v : Int) (T : Mio.Rd (List (Nat))) (i : Value) (wr : World) : Prop :=
  ∃ (k : Nat) (out : Sl (Nat)) (st : RSt) (n e : Int), i = .int .i64 k ∧ GetR w B ga gm n e #[.int .i64 sd, .float .f64 f, out.val, .slice none 0 0, .slice none 0 0, .slice none 0 0] wr ∧ Rw 22 1 encFl okFl B out wr ∧ out.L.length ≤ k ∧ k ≤ 48 ∧ RefSt s st n e ∧ Going id Mio.pF v T k out.L st
def GRelP (w : World) (B ga gm : Nat) (s : ByteArray) (sd : Int) (f : Nat) (xD : Sl (Nat)) (v : Int) (T : Mio.Rd (List (List Ins4))) (i : Value) (wr : World) : Prop :=
  ∃ (k : Nat) (out : Sl (Sl Ins4)) (st : RSt) (n e : Int), i = .int .i64 k ∧ GetR w B ga gm n e #[.int .i64 sd, .float .f64 f, xD.val, out.val, .slice none 0 0, .slice none 0 0] wr ∧ Rw 22 1 encFl okFl B xD wr ∧ Rw 38 1 encSl okPr B out wr ∧ out.L.length ≤ k ∧ k ≤ 48 ∧ RefSt s st n e ∧ Going (fun x : Sl Ins4 => x.L) (Mio.pL Mio.pIns) v T k out.L st
def GRelL (w : World) (B ga gm : Nat) (s : ByteArray) (sd : Int) (f : Nat) (xD : Sl (Nat)) (xP : Sl (Sl Ins4)) (v : Int) (T : Mio.Rd (List (Int × List Int))) (i : Value) (wr : World) : Prop :=
  ∃ (k : Nat) (out : Sl (LP2)) (st : RSt) (n e : Int), i = .int .i64 k ∧ GetR w B ga gm n e #[.int .i64 sd, .float .f64 f, xD.val, xP.val, out.val, .slice none 0 0] wr ∧ Rw 22 1 encFl okFl B xD wr ∧ Rw 38 1 encSl okPr B xP wr ∧ Rw 41 2 encLp okLp B out wr ∧ out.L.length ≤ k ∧ k ≤ 48 ∧ RefSt s st n e ∧ Going (fun x : LP2 => (x.1, x.2.L)) Mio.pLP v T k out.L st
def GRelI (w : World) (B ga gm : Nat) (s : ByteArray) (sd : Int) (f : Nat) (xD : Sl (Nat)) (xP : Sl (Sl Ins4)) (xL : Sl (LP2)) (v : Int) (T : Mio.Rd (List (Init3))) (i : Value) (wr : World) : Prop :=
  ∃ (k : Nat) (out : Sl (Init3)) (st : RSt) (n e : Int), i = .int .i64 k ∧ GetR w B ga gm n e #[.int .i64 sd, .float .f64 f, xD.val, xP.val, xL.val, out.val] wr ∧ Rw 22 1 encFl okFl B xD wr ∧ Rw 38 1 encSl okPr B xP wr ∧ Rw 41 2 encLp okLp B xL wr ∧ Rw 43 3 encInit okIni B out wr ∧ out.L.length ≤ k ∧ k ≤ 48 ∧ RefSt s st n e ∧ Going id Mio.pIni v T k out.L st
set_option maxHeartbeats 16000000 in
theorem rget_any (s : ByteArray) (w : World) (hs : s.size ≤ 9223372036854775807) : Calls Try.prog 27 #[.string s] w (GotRd w s) := by
  have HGOT := hide (show ∀ m w', m.At w' → modOf m = getM s → Below w.heap.size w w' → GotRd w s (.returned (.tuple #[m.val, .int .i64 (getE s)])) w' from fun m w' a b c => ⟨m, rfl, a, b, c⟩)
  generalize GotRd w s = Post at *
  have HB0 := hide (show Below w.heap.size w (w.alloc (.cells #[.int .i64 0, .float .f64 0, .slice none 0 0, .slice none 0 0, .slice none 0 0, .slice none 0 0] 28)) from (Below.refl _ _).alloc (Nat.le_refl _) _)
  have hR := Blk.new w 28 #[.int .i64 0, .float .f64 0, .slice none 0 0, .slice none 0 0, .slice none 0 0, .slice none 0 0]
  have HR0 := hide hR
  have hk := fun W => rint_any hs (st := .ok (wordsOf s)) (n := 0) (e := 0) ⟨0, rfl, Nat.zero_le _, rfl, rfl⟩ W
  clear hR
  go_enter Try.func27, Try.ntmps27
  go_wp2_with fail
  refine (hk _).mono ?_
  rintro en w1 ⟨sd, n1, e1, rfl, i1, hr1, c1, hb1⟩
  clear hk
  go_upto_region 2 with fail
  have hbx := below_after hb1 ((Below.refl w1.heap.size w1).alloc (Nat.le_refl _) (.cells #[.int .i64 n1, .int .i64 e1] 97))
  have HB1 := hide (below_after HB0.out hbx)
  have HR1 := hide (HR0.out.below hbx HR0.out.lt)
  have HA1 := hide (Blk.new w1 97 #[.int .i64 n1, .int .i64 e1])
  have HZ1 := hide (show w.heap.size < w1.heap.size from Nat.lt_of_lt_of_le HR0.out.lt hb1.size)
  clear hbx hb1 HB0 HR0
  generalize w1.alloc (.cells #[.int .i64 n1, .int .i64 e1] 97) = wa at *
  generalize w1.heap.size = ga at *
  have hk := rfloat_any6 hs hr1 wa
  have a0 := HA1.out.cell 0
  have a1 := HA1.out.cell 1
  simp only [List.getElem?_toArray, List.getElem?_cons_zero, List.getElem?_cons_succ] at a0 a1
  go_wp2_with fail
  refine hk.mono ?_
  rintro en w2 ⟨f, n2, e2, rfl, i2, hr2, c2, hb2⟩
  have hA2 := HA1.out.below hb2 HA1.out.lt
  clear hk a0 a1
  have a0 := hA2.cell 0
  have a1 := hA2.cell 1
  simp only [List.getElem?_toArray, List.getElem?_cons_zero, List.getElem?_cons_succ] at a0 a1
  have d0 := hA2.frozen 0
  have d1 := hA2.frozen 1
  go_upto_region 3 with fail
  have HB2 := hide (((below_after HB1.out hb2).setCell (p := ⟨ga, 0, none⟩) (Nat.le_of_lt HZ1.out) (.int .i64 n2)).setCell (p := ⟨ga, 1, none⟩) (Nat.le_of_lt HZ1.out) (.int .i64 e2))
  have HR2 := hide (((HR1.out.below hb2 HR1.out.lt).far (p := ⟨ga, 0, none⟩) (Nat.ne_of_lt HZ1.out) (.int .i64 n2)).far (p := ⟨ga, 1, none⟩) (Nat.ne_of_lt HZ1.out) (.int .i64 e2))
  have hA3 := (hA2.set_ 0 (.int .i64 n2)).set_ 1 (.int .i64 e2)
  simp only [List.setIfInBounds_toArray, List.set_cons_zero, List.set_cons_succ] at hA3
  have HA3 := hide hA3
  clear a0 a1 d0 d1 hb2 hA2 hA3 HB1 HR1 HA1
  generalize (w2.setCell ⟨ga, 0, none⟩ (.int .i64 n2)).setCell ⟨ga, 1, none⟩ (.int .i64 e2) = wb at *
  go_upto_region 4 with fail
  have hbx := (Below.refl wb.heap.size wb).alloc (Nat.le_refl _) (.cells #[.int .i64 sd, .float .f64 f, .slice none 0 0, .slice none 0 0, .slice none 0 0, .slice none 0 0] 28)
  have hga : ga < wb.heap.size := HA3.out.lt
  have hG : GetR w (wb.heap.size + 1) ga wb.heap.size n2 e2 #[.int .i64 sd, .float .f64 f, .slice none 0 0, .slice none 0 0, .slice none 0 0, .slice none 0 0] (wb.alloc (.cells #[.int .i64 sd, .float .f64 f, .slice none 0 0, .slice none 0 0, .slice none 0 0, .slice none 0 0] 28)) := ⟨below_after HB2.out hbx, by simp, HA3.out.below hbx HA3.out.lt, Blk.new wb _ _, HR2.out.below hbx HR2.out.lt⟩
  have HG := hide hG
  have HN := hide (show GetB w (wb.heap.size + 1) ga wb.heap.size from ⟨HZ1.out, Nat.lt_trans HZ1.out hga, Nat.ne_of_lt hga, Nat.lt_succ_of_lt hga, Nat.lt_succ_self _⟩)
  have HNF := hide (And.intro i1 i2)
  have HC12 := hide (And.intro c1 c2)
  have HRS := hide (show RefSt s (sF (sI (.ok (wordsOf s)))) n2 e2 from hr2)
  clear hbx hga hG i1 i2 c1 c2 hr1 hr2 HB2 HR2 HA3 HZ1
  generalize wb.alloc (.cells #[.int .i64 sd, .float .f64 f, .slice none 0 0, .slice none 0 0, .slice none 0 0, .slice none 0 0] 28) = wm at *
  generalize wb.heap.size + 1 = B at *
  generalize wb.heap.size = gm at *
  have hk := rcount_any hs HRS.out wm
  have a0 := HG.out.a.cell 0
  have a1 := HG.out.a.cell 1
  simp only [List.getElem?_toArray, List.getElem?_cons_zero, List.getElem?_cons_succ] at a0 a1
  go_wp2_with fail
  refine hk.mono ?_
  rintro en wk ⟨v, n3, e3, rfl, hv, hr3, hc3, hb3⟩
  have HG := hide (HG.out.below hb3)
  clear hk a0 a1 hb3
  have a0 := HG.out.a.cell 0
  have a1 := HG.out.a.cell 1
  simp only [List.getElem?_toArray, List.getElem?_cons_zero, List.getElem?_cons_succ] at a0 a1
  have d0 := HG.out.a.frozen 0
  have d1 := HG.out.a.frozen 1
  go_upto_region 5 with fail
  have HG := hide (HG.out.seta HN.out n3 e3)
  clear a0 a1 d0 d1
  generalize (wk.setCell ⟨ga, 0, none⟩ (.int .i64 n3)).setCell ⟨ga, 1, none⟩ (.int .i64 e3) = wlD at *
  have HGO := hide (going_start (con := id) (p := Mio.pF) (α := Nat) (s := s) hc3)
  have HRS := hide hr3
  unfold I64 at hv
  clear hc3 hr3
  go_wp2_with fail
  go_loopw [9] (fun i wr => GRelD w B ga gm s sd f v (goR (sF (sI (.ok (wordsOf s)))) (Mio.pL Mio.pF)) i wr) (fun i _ => (v - intOf i).toNat)
  case atStart => exact ⟨0, ⟨none, 0, []⟩, _, n3, e3, rfl, HG.out, ⟨OwnR.nil, fun x hx => (by cases hx)⟩, Nat.le_refl _, by decide, HRS.out, HGO.out⟩
  case round =>
    clear HG  HRS HGO
    obtain ⟨k, out, st1, n, e, rfl, hG, hD, hl, hk48, hr, hGO⟩ := hrel
    have HG := hide hG
    have HD := hide hD
    have HGO := hide hGO
    clear hG hD hGO
    go_upto_region 6 with fail
    go_cut [52] (fun b wx => TestC b wr wx k v st1)
    case first =>
      have a0 := HG.out.a.cell 0
      have a1 := HG.out.a.cell 1
      simp only [List.getElem?_toArray, List.getElem?_cons_zero, List.getElem?_cons_succ] at a0 a1
      by_cases hlt : (k : Int) < v
      · cases st1 with
        | error er =>
          obtain ⟨he, rfl⟩ := hr
          go_wp2_with fail
          go_meet
          exact ⟨_, rfl, rfl, .inr ⟨by simpa using he, fun ws e => by cases e⟩⟩
        | ok ws =>
          have h0 : e = 0 := hr.err
          subst h0
          go_wp2_with fail
          go_meet
          exact ⟨true, rfl, rfl, .inl ⟨rfl, hlt, ws, rfl⟩⟩
      · go_wp2_with fail
        go_meet
        exact ⟨false, rfl, rfl, .inr ⟨rfl, fun ws _ => by omega⟩⟩
    case rest =>
      obtain ⟨bb, rfl, rfl, ⟨rfl, hlt, ws, rfl⟩ | ⟨rfl, hend⟩⟩ := hcut
      · have hk := rfloat_any6 hs hr wr
        have a0 := HG.out.a.cell 0
        have a1 := HG.out.a.cell 1
        simp only [List.getElem?_toArray, List.getElem?_cons_zero, List.getElem?_cons_succ] at a0 a1
        go_wp2_with fail
        refine hk.mono ?_
        rintro en w1 ⟨x1, n1, e1, rfl, i1, hr1, c1, hb1⟩
        clear hk a0 a1
        go_upto_region 9 with fail
        have hbx := below_after hb1 ((Below.refl w1.heap.size w1).alloc (Nat.le_refl _) (.cells #[.int .i64 n1, .int .i64 e1] 97))
        have HGB := hide (Nat.le_trans HG.out.siz hb1.size)
        have HG := hide (HG.out.below hbx)
        have HD := hide (HD.out.below keept_fl hbx)
        have HY := hide (Blk.new w1 97 #[.int .i64 n1, .int .i64 e1])
        clear hbx hb1
        generalize w1.alloc (.cells #[.int .i64 n1, .int .i64 e1] 97) = wb at *
        generalize w1.heap.size = gb at *
        have HIT := hide (show okFl wb B x1 from i1)
        have HCX := hide c1
        have HRX := hide hr1
        clear i1 c1 hr1
        have h48 := going_le HGO.out
        obtain ⟨v', w9, hrun, ho9, hx9⟩ := run_append_one (P := Try.prog) 22 23 23 1 8 (.float .f64 0) encFl (by decide) (fun _ => rfl) one_fl Try.underlying23 inf_fl rfl wb B out.val out.L x1 #[.float .f64 x1] rfl HD.out.1 (by omega) (by omega) HG.out.siz
        obtain ⟨⟨qA, qc, qL⟩, hv9, hLE, _, _⟩ := ho9.form
        subst hv9
        have ho9' : OwnR 22 1 encFl w9 B (Sl.val ⟨qA, qc, qL⟩) qL := by have h := ho9; rw [← show qL = _ from hLE] at h; exact h
        have hrun : (Builtin.append_ #[23, 23] 23 #[out.val, .slice (some ⟨wb.heap.size, 0, none⟩) 1 1]).run Try.prog (wb.alloc (.cells #[.float .f64 x1] 22)) = .ok (.slice qA qL.length qc) w9 := hrun
        have hG9 := HG.out.app HN.out hx9.1 (fun k hk => HD.out.1.base k hk)
        have hY9 := HY.out.grown hx9.1 (fun e => own_blk_ne HD.out.1 HY.out (by decide) e.symm)
        have hD9 := HD.out.more keep_fl HIT.out (out' := ⟨qA, qc, qL⟩) hLE ho9' hx9
        have mc := HG.out.m.cell 2
        have mc9 := hG9.m.cell 2
        have mf9 := hG9.m.frozen 2
        simp only [List.getElem?_toArray, List.getElem?_cons_zero, List.getElem?_cons_succ] at mc mc9
        have HGX := hide (hG9.setm HN.out 2 (.slice qA qL.length qc) (cs' := #[.int .i64 sd, .float .f64 f, .slice qA qL.length qc, .slice none 0 0, .slice none 0 0, .slice none 0 0]) rfl)
        have HYX := hide (hY9.far (p := ⟨gm, 2, none⟩) (show gb ≠ gm by have := HGB.out; have := HN.out.m1; omega) (.slice qA qL.length qc))
        have HD := hide (hD9.set (p := ⟨gm, 2, none⟩) keep_fl HN.out.m1 (.slice qA qL.length qc))
        have HGZ := hide (going_next HGO.out hlt HCX.out)
        rw [← hLE] at HGZ
        have HLL := hide (show qL.length ≤ k + 1 by rw [show qL = _ from hLE]; simp; omega)
        have kI : (k : Int) + 1 ≤ 48 := by omega
        clear hG9 hY9 hD9 ho9 ho9' hx9 hLE HG HY hr
        go_upto_region 10 with (at_builtin; go_must (refine wpList_of_append rfl _ w9 (.tmp 62) (.tmp 64) 23 _ _ _ rfl rfl rfl hrun ?_))
        clear hrun mc mc9 mf9
        generalize w9.setCell ⟨gm, 2, none⟩ (.slice qA qL.length qc) = v9 at *
        have b0 := HYX.out.cell 0
        have b1 := HYX.out.cell 1
        simp only [List.getElem?_toArray, List.getElem?_cons_zero, List.getElem?_cons_succ] at b0 b1
        have a0 := HGX.out.a.cell 0
        have a1 := HGX.out.a.cell 1
        simp only [List.getElem?_toArray, List.getElem?_cons_zero, List.getElem?_cons_succ] at a0 a1
        have d0 := HGX.out.a.frozen 0
        have d1 := HGX.out.a.frozen 1
        have HGY := hide (HGX.out.seta HN.out n1 e1)
        have HD := hide ((HD.out.set (p := ⟨ga, 0, none⟩) keep_fl HN.out.a1 (.int .i64 n1)).set (p := ⟨ga, 1, none⟩) keep_fl HN.out.a1 (.int .i64 e1))
        go_wp2_with fail
        clear b0 b1 a0 a1 d0 d1
        go_roundw
        case rel => exact ⟨k + 1, ⟨qA, qc, qL⟩, _, n1, e1, by go_num, HGY.out, HD.out, HLL.out, by omega, HRX.out, HGZ.out⟩
        case measure => simp [intOf]; omega
      · have hge := going_end HGO.out hend
        have HEND := hide hge.2
        have HRS := hide (show RefSt s (aft (goR (sF (sI (.ok (wordsOf s)))) (Mio.pL Mio.pF))) n e by rw [hge.1]; exact hr)
        obtain ⟨xD, rfl⟩ : ∃ xD, xD = out := ⟨_, rfl⟩
        clear hge hr hend HGO hl hk48 hv
        have hk := rcount_any hs HRS.out wr
        have a0 := HG.out.a.cell 0
        have a1 := HG.out.a.cell 1
        simp only [List.getElem?_toArray, List.getElem?_cons_zero, List.getElem?_cons_succ] at a0 a1
        go_wp2_with fail
        refine hk.mono ?_
        rintro en wk ⟨v, n3, e3, rfl, hv, hr3, hc3, hb3⟩
        have HG := hide (HG.out.below hb3)
        have HD := hide (HD.out.below keept_fl hb3)
        clear hk a0 a1 hb3
        have a0 := HG.out.a.cell 0
        have a1 := HG.out.a.cell 1
        simp only [List.getElem?_toArray, List.getElem?_cons_zero, List.getElem?_cons_succ] at a0 a1
        have d0 := HG.out.a.frozen 0
        have d1 := HG.out.a.frozen 1
        go_upto_region 12 with fail
        have HG := hide (HG.out.seta HN.out n3 e3)
        have HD := hide (HD.out.set (p := ⟨ga, 0, none⟩) keep_fl HN.out.a1 (.int .i64 n3))
        have HD := hide (HD.out.set (p := ⟨ga, 1, none⟩) keep_fl HN.out.a1 (.int .i64 e3))
        clear a0 a1 d0 d1
        generalize (wk.setCell ⟨ga, 0, none⟩ (.int .i64 n3)).setCell ⟨ga, 1, none⟩ (.int .i64 e3) = wlP at *
        have HGO := hide (going_start (con := (fun x : Sl Ins4 => x.L)) (p := (Mio.pL Mio.pIns)) (α := Sl Ins4) (s := s) hc3)
        have HRS := hide hr3
        unfold I64 at hv
        clear hc3 hr3
        go_wp2_with fail
        go_loopw [12] (fun i wr => GRelP w B ga gm s sd f xD v (goR (sD (sF (sI (.ok (wordsOf s))))) (Mio.pL (Mio.pL Mio.pIns))) i wr) (fun i _ => (v - intOf i).toNat)
        case atStart => exact ⟨0, ⟨none, 0, []⟩, _, n3, e3, rfl, HG.out, HD.out, ⟨OwnR.nil, fun x hx => (by cases hx)⟩, Nat.le_refl _, by decide, HRS.out, HGO.out⟩
        case round =>
          clear HG HD HRS HGO
          obtain ⟨k, out, st1, n, e, rfl, hG, hD, hP, hl, hk48, hr, hGO⟩ := hrel
          have HG := hide hG
          have HD := hide hD
          have HP := hide hP
          have HGO := hide hGO
          clear hG hD hP hGO
          go_upto_region 13 with fail
          go_cut [81] (fun b wx => TestC b wr wx k v st1)
          case first =>
            have a0 := HG.out.a.cell 0
            have a1 := HG.out.a.cell 1
            simp only [List.getElem?_toArray, List.getElem?_cons_zero, List.getElem?_cons_succ] at a0 a1
            by_cases hlt : (k : Int) < v
            · cases st1 with
              | error er =>
                obtain ⟨he, rfl⟩ := hr
                go_wp2_with fail
                go_meet
                exact ⟨_, rfl, rfl, .inr ⟨by simpa using he, fun ws e => by cases e⟩⟩
              | ok ws =>
                have h0 : e = 0 := hr.err
                subst h0
                go_wp2_with fail
                go_meet
                exact ⟨true, rfl, rfl, .inl ⟨rfl, hlt, ws, rfl⟩⟩
            · go_wp2_with fail
              go_meet
              exact ⟨false, rfl, rfl, .inr ⟨rfl, fun ws _ => by omega⟩⟩
          case rest =>
            obtain ⟨bb, rfl, rfl, ⟨rfl, hlt, ws, rfl⟩ | ⟨rfl, hend⟩⟩ := hcut
            · have hk := rcode_any hs hr wr
              have a0 := HG.out.a.cell 0
              have a1 := HG.out.a.cell 1
              simp only [List.getElem?_toArray, List.getElem?_cons_zero, List.getElem?_cons_succ] at a0 a1
              go_wp2_with fail
              refine hk.mono ?_
              rintro en w1 ⟨⟨zA, zc, zL⟩, n1, e1, rfl, i1, hr1, c1, hb1⟩
              clear hk a0 a1
              simp only [Sl.val]
              go_upto_region 16 with fail
              have hbx := below_after hb1 ((Below.refl w1.heap.size w1).alloc (Nat.le_refl _) (.cells #[.int .i64 n1, .int .i64 e1] 97))
              have hba := (Below.refl w1.heap.size w1).alloc (Nat.le_refl _) (.cells #[.int .i64 n1, .int .i64 e1] 97)
              have HGB := hide (Nat.le_trans HG.out.siz hb1.size)
              have hit := Rw.low keep_ins (Rw.below keept_ins i1 hba) HG.out.siz
              have HG := hide (HG.out.below hbx)
              have HD := hide (HD.out.below keept_fl hbx)
              have HP := hide (HP.out.below keept_pr hbx)
              have HY := hide (Blk.new w1 97 #[.int .i64 n1, .int .i64 e1])
              clear hbx hba hb1
              generalize w1.alloc (.cells #[.int .i64 n1, .int .i64 e1] 97) = wb at *
              generalize w1.heap.size = gb at *
              have HIT := hide (show okPr wb B ⟨zA, zc, zL⟩ from hit)
              have HCX := hide c1
              have HRX := hide hr1
              clear i1 c1 hr1 hit
              have h48 := going_le HGO.out
              obtain ⟨v', w9, hrun, ho9, hx9⟩ := run_append_one (P := Try.prog) 38 24 24 1 24 (.slice none 0 0) encSl (by decide) (fun _ => rfl) one_sl Try.underlying24 inf_insl rfl wb B out.val out.L ⟨zA, zc, zL⟩ #[.slice zA zL.length zc] rfl HP.out.1 (by omega) (by omega) HG.out.siz
              obtain ⟨⟨qA, qc, qL⟩, hv9, hLE, _, _⟩ := ho9.form
              subst hv9
              have ho9' : OwnR 38 1 encSl w9 B (Sl.val ⟨qA, qc, qL⟩) qL := by have h := ho9; rw [← show qL = _ from hLE] at h; exact h
              have hrun : (Builtin.append_ #[24, 24] 24 #[out.val, .slice (some ⟨wb.heap.size, 0, none⟩) 1 1]).run Try.prog (wb.alloc (.cells #[.slice zA zL.length zc] 38)) = .ok (.slice qA qL.length qc) w9 := hrun
              have hG9 := HG.out.app HN.out hx9.1 (fun k hk => HP.out.1.base k hk)
              have hY9 := HY.out.grown hx9.1 (fun e => own_blk_ne HP.out.1 HY.out (by decide) e.symm)
              have hD9 := HD.out.app2 (keepa_fl 38) (by decide) HP.out.1 hx9.1
              have hP9 := HP.out.more keep_pr HIT.out (out' := ⟨qA, qc, qL⟩) hLE ho9' hx9
              have mc := HG.out.m.cell 3
              have mc9 := hG9.m.cell 3
              have mf9 := hG9.m.frozen 3
              simp only [List.getElem?_toArray, List.getElem?_cons_zero, List.getElem?_cons_succ] at mc mc9
              have HGX := hide (hG9.setm HN.out 3 (.slice qA qL.length qc) (cs' := #[.int .i64 sd, .float .f64 f, xD.val, .slice qA qL.length qc, .slice none 0 0, .slice none 0 0]) rfl)
              have HYX := hide (hY9.far (p := ⟨gm, 3, none⟩) (show gb ≠ gm by have := HGB.out; have := HN.out.m1; omega) (.slice qA qL.length qc))
              have HD := hide (hD9.set (p := ⟨gm, 3, none⟩) keep_fl HN.out.m1 (.slice qA qL.length qc))
              have HP := hide (hP9.set (p := ⟨gm, 3, none⟩) keep_pr HN.out.m1 (.slice qA qL.length qc))
              have HGZ := hide (going_next HGO.out hlt HCX.out)
              rw [← hLE] at HGZ
              have HLL := hide (show qL.length ≤ k + 1 by rw [show qL = _ from hLE]; simp; omega)
              have kI : (k : Int) + 1 ≤ 48 := by omega
              clear hG9 hY9 hD9 hP9 ho9 ho9' hx9 hLE HG HY hr
              go_upto_region 17 with (at_builtin; go_must (refine wpList_of_append rfl _ w9 (.tmp 91) (.tmp 93) 24 _ _ _ rfl rfl rfl hrun ?_))
              clear hrun mc mc9 mf9
              generalize w9.setCell ⟨gm, 3, none⟩ (.slice qA qL.length qc) = v9 at *
              have b0 := HYX.out.cell 0
              have b1 := HYX.out.cell 1
              simp only [List.getElem?_toArray, List.getElem?_cons_zero, List.getElem?_cons_succ] at b0 b1
              have a0 := HGX.out.a.cell 0
              have a1 := HGX.out.a.cell 1
              simp only [List.getElem?_toArray, List.getElem?_cons_zero, List.getElem?_cons_succ] at a0 a1
              have d0 := HGX.out.a.frozen 0
              have d1 := HGX.out.a.frozen 1
              have HGY := hide (HGX.out.seta HN.out n1 e1)
              have HD := hide ((HD.out.set (p := ⟨ga, 0, none⟩) keep_fl HN.out.a1 (.int .i64 n1)).set (p := ⟨ga, 1, none⟩) keep_fl HN.out.a1 (.int .i64 e1))
              have HP := hide ((HP.out.set (p := ⟨ga, 0, none⟩) keep_pr HN.out.a1 (.int .i64 n1)).set (p := ⟨ga, 1, none⟩) keep_pr HN.out.a1 (.int .i64 e1))
              go_wp2_with fail
              clear b0 b1 a0 a1 d0 d1
              go_roundw
              case rel => exact ⟨k + 1, ⟨qA, qc, qL⟩, _, n1, e1, by go_num, HGY.out, HD.out, HP.out, HLL.out, by omega, HRX.out, HGZ.out⟩
              case measure => simp [intOf]; omega
            · have hge := going_end HGO.out hend
              have HENP := hide hge.2
              have HRS := hide (show RefSt s (aft (goR (sD (sF (sI (.ok (wordsOf s))))) (Mio.pL (Mio.pL Mio.pIns)))) n e by rw [hge.1]; exact hr)
              obtain ⟨xP, rfl⟩ : ∃ xP, xP = out := ⟨_, rfl⟩
              clear hge hr hend HGO hl hk48 hv
              have hk := rcount_any hs HRS.out wr
              have a0 := HG.out.a.cell 0
              have a1 := HG.out.a.cell 1
              simp only [List.getElem?_toArray, List.getElem?_cons_zero, List.getElem?_cons_succ] at a0 a1
              go_wp2_with fail
              refine hk.mono ?_
              rintro en wk ⟨v, n3, e3, rfl, hv, hr3, hc3, hb3⟩
              have HG := hide (HG.out.below hb3)
              have HD := hide (HD.out.below keept_fl hb3)
              have HP := hide (HP.out.below keept_pr hb3)
              clear hk a0 a1 hb3
              have a0 := HG.out.a.cell 0
              have a1 := HG.out.a.cell 1
              simp only [List.getElem?_toArray, List.getElem?_cons_zero, List.getElem?_cons_succ] at a0 a1
              have d0 := HG.out.a.frozen 0
              have d1 := HG.out.a.frozen 1
              go_upto_region 19 with fail
              have HG := hide (HG.out.seta HN.out n3 e3)
              have HD := hide (HD.out.set (p := ⟨ga, 0, none⟩) keep_fl HN.out.a1 (.int .i64 n3))
              have HP := hide (HP.out.set (p := ⟨ga, 0, none⟩) keep_pr HN.out.a1 (.int .i64 n3))
              have HD := hide (HD.out.set (p := ⟨ga, 1, none⟩) keep_fl HN.out.a1 (.int .i64 e3))
              have HP := hide (HP.out.set (p := ⟨ga, 1, none⟩) keep_pr HN.out.a1 (.int .i64 e3))
              clear a0 a1 d0 d1
              generalize (wk.setCell ⟨ga, 0, none⟩ (.int .i64 n3)).setCell ⟨ga, 1, none⟩ (.int .i64 e3) = wlL at *
              have HGO := hide (going_start (con := (fun x : LP2 => (x.1, x.2.L))) (p := Mio.pLP) (α := LP2) (s := s) hc3)
              have HRS := hide hr3
              unfold I64 at hv
              clear hc3 hr3
              go_wp2_with fail
              go_loopw [15] (fun i wr => GRelL w B ga gm s sd f xD xP v (goR (sP (sD (sF (sI (.ok (wordsOf s)))))) (Mio.pL Mio.pLP)) i wr) (fun i _ => (v - intOf i).toNat)
              case atStart => exact ⟨0, ⟨none, 0, []⟩, _, n3, e3, rfl, HG.out, HD.out, HP.out, ⟨OwnR.nil, fun x hx => (by cases hx)⟩, Nat.le_refl _, by decide, HRS.out, HGO.out⟩
              case round =>
                clear HG HD HP HRS HGO
                obtain ⟨k, out, st1, n, e, rfl, hG, hD, hP, hL, hl, hk48, hr, hGO⟩ := hrel
                have HG := hide hG
                have HD := hide hD
                have HP := hide hP
                have HL := hide hL
                have HGO := hide hGO
                clear hG hD hP hL hGO
                go_upto_region 20 with fail
                go_cut [110] (fun b wx => TestC b wr wx k v st1)
                case first =>
                  have a0 := HG.out.a.cell 0
                  have a1 := HG.out.a.cell 1
                  simp only [List.getElem?_toArray, List.getElem?_cons_zero, List.getElem?_cons_succ] at a0 a1
                  by_cases hlt : (k : Int) < v
                  · cases st1 with
                    | error er =>
                      obtain ⟨he, rfl⟩ := hr
                      go_wp2_with fail
                      go_meet
                      exact ⟨_, rfl, rfl, .inr ⟨by simpa using he, fun ws e => by cases e⟩⟩
                    | ok ws =>
                      have h0 : e = 0 := hr.err
                      subst h0
                      go_wp2_with fail
                      go_meet
                      exact ⟨true, rfl, rfl, .inl ⟨rfl, hlt, ws, rfl⟩⟩
                  · go_wp2_with fail
                    go_meet
                    exact ⟨false, rfl, rfl, .inr ⟨rfl, fun ws _ => by omega⟩⟩
                case rest =>
                  obtain ⟨bb, rfl, rfl, ⟨rfl, hlt, ws, rfl⟩ | ⟨rfl, hend⟩⟩ := hcut
                  · have hk := rproc_any hs hr wr
                    have a0 := HG.out.a.cell 0
                    have a1 := HG.out.a.cell 1
                    simp only [List.getElem?_toArray, List.getElem?_cons_zero, List.getElem?_cons_succ] at a0 a1
                    go_wp2_with fail
                    refine hk.mono ?_
                    rintro en w1 ⟨⟨zp, ⟨zA, zc, zL⟩⟩, n1, e1, rfl, i1, hr1, c1, hb1⟩
                    clear hk a0 a1
                    simp only [vLp, Sl.val]
                    go_upto_region 23 with fail
                    have hba := ((Below.refl w1.heap.size w1).alloc (Nat.le_refl _) (.cells #[.int .i64 zp, .slice zA zL.length zc] 41)).alloc (by simp) (.cells #[.int .i64 n1, .int .i64 e1] 97)
                    have hbx := below_after hb1 hba
                    have HGB := hide (show B ≤ w1.heap.size + 1 from Nat.le_succ_of_le (Nat.le_trans HG.out.siz hb1.size))
                    have hit := keep_lp.low (keept_lp.below i1 hba) HG.out.siz
                    have HG := hide (HG.out.below hbx)
                    have HD := hide (HD.out.below keept_fl hbx)
                    have HP := hide (HP.out.below keept_pr hbx)
                    have HL := hide (HL.out.below keept_lp hbx)
                    have hlx := (Blk.new w1 41 #[.int .i64 zp, .slice zA zL.length zc]).alloc (.cells #[.int .i64 n1, .int .i64 e1] 97)
                    have hyx : Blk ((w1.alloc (.cells #[.int .i64 zp, .slice zA zL.length zc] 41)).alloc (.cells #[.int .i64 n1, .int .i64 e1] 97)) (w1.heap.size + 1) 97 #[.int .i64 n1, .int .i64 e1] := by
                      have := Blk.new (w1.alloc (.cells #[.int .i64 zp, .slice zA zL.length zc] 41)) 97 #[.int .i64 n1, .int .i64 e1]
                      simpa using this
                    have HY := hide hyx
                    have HLX := hide hlx
                    clear hbx hba hb1 hlx hyx
                    generalize (w1.alloc (.cells #[.int .i64 zp, .slice zA zL.length zc] 41)).alloc (.cells #[.int .i64 n1, .int .i64 e1] 97) = wb at *
                    generalize w1.heap.size + 1 = gb at *
                    generalize w1.heap.size = gl at *
                    have HIT := hide (show okLp wb B (zp, ⟨zA, zc, zL⟩) from hit)
                    have HCX := hide c1
                    have HRX := hide hr1
                    clear i1 c1 hr1 hit
                    have y0 := HLX.out.cell 0
                    have y1 := HLX.out.cell 1
                    simp only [List.getElem?_toArray, List.getElem?_cons_zero, List.getElem?_cons_succ] at y0 y1
                    have h48 := going_le HGO.out
                    obtain ⟨v', w9, hrun, ho9, hx9⟩ := run_append_one (P := Try.prog) 41 25 25 2 32 (.agg #[.int .i64 0, .slice none 0 0]) encLp (by decide) (fun _ => rfl) one_lp Try.underlying25 inf_lp rfl wb B out.val out.L (zp, ⟨zA, zc, zL⟩) #[.int .i64 zp, .slice zA zL.length zc] rfl HL.out.1 (by omega) (by omega) HG.out.siz
                    obtain ⟨⟨qA, qc, qL⟩, hv9, hLE, _, _⟩ := ho9.form
                    subst hv9
                    have ho9' : OwnR 41 2 encLp w9 B (Sl.val ⟨qA, qc, qL⟩) qL := by have h := ho9; rw [← show qL = _ from hLE] at h; exact h
                    have hrun : (Builtin.append_ #[25, 25] 25 #[out.val, .slice (some ⟨wb.heap.size, 0, none⟩) 1 1]).run Try.prog (wb.alloc (.cells #[.int .i64 zp, .slice zA zL.length zc] 41)) = .ok (.slice qA qL.length qc) w9 := hrun
                    have hG9 := HG.out.app HN.out hx9.1 (fun k hk => HL.out.1.base k hk)
                    have hY9 := HY.out.grown hx9.1 (fun e => own_blk_ne HL.out.1 HY.out (by decide) e.symm)
                    have hD9 := HD.out.app2 (keepa_fl 41) (by decide) HL.out.1 hx9.1
                    have hP9 := HP.out.app2 (keepa_pr (by decide)) (by decide) HL.out.1 hx9.1
                    have hL9 := HL.out.more keep_lp HIT.out (out' := ⟨qA, qc, qL⟩) hLE ho9' hx9
                    have mc := HG.out.m.cell 4
                    have mc9 := hG9.m.cell 4
                    have mf9 := hG9.m.frozen 4
                    simp only [List.getElem?_toArray, List.getElem?_cons_zero, List.getElem?_cons_succ] at mc mc9
                    have HGX := hide (hG9.setm HN.out 4 (.slice qA qL.length qc) (cs' := #[.int .i64 sd, .float .f64 f, xD.val, xP.val, .slice qA qL.length qc, .slice none 0 0]) rfl)
                    have HYX := hide (hY9.far (p := ⟨gm, 4, none⟩) (show gb ≠ gm by have := HGB.out; have := HN.out.m1; omega) (.slice qA qL.length qc))
                    have HD := hide (hD9.set (p := ⟨gm, 4, none⟩) keep_fl HN.out.m1 (.slice qA qL.length qc))
                    have HP := hide (hP9.set (p := ⟨gm, 4, none⟩) keep_pr HN.out.m1 (.slice qA qL.length qc))
                    have HL := hide (hL9.set (p := ⟨gm, 4, none⟩) keep_lp HN.out.m1 (.slice qA qL.length qc))
                    have HGZ := hide (going_next HGO.out hlt HCX.out)
                    rw [← hLE] at HGZ
                    have HLL := hide (show qL.length ≤ k + 1 by rw [show qL = _ from hLE]; simp; omega)
                    have kI : (k : Int) + 1 ≤ 48 := by omega
                    clear hG9 hY9 hD9 hP9 hL9 ho9 ho9' hx9 hLE HG HY hr
                    go_upto_region 24 with (at_builtin; go_must (refine wpList_of_append rfl _ w9 (.tmp 120) (.tmp 122) 25 _ _ _ rfl rfl rfl hrun ?_))
                    clear hrun mc mc9 mf9 y0 y1
                    generalize w9.setCell ⟨gm, 4, none⟩ (.slice qA qL.length qc) = v9 at *
                    have b0 := HYX.out.cell 0
                    have b1 := HYX.out.cell 1
                    simp only [List.getElem?_toArray, List.getElem?_cons_zero, List.getElem?_cons_succ] at b0 b1
                    have a0 := HGX.out.a.cell 0
                    have a1 := HGX.out.a.cell 1
                    simp only [List.getElem?_toArray, List.getElem?_cons_zero, List.getElem?_cons_succ] at a0 a1
                    have d0 := HGX.out.a.frozen 0
                    have d1 := HGX.out.a.frozen 1
                    have HGY := hide (HGX.out.seta HN.out n1 e1)
                    have HD := hide ((HD.out.set (p := ⟨ga, 0, none⟩) keep_fl HN.out.a1 (.int .i64 n1)).set (p := ⟨ga, 1, none⟩) keep_fl HN.out.a1 (.int .i64 e1))
                    have HP := hide ((HP.out.set (p := ⟨ga, 0, none⟩) keep_pr HN.out.a1 (.int .i64 n1)).set (p := ⟨ga, 1, none⟩) keep_pr HN.out.a1 (.int .i64 e1))
                    have HL := hide ((HL.out.set (p := ⟨ga, 0, none⟩) keep_lp HN.out.a1 (.int .i64 n1)).set (p := ⟨ga, 1, none⟩) keep_lp HN.out.a1 (.int .i64 e1))
                    go_wp2_with fail
                    clear b0 b1 a0 a1 d0 d1
                    go_roundw
                    case rel => exact ⟨k + 1, ⟨qA, qc, qL⟩, _, n1, e1, by go_num, HGY.out, HD.out, HP.out, HL.out, HLL.out, by omega, HRX.out, HGZ.out⟩
                    case measure => simp [intOf]; omega
                  · have hge := going_end HGO.out hend
                    have HENL := hide hge.2
                    have HRS := hide (show RefSt s (aft (goR (sP (sD (sF (sI (.ok (wordsOf s)))))) (Mio.pL Mio.pLP))) n e by rw [hge.1]; exact hr)
                    obtain ⟨xL, rfl⟩ : ∃ xL, xL = out := ⟨_, rfl⟩
                    clear hge hr hend HGO hl hk48 hv
                    have hk := rcount_any hs HRS.out wr
                    have a0 := HG.out.a.cell 0
                    have a1 := HG.out.a.cell 1
                    simp only [List.getElem?_toArray, List.getElem?_cons_zero, List.getElem?_cons_succ] at a0 a1
                    go_wp2_with fail
                    refine hk.mono ?_
                    rintro en wk ⟨v, n3, e3, rfl, hv, hr3, hc3, hb3⟩
                    have HG := hide (HG.out.below hb3)
                    have HD := hide (HD.out.below keept_fl hb3)
                    have HP := hide (HP.out.below keept_pr hb3)
                    have HL := hide (HL.out.below keept_lp hb3)
                    clear hk a0 a1 hb3
                    have a0 := HG.out.a.cell 0
                    have a1 := HG.out.a.cell 1
                    simp only [List.getElem?_toArray, List.getElem?_cons_zero, List.getElem?_cons_succ] at a0 a1
                    have d0 := HG.out.a.frozen 0
                    have d1 := HG.out.a.frozen 1
                    go_upto_region 26 with fail
                    have HG := hide (HG.out.seta HN.out n3 e3)
                    have HD := hide (HD.out.set (p := ⟨ga, 0, none⟩) keep_fl HN.out.a1 (.int .i64 n3))
                    have HP := hide (HP.out.set (p := ⟨ga, 0, none⟩) keep_pr HN.out.a1 (.int .i64 n3))
                    have HL := hide (HL.out.set (p := ⟨ga, 0, none⟩) keep_lp HN.out.a1 (.int .i64 n3))
                    have HD := hide (HD.out.set (p := ⟨ga, 1, none⟩) keep_fl HN.out.a1 (.int .i64 e3))
                    have HP := hide (HP.out.set (p := ⟨ga, 1, none⟩) keep_pr HN.out.a1 (.int .i64 e3))
                    have HL := hide (HL.out.set (p := ⟨ga, 1, none⟩) keep_lp HN.out.a1 (.int .i64 e3))
                    clear a0 a1 d0 d1
                    generalize (wk.setCell ⟨ga, 0, none⟩ (.int .i64 n3)).setCell ⟨ga, 1, none⟩ (.int .i64 e3) = wlI at *
                    have HGO := hide (going_start (con := id) (p := Mio.pIni) (α := Init3) (s := s) hc3)
                    have HRS := hide hr3
                    unfold I64 at hv
                    clear hc3 hr3
                    go_wp2_with fail
                    go_loopw [18] (fun i wr => GRelI w B ga gm s sd f xD xP xL v (goR (sL (sP (sD (sF (sI (.ok (wordsOf s))))))) (Mio.pL Mio.pIni)) i wr) (fun i _ => (v - intOf i).toNat)
                    case atStart => exact ⟨0, ⟨none, 0, []⟩, _, n3, e3, rfl, HG.out, HD.out, HP.out, HL.out, ⟨OwnR.nil, fun x hx => (by cases hx)⟩, Nat.le_refl _, by decide, HRS.out, HGO.out⟩
                    case round =>
                      clear HG HD HP HL HRS HGO
                      obtain ⟨k, out, st1, n, e, rfl, hG, hD, hP, hL, hI, hl, hk48, hr, hGO⟩ := hrel
                      have HG := hide hG
                      have HD := hide hD
                      have HP := hide hP
                      have HL := hide hL
                      have HI := hide hI
                      have HGO := hide hGO
                      clear hG hD hP hL hI hGO
                      go_upto_region 27 with fail
                      go_cut [139] (fun b wx => TestC b wr wx k v st1)
                      case first =>
                        have a0 := HG.out.a.cell 0
                        have a1 := HG.out.a.cell 1
                        simp only [List.getElem?_toArray, List.getElem?_cons_zero, List.getElem?_cons_succ] at a0 a1
                        by_cases hlt : (k : Int) < v
                        · cases st1 with
                          | error er =>
                            obtain ⟨he, rfl⟩ := hr
                            go_wp2_with fail
                            go_meet
                            exact ⟨_, rfl, rfl, .inr ⟨by simpa using he, fun ws e => by cases e⟩⟩
                          | ok ws =>
                            have h0 : e = 0 := hr.err
                            subst h0
                            go_wp2_with fail
                            go_meet
                            exact ⟨true, rfl, rfl, .inl ⟨rfl, hlt, ws, rfl⟩⟩
                        · go_wp2_with fail
                          go_meet
                          exact ⟨false, rfl, rfl, .inr ⟨rfl, fun ws _ => by omega⟩⟩
                      case rest =>
                        obtain ⟨bb, rfl, rfl, ⟨rfl, hlt, ws, rfl⟩ | ⟨rfl, hend⟩⟩ := hcut
                        · have hk := rfloat_any6 hs hr wr
                          have a0 := HG.out.a.cell 0
                          have a1 := HG.out.a.cell 1
                          simp only [List.getElem?_toArray, List.getElem?_cons_zero, List.getElem?_cons_succ] at a0 a1
                          go_wp2_with fail
                          refine hk.mono ?_
                          rintro en w1 ⟨x1, n1, e1, rfl, i1, hr1, c1, hb1⟩
                          clear hk a0 a1
                          go_upto_region 30 with fail
                          have hbx := below_after hb1 ((Below.refl w1.heap.size w1).alloc (Nat.le_refl _) (.cells #[.int .i64 n1, .int .i64 e1] 97))
                          have HGB := hide (Nat.le_trans HG.out.siz hb1.size)
                          have HG := hide (HG.out.below hbx)
                          have HD := hide (HD.out.below keept_fl hbx)
                          have HP := hide (HP.out.below keept_pr hbx)
                          have HL := hide (HL.out.below keept_lp hbx)
                          have HI := hide (HI.out.below keept_ini hbx)
                          have HY := hide (Blk.new w1 97 #[.int .i64 n1, .int .i64 e1])
                          clear hbx hb1
                          generalize w1.alloc (.cells #[.int .i64 n1, .int .i64 e1] 97) = y1 at *
                          generalize w1.heap.size = gb at *
                          have hk := rint_any hs hr1 y1
                          have b0 := HY.out.cell 0
                          have b1 := HY.out.cell 1
                          simp only [List.getElem?_toArray, List.getElem?_cons_zero, List.getElem?_cons_succ] at b0 b1
                          go_wp2_with fail
                          refine hk.mono ?_
                          rintro en w2 ⟨x2, n2, e2, rfl, i2, hr2, c2, hb2⟩
                          have HG := hide (HG.out.below hb2)
                          have HD := hide (HD.out.below keept_fl hb2)
                          have HP := hide (HP.out.below keept_pr hb2)
                          have HL := hide (HL.out.below keept_lp hb2)
                          have HI := hide (HI.out.below keept_ini hb2)
                          have hY := HY.out.below hb2 HY.out.lt
                          clear hk b0 b1 hb2
                          have b0 := hY.cell 0
                          have b1 := hY.cell 1
                          simp only [List.getElem?_toArray, List.getElem?_cons_zero, List.getElem?_cons_succ] at b0 b1
                          have g0 := hY.frozen 0
                          have g1 := hY.frozen 1
                          go_upto_region 31 with fail
                          have hY2 := hY.set_ 0 (.int .i64 n2)
                          have HG := hide ((HG.out.far HN.out (p := ⟨gb, 0, none⟩) HGB.out (.int .i64 n2)).far HN.out (p := ⟨gb, 1, none⟩) HGB.out (.int .i64 e2))
                          have HD := hide (HD.out.far keept_fl (by decide) hY 0 (.int .i64 n2))
                          have HP := hide (HP.out.far keept_pr (by decide) hY 0 (.int .i64 n2))
                          have HL := hide (HL.out.far keept_lp (by decide) hY 0 (.int .i64 n2))
                          have HI := hide (HI.out.far keept_ini (by decide) hY 0 (.int .i64 n2))
                          have HD := hide (HD.out.far keept_fl (by decide) hY2 1 (.int .i64 e2))
                          have HP := hide (HP.out.far keept_pr (by decide) hY2 1 (.int .i64 e2))
                          have HL := hide (HL.out.far keept_lp (by decide) hY2 1 (.int .i64 e2))
                          have HI := hide (HI.out.far keept_ini (by decide) hY2 1 (.int .i64 e2))
                          have hY3 := hY2.set_ 1 (.int .i64 e2)
                          simp only [List.setIfInBounds_toArray, List.set_cons_zero, List.set_cons_succ] at hY3
                          have HY := hide hY3
                          clear b0 b1 g0 g1 hY hY2 hY3
                          generalize (w2.setCell ⟨gb, 0, none⟩ (.int .i64 n2)).setCell ⟨gb, 1, none⟩ (.int .i64 e2) = y2 at *
                          have hk := rint_any hs hr2 y2
                          have b0 := HY.out.cell 0
                          have b1 := HY.out.cell 1
                          simp only [List.getElem?_toArray, List.getElem?_cons_zero, List.getElem?_cons_succ] at b0 b1
                          go_wp2_with fail
                          refine hk.mono ?_
                          rintro en w3 ⟨x3, n3, e3, rfl, i3, hr3, c3, hb3⟩
                          have HG := hide (HG.out.below hb3)
                          have HD := hide (HD.out.below keept_fl hb3)
                          have HP := hide (HP.out.below keept_pr hb3)
                          have HL := hide (HL.out.below keept_lp hb3)
                          have HI := hide (HI.out.below keept_ini hb3)
                          have hY := HY.out.below hb3 HY.out.lt
                          clear hk b0 b1 hb3
                          have b0 := hY.cell 0
                          have b1 := hY.cell 1
                          simp only [List.getElem?_toArray, List.getElem?_cons_zero, List.getElem?_cons_succ] at b0 b1
                          have g0 := hY.frozen 0
                          have g1 := hY.frozen 1
                          go_upto_region 32 with fail
                          have hY2 := hY.set_ 0 (.int .i64 n3)
                          have HG := hide ((HG.out.far HN.out (p := ⟨gb, 0, none⟩) HGB.out (.int .i64 n3)).far HN.out (p := ⟨gb, 1, none⟩) HGB.out (.int .i64 e3))
                          have HD := hide (HD.out.far keept_fl (by decide) hY 0 (.int .i64 n3))
                          have HP := hide (HP.out.far keept_pr (by decide) hY 0 (.int .i64 n3))
                          have HL := hide (HL.out.far keept_lp (by decide) hY 0 (.int .i64 n3))
                          have HI := hide (HI.out.far keept_ini (by decide) hY 0 (.int .i64 n3))
                          have HD := hide (HD.out.far keept_fl (by decide) hY2 1 (.int .i64 e3))
                          have HP := hide (HP.out.far keept_pr (by decide) hY2 1 (.int .i64 e3))
                          have HL := hide (HL.out.far keept_lp (by decide) hY2 1 (.int .i64 e3))
                          have HI := hide (HI.out.far keept_ini (by decide) hY2 1 (.int .i64 e3))
                          have hY3 := hY2.set_ 1 (.int .i64 e3)
                          simp only [List.setIfInBounds_toArray, List.set_cons_zero, List.set_cons_succ] at hY3
                          have HY := hide hY3
                          clear b0 b1 g0 g1 hY hY2 hY3
                          generalize (w3.setCell ⟨gb, 0, none⟩ (.int .i64 n3)).setCell ⟨gb, 1, none⟩ (.int .i64 e3) = y3 at *
                          have HIT := hide (show okIni y3 B (x1, x2, x3) from ⟨i1, i2, i3⟩)
                          have HCX := hide (ini_con c1 c2 c3)
                          have HRX := hide (show RefSt s (aft (goR (.ok ws) Mio.pIni)) n3 e3 by rw [ini_aft]; exact hr3)
                          clear i1 i2 i3 c1 c2 c3 hr1 hr2 hr3
                          have h48 := going_le HGO.out
                          obtain ⟨v', w9, hrun, ho9, hx9⟩ := run_append_one (P := Try.prog) 43 26 26 3 24 (.agg #[.float .f64 0, .int .i64 0, .int .i64 0]) encInit (by decide) (fun _ => rfl) one_init Try.underlying26 inf_init rfl y3 B out.val out.L (x1, x2, x3) #[.float .f64 x1, .int .i64 x2, .int .i64 x3] rfl HI.out.1 (by omega) (by omega) HG.out.siz
                          obtain ⟨⟨qA, qc, qL⟩, hv9, hLE, _, _⟩ := ho9.form
                          subst hv9
                          have ho9' : OwnR 43 3 encInit w9 B (Sl.val ⟨qA, qc, qL⟩) qL := by have h := ho9; rw [← show qL = _ from hLE] at h; exact h
                          have hrun : (Builtin.append_ #[26, 26] 26 #[out.val, .slice (some ⟨y3.heap.size, 0, none⟩) 1 1]).run Try.prog (y3.alloc (.cells #[.float .f64 x1, .int .i64 x2, .int .i64 x3] 43)) = .ok (.slice qA qL.length qc) w9 := hrun
                          have hG9 := HG.out.app HN.out hx9.1 (fun k hk => HI.out.1.base k hk)
                          have hY9 := HY.out.grown hx9.1 (fun e => own_blk_ne HI.out.1 HY.out (by decide) e.symm)
                          have hD9 := HD.out.app2 (keepa_fl 43) (by decide) HI.out.1 hx9.1
                          have hP9 := HP.out.app2 (keepa_pr (by decide)) (by decide) HI.out.1 hx9.1
                          have hL9 := HL.out.app2 (keepa_lp (by decide)) (by decide) HI.out.1 hx9.1
                          have hI9 := HI.out.more keep_ini HIT.out (out' := ⟨qA, qc, qL⟩) hLE ho9' hx9
                          have mc := HG.out.m.cell 5
                          have mc9 := hG9.m.cell 5
                          have mf9 := hG9.m.frozen 5
                          simp only [List.getElem?_toArray, List.getElem?_cons_zero, List.getElem?_cons_succ] at mc mc9
                          have HGX := hide (hG9.setm HN.out 5 (.slice qA qL.length qc) (cs' := #[.int .i64 sd, .float .f64 f, xD.val, xP.val, xL.val, .slice qA qL.length qc]) rfl)
                          have HYX := hide (hY9.far (p := ⟨gm, 5, none⟩) (show gb ≠ gm by have := HGB.out; have := HN.out.m1; omega) (.slice qA qL.length qc))
                          have HD := hide (hD9.set (p := ⟨gm, 5, none⟩) keep_fl HN.out.m1 (.slice qA qL.length qc))
                          have HP := hide (hP9.set (p := ⟨gm, 5, none⟩) keep_pr HN.out.m1 (.slice qA qL.length qc))
                          have HL := hide (hL9.set (p := ⟨gm, 5, none⟩) keep_lp HN.out.m1 (.slice qA qL.length qc))
                          have HI := hide (hI9.set (p := ⟨gm, 5, none⟩) keep_ini HN.out.m1 (.slice qA qL.length qc))
                          have HGZ := hide (going_next HGO.out hlt HCX.out)
                          rw [← hLE] at HGZ
                          have HLL := hide (show qL.length ≤ k + 1 by rw [show qL = _ from hLE]; simp; omega)
                          have kI : (k : Int) + 1 ≤ 48 := by omega
                          clear hG9 hY9 hD9 hP9 hL9 hI9 ho9 ho9' hx9 hLE HG HY hr
                          go_upto_region 33 with (at_builtin; go_must (refine wpList_of_append rfl _ w9 (.tmp 161) (.tmp 166) 26 _ _ _ rfl rfl rfl hrun ?_))
                          clear hrun mc mc9 mf9
                          generalize w9.setCell ⟨gm, 5, none⟩ (.slice qA qL.length qc) = v9 at *
                          have b0 := HYX.out.cell 0
                          have b1 := HYX.out.cell 1
                          simp only [List.getElem?_toArray, List.getElem?_cons_zero, List.getElem?_cons_succ] at b0 b1
                          have a0 := HGX.out.a.cell 0
                          have a1 := HGX.out.a.cell 1
                          simp only [List.getElem?_toArray, List.getElem?_cons_zero, List.getElem?_cons_succ] at a0 a1
                          have d0 := HGX.out.a.frozen 0
                          have d1 := HGX.out.a.frozen 1
                          have HGY := hide (HGX.out.seta HN.out n3 e3)
                          have HD := hide ((HD.out.set (p := ⟨ga, 0, none⟩) keep_fl HN.out.a1 (.int .i64 n3)).set (p := ⟨ga, 1, none⟩) keep_fl HN.out.a1 (.int .i64 e3))
                          have HP := hide ((HP.out.set (p := ⟨ga, 0, none⟩) keep_pr HN.out.a1 (.int .i64 n3)).set (p := ⟨ga, 1, none⟩) keep_pr HN.out.a1 (.int .i64 e3))
                          have HL := hide ((HL.out.set (p := ⟨ga, 0, none⟩) keep_lp HN.out.a1 (.int .i64 n3)).set (p := ⟨ga, 1, none⟩) keep_lp HN.out.a1 (.int .i64 e3))
                          have HI := hide ((HI.out.set (p := ⟨ga, 0, none⟩) keep_ini HN.out.a1 (.int .i64 n3)).set (p := ⟨ga, 1, none⟩) keep_ini HN.out.a1 (.int .i64 e3))
                          go_wp2_with fail
                          clear b0 b1 a0 a1 d0 d1
                          go_roundw
                          case rel => exact ⟨k + 1, ⟨qA, qc, qL⟩, _, n3, e3, by go_num, HGY.out, HD.out, HP.out, HL.out, HI.out, HLL.out, by omega, HRX.out, HGZ.out⟩
                          case measure => simp [intOf]; omega
                        · have hge := going_end HGO.out hend
                          have HENI := hide hge.2
                          have HRS := hide (show RefSt s (aft (goR (sL (sP (sD (sF (sI (.ok (wordsOf s))))))) (Mio.pL Mio.pIni))) n e by rw [hge.1]; exact hr)
                          obtain ⟨xI, rfl⟩ : ∃ xI, xI = out := ⟨_, rfl⟩
                          clear hge hr hend HGO hl hk48 hv
                          have HPM := hide (mod_aft (wordsOf s))
                          obtain ⟨dA, dc, dl⟩ := xD
                          obtain ⟨pA, pc, pl⟩ := xP
                          obtain ⟨lA, lc, ll⟩ := xL
                          obtain ⟨iA, ic, il⟩ := xI
                          have HR4 := hide (show Rows4 B (⟨sd, f, ⟨dA, dc, dl⟩, ⟨pA, pc, pl⟩, ⟨lA, lc, ll⟩, ⟨iA, ic, il⟩⟩ : Mdl) wr from ⟨HD.out, HP.out, HL.out, HI.out⟩)
                          have HCM := hide (mod_con HC12.out.1 HC12.out.2 (fun y r e => (List.map_id dl).symm.trans (HEND.out y r e)) HENP.out HENL.out (fun y r e => (List.map_id il).symm.trans (HENI.out y r e)))
                          have hrs : RefSt s (sN (sL (sP (sD (sF (sI (.ok (wordsOf s)))))))) n e := HRS.out
                          clear HD HP HL HI HRS HEND HENP HENL HENI
                          generalize hst : sN (sL (sP (sD (sF (sI (.ok (wordsOf s))))))) = st6 at *
                          go_step
                          go_step
                          go_step
                          go_step
                          simp +zetaDelta only [Exit.then, Exit.inBlock, ↓reduceIte]
                          go_step
                          cases st6 with
                          | error er =>
                            obtain ⟨he, rfl⟩ := hrs
                            exact tail_err s w wr Post B ga gm _ _ sd f dA dc dl pA pc pl lA lc ll iA ic il _ _ _ _ _ _ _ _ _ _ _ _ _ _ _ _ _ _ _ _ _ _ _ _ _ _ _ _ _ _ _ _ _ _ _ _ _ _ _ _ _ _ _ _ _ _ _ _ _ _ _ _ _ _ _ _ _ _ _ _ _ _ _ _ _ _ _ _ _ _ _ _ _ _ _ _ _ _ _ _ _ _ _ _ _ _ _ _ _ _ _ _ _ _ _ _ _ _ _ _ _ _ _ _ _ _ _ _ _ _ _ _ _ _ _ _ _ _ _ _ _ _ _ _ _ _ _ _ _ _ _ _ _ _ _ _ _ _ _ _ _ _ _ _ _ _ _ _ _ _ _ _ _ _ _ _ _ _ _ _ _ _ _ _ _ _ _ _ _ _ _ _ _ _ _ _ _ _ _ _ _ _ _ _ hs HGOT HN HG HNF HR4 he (hide (get_err HPM.out))
                          | ok ws =>
                            obtain ⟨k, rfl, hk8, rfl, rfl⟩ := hrs
                            by_cases hlt : 8 * k < s.size
                            · exact tail_long s w wr Post B ga gm _ _ sd f dA dc dl pA pc pl lA lc ll iA ic il _ _ _ _ _ _ _ _ _ _ _ _ _ _ _ _ _ _ _ _ _ _ _ _ _ _ _ _ _ _ _ _ _ _ _ _ _ _ _ _ _ _ _ _ _ _ _ _ _ _ _ _ _ _ _ _ _ _ _ _ _ _ _ _ _ _ _ _ _ _ _ _ _ _ _ _ _ _ _ _ _ _ _ _ _ _ _ _ _ _ _ _ _ _ _ _ _ _ _ _ _ _ _ _ _ _ _ _ _ _ _ _ _ _ _ _ _ _ _ _ _ _ _ _ _ _ _ _ _ _ _ _ _ _ _ _ _ _ _ _ _ _ _ _ _ _ _ _ _ _ _ _ _ _ _ _ _ _ _ _ _ _ _ _ _ _ _ _ _ _ _ _ _ _ _ _ _ _ _ _ _ _ _ _ hs HGOT HN HG HNF HR4 rfl (by omega) (hide (get_long HPM.out hlt))
                            · have HGE := get_whole HPM.out HCM.out hk8 hlt
                              have HMD := chk_mod (⟨sd, f, ⟨dA, dc, dl⟩, ⟨pA, pc, pl⟩, ⟨lA, lc, ll⟩, ⟨iA, ic, il⟩⟩ : Mdl)
                              rw [show (⟨sd, f, dl, pl.map fun x => x.L, ll.map fun x => (x.1, x.2.L), il⟩ : Mio.Mod) = modOf (⟨sd, f, ⟨dA, dc, dl⟩, ⟨pA, pc, pl⟩, ⟨lA, lc, ll⟩, ⟨iA, ic, il⟩⟩ : Mdl) from rfl] at HGE
                              by_cases hc : chkB (⟨sd, f, ⟨dA, dc, dl⟩, ⟨pA, pc, pl⟩, ⟨lA, lc, ll⟩, ⟨iA, ic, il⟩⟩ : Mdl) = true
                              · have h1 := HMD.symm.trans hc
                                rw [if_pos h1, if_pos h1] at HGE
                                exact tail_good s w wr Post B ga gm _ _ sd f dA dc dl pA pc pl lA lc ll iA ic il _ _ _ _ _ _ _ _ _ _ _ _ _ _ _ _ _ _ _ _ _ _ _ _ _ _ _ _ _ _ _ _ _ _ _ _ _ _ _ _ _ _ _ _ _ _ _ _ _ _ _ _ _ _ _ _ _ _ _ _ _ _ _ _ _ _ _ _ _ _ _ _ _ _ _ _ _ _ _ _ _ _ _ _ _ _ _ _ _ _ _ _ _ _ _ _ _ _ _ _ _ _ _ _ _ _ _ _ _ _ _ _ _ _ _ _ _ _ _ _ _ _ _ _ _ _ _ _ _ _ _ _ _ _ _ _ _ _ _ _ _ _ _ _ _ _ _ _ _ _ _ _ _ _ _ _ _ _ _ _ _ _ _ _ _ _ _ _ _ _ _ _ _ _ _ _ _ _ _ _ _ _ _ _ hs HGOT HN HG HNF HR4 rfl (by omega) (hide (by unfold chkE; rw [if_pos hc])) (hide HGE)
                              · have h1 : ¬ chkM (modOf (⟨sd, f, ⟨dA, dc, dl⟩, ⟨pA, pc, pl⟩, ⟨lA, lc, ll⟩, ⟨iA, ic, il⟩⟩ : Mdl)) = true := fun h => hc (HMD.trans h)
                                rw [if_neg h1, if_neg h1] at HGE
                                exact tail_bad s w wr Post B ga gm _ _ sd f dA dc dl pA pc pl lA lc ll iA ic il _ _ _ _ _ _ _ _ _ _ _ _ _ _ _ _ _ _ _ _ _ _ _ _ _ _ _ _ _ _ _ _ _ _ _ _ _ _ _ _ _ _ _ _ _ _ _ _ _ _ _ _ _ _ _ _ _ _ _ _ _ _ _ _ _ _ _ _ _ _ _ _ _ _ _ _ _ _ _ _ _ _ _ _ _ _ _ _ _ _ _ _ _ _ _ _ _ _ _ _ _ _ _ _ _ _ _ _ _ _ _ _ _ _ _ _ _ _ _ _ _ _ _ _ _ _ _ _ _ _ _ _ _ _ _ _ _ _ _ _ _ _ _ _ _ _ _ _ _ _ _ _ _ _ _ _ _ _ _ _ _ _ _ _ _ _ _ _ _ _ _ _ _ _ _ _ _ _ _ _ _ _ _ _ hs HGOT HN HG HNF HR4 rfl (by omega) (hide (by unfold chkE; rw [if_neg hc])) (hide HGE)
end Go.Proofs.Ytegegljpmelomaa
