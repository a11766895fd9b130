/- Layer 8, plainly: events, states, what a handler does. No condition. -/
import Derived.Test.YtpfcmfannkbipaaAct1
import Derived.Test.YtpfcmfannkbipaaVm8
import Derived.Test.YtpfcmfannkbipaaRChk
set_option linter.unusedVariables false
set_option maxRecDepth 20000
namespace Go.Proofs.Ytpfcmfannkbipaa
open Go.RowKit Go.Deep

/-- An event: time, source, number, to whom, saying what. -/
abbrev Ev := Nat × Int × Int × Int × Int
def encEv (e : Ev) : List Value := [.float .f64 e.1, .int .i64 e.2.1, .int .i64 e.2.2.1, .int .i64 e.2.2.2.1, .int .i64 e.2.2.2.2]
def evA (e : Ev) : Array Value := #[.float .f64 e.1, .int .i64 e.2.1, .int .i64 e.2.2.1, .int .i64 e.2.2.2.1, .int .i64 e.2.2.2.2]
def EvOk (x : Ev) : Prop := x.1 < 18446744073709551616 ∧ I64 x.2.1 ∧ I64 x.2.2.1 ∧ I64 x.2.2.2.1 ∧ I64 x.2.2.2.2
def EvAt : Dec Ev := fun w p x => w.cell? p = some (.float .f64 x.1) ∧ w.cell? ⟨p.block, p.off + 1, none⟩ = some (.int .i64 x.2.1) ∧ w.cell? ⟨p.block, p.off + 2, none⟩ = some (.int .i64 x.2.2.1) ∧ w.cell? ⟨p.block, p.off + 3, none⟩ = some (.int .i64 x.2.2.2.1) ∧ w.cell? ⟨p.block, p.off + 4, none⟩ = some (.int .i64 x.2.2.2.2) ∧ EvOk x
theorem EvAt.keeps : EvAt.keeps := fun _ _ _ _ hb h => ⟨keepc hb h.1, keepc hb h.2.1, keepc hb h.2.2.1, keepc hb h.2.2.2.1, keepc hb h.2.2.2.2.1, h.2.2.2.2.2⟩
theorem one_ev (x : Ev) : ∀ u ∈ encEv x, u.oneCell' = true := by intro u hu; simp [encEv] at hu; rcases hu with rfl | rfl | rfl | rfl | rfl <;> rfl
theorem makes_ev : Makes EvAt encEv (fun _ x => EvOk x) := fun w g o x hok h => ⟨h 0 _ rfl, h 1 _ rfl, h 2 _ rfl, h 3 _ rfl, h 4 _ rfl, hok⟩
theorem inf_ev : (Try.prog.info? 37).map (fun i => (i.zero, i.size, i.bytes)) = some (some (.agg #[.float .f64 0, .int .i64 0, .int .i64 0, .int .i64 0, .int .i64 0]), 5, 40) := by kernel_rfl
/-- How two events stand. -/
def cmpE (a b : Ev) : Int := firstNz (evL a.1 a.2.1 a.2.2.1 a.2.2.2.1 a.2.2.2.2 b.1 b.2.1 b.2.2.1 b.2.2.2.1 b.2.2.2.2)

/-! The events at first. -/
def begF (fin : Nat) (i : Nat) (x : Init3) : List Ev := if timesI (normF x.1) fin ≤ 0 then [(normF x.1, -1, (i : Int), x.2.1, x.2.2)] else []
def begV (fin : Nat) : Nat → List Init3 → List Ev
  | _, [] => []
  | i, x :: r => begF fin i x ++ begV fin (i + 1) r
theorem begV_snoc (fin : Nat) (L : List Init3) (x : Init3) : ∀ i, begV fin i (L ++ [x]) = begV fin i L ++ begF fin (i + L.length) x := by
  induction L with
  | nil => intro i; simp [begV]
  | cons y r ih =>
    intro i
    simp only [List.cons_append, begV, List.length_cons]
    rw [ih (i + 1), List.append_assoc, show i + 1 + r.length = i + (r.length + 1) by omega]
theorem begV_take {fin : Nat} {L : List Init3} {k : Nat} {x : Init3} (h : L[k]? = some x) : begV fin 0 (L.take (k + 1)) = begV fin 0 (L.take k) ++ begF fin k x := by
  obtain ⟨hk, rfl⟩ := List.getElem?_eq_some_iff.1 h
  rw [List.take_succ_eq_append_getElem hk, begV_snoc]
  congr 2
  rw [List.length_take]
  omega
theorem begV_len (fin : Nat) : ∀ (L : List Init3) (i : Nat), (begV fin i L).length ≤ L.length := by
  intro L
  induction L with
  | nil => intro i; exact Nat.le_refl _
  | cons x r ih =>
    intro i
    have := ih (i + 1)
    have h1 : (begF fin i x).length ≤ 1 := by unfold begF; split <;> simp
    simp only [begV, List.length_append, List.length_cons]
    omega

/-! What a handler sends. -/
def dly (dl : List Nat) (n : Int) : Nat := dl.getD (n % (dl.length : Int)).toNat 0
def sndOk (dl : List Nat) (t : Nat) (x : Snt) : Bool := decide (laterE t (dly dl x.2.1) = 0)
def sndF (dl : List Nat) (t fin : Nat) (lp sent : Int) (k : Nat) (x : Snt) : List Ev :=
  if timesI (laterF t (dly dl x.2.1)) fin ≤ 0 then [(laterF t (dly dl x.2.1), lp, sent + (k : Int), x.1, x.2.2)] else []
def sndV (dl : List Nat) (t fin : Nat) (lp sent : Int) : Nat → List Snt → List Ev
  | _, [] => []
  | k, x :: r => sndF dl t fin lp sent k x ++ sndV dl t fin lp sent (k + 1) r
theorem sndV_snoc (dl : List Nat) (t fin : Nat) (lp sent : Int) (L : List Snt) (x : Snt) : ∀ k, sndV dl t fin lp sent k (L ++ [x]) = sndV dl t fin lp sent k L ++ sndF dl t fin lp sent (k + L.length) x := by
  induction L with
  | nil => intro i; simp [sndV]
  | cons y r ih =>
    intro i
    simp only [List.cons_append, sndV, List.length_cons]
    rw [ih (i + 1), List.append_assoc, show i + 1 + r.length = i + (r.length + 1) by omega]
theorem sndV_take {dl : List Nat} {t fin : Nat} {lp sent : Int} {L : List Snt} {k : Nat} {x : Snt} (h : L[k]? = some x) : sndV dl t fin lp sent 0 (L.take (k + 1)) = sndV dl t fin lp sent 0 (L.take k) ++ sndF dl t fin lp sent k x := by
  obtain ⟨hk, rfl⟩ := List.getElem?_eq_some_iff.1 h
  rw [List.take_succ_eq_append_getElem hk, sndV_snoc]
  congr 2
  rw [List.length_take]
  omega
theorem sndV_len (dl : List Nat) (t fin : Nat) (lp sent : Int) : ∀ (L : List Snt) (i : Nat), (sndV dl t fin lp sent i L).length ≤ L.length := by
  intro L
  induction L with
  | nil => intro i; exact Nat.le_refl _
  | cons x r ih =>
    intro i
    have := ih (i + 1)
    have h1 : (sndF dl t fin lp sent i x).length ≤ 1 := by unfold sndF; split <;> simp
    simp only [sndV, List.length_append, List.length_cons]
    omega

/-! What a handler does. -/
/-- A state, plainly: words, how many were sent, how often it rolled. -/
abbrev StP := List Int × Int × Int
def mpl (m : Mdl) (lp : Int) : List Ins4 := match m.ll.L[lp.toNat]? with
  | some x => (match m.pl.L[x.1.toNat]? with | some s => s.L | none => [])
  | none => []
def hO (m : Mdl) (lp : Int) (s : StP) (e : Ev) : OutV := outV (mpl m lp) s.1 e.2.2.2.2 lp m.ll.L.length m.seed s.2.2
/-- An event handled: the state, what is sent, how it went wrong. -/
def hV (m : Mdl) (lp : Int) (s : StP) (e : Ev) : StP × List Ev × Int :=
  if (hO m lp s e).2.2.2 ≠ 0 then (s, [], (hO m lp s e).2.2.2)
  else if (hO m lp s e).2.1.all (sndOk m.dl.L e.1) = true then
    (((hO m lp s e).1, s.2.1 + ((hO m lp s e).2.1.length : Int), (hO m lp s e).2.2.1), sndV m.dl.L e.1 m.fin lp s.2.1 0 (hO m lp s e).2.1, 0)
  else (s, [], 7)
def mayB (m : Mdl) (lp : Int) (s : StP) (e : Ev) : Bool := decide (0 ≤ lp ∧ lp < m.ll.L.length ∧ ¬ isNan e.1 ∧ s.1.length ≤ 8) && (cntB s.2.1 && cntB s.2.2)
def hE (m : Mdl) (lp : Int) (s : StP) (e : Ev) : Int := if chkB m = true then (if mayB m lp s e = true then 0 else 2) else 15
def hR (m : Mdl) (lp : Int) (s : StP) (e : Ev) : StP × List Ev × Int := if hE m lp s e = 0 then hV m lp s e else (([], 0, 0), [], 0)
/-- States. -/
structure St where
  wd : Sl Int
  sent : Int
  dice : Int
def St.val (s : St) : Value := .agg #[s.wd.val, .int .i64 s.sent, .int .i64 s.dice]
def St.At (w : World) (s : St) : Prop := s.wd.At IntAt 1 w ∧ I64 s.sent ∧ I64 s.dice
def St.pl (s : St) : StP := (s.wd.L, s.sent, s.dice)
theorem St.At.below {w w' : World} {s : St} (h : s.At w) (hb : Below w.heap.size w w') : s.At w' := ⟨h.1.below IntAt.keeps hb, h.2⟩
end Go.Proofs.Ytpfcmfannkbipaa
