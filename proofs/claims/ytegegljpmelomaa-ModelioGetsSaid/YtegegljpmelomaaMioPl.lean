/- A model as words, and words read as a model, plainly: what was laid is read as it was, and what is read is laid as it was. No condition, and no program. -/
namespace Go.Proofs.Ytegegljpmelomaa.Mio
def ofI (n : Int) : Nat := (n + 9223372036854775808).toNat
def toI (w : Nat) : Int := (w : Int) - 9223372036854775808
def okI (n : Int) : Prop := -9223372036854775808 ≤ n ∧ n ≤ 9223372036854775807
def okW (w : Nat) : Prop := w < 18446744073709551616
theorem toI_ofI {n : Int} (h : okI n) : toI (ofI n) = n := by unfold toI ofI; unfold okI at h; omega
theorem ofI_toI (w : Nat) : ofI (toI w) = w := by unfold toI ofI; omega
theorem ofI_ok {n : Int} (h : okI n) : okW (ofI n) := by unfold ofI okW; unfold okI at h; omega
theorem toI_ok {w : Nat} (h : okW w) : okI (toI w) := by unfold toI okI; unfold okW at h; omega
abbrev Ins := Int × Int × Int × Int
abbrev LP := Int × List Int
abbrev Ini := Nat × Int × Int
structure Mod where
  seed : Int
  fin : Nat
  dl : List Nat
  pl : List (List Ins)
  ll : List LP
  il : List Ini

/-! Laid. -/
def layF (d : Nat) : List Nat := [d]
def layI (n : Int) : List Nat := [ofI n]
def layIns (x : Ins) : List Nat := [ofI x.1, ofI x.2.1, ofI x.2.2.1, ofI x.2.2.2]
def layIni (x : Ini) : List Nat := [x.1, ofI x.2.1, ofI x.2.2]
def layL {α : Type} (one : α → List Nat) (l : List α) : List Nat := ofI (l.length : Int) :: l.flatMap one
def layLP (x : LP) : List Nat := ofI x.1 :: layL layI x.2
def layM (m : Mod) : List Nat := ofI m.seed :: m.fin :: (layL layF m.dl ++ (layL (layL layIns) m.pl ++ (layL layLP m.ll ++ layL layIni m.il)))

/-! Read. 5: bytes end; 6: bytes that nobody lays so. -/
abbrev Rd (α : Type) := Except Int (α × List Nat)
def thenR {α β : Type} (x : Rd α) (f : α → List Nat → Rd β) : Rd β := match x with
  | .error e => .error e
  | .ok (a, r) => f a r
theorem thenR_k {α β : Type} (a : α) (r : List Nat) (f : α → List Nat → Rd β) : thenR (.ok (a, r)) f = f a r := rfl
def pF : List Nat → Rd Nat
  | [] => .error 5
  | w :: r => .ok (w, r)
def pI : List Nat → Rd Int
  | [] => .error 5
  | w :: r => .ok (toI w, r)
def pC (ws : List Nat) : Rd Nat := thenR (pI ws) fun n r => if n < 0 ∨ 48 < n then .error 6 else .ok (n.toNat, r)
def pN {α : Type} (one : List Nat → Rd α) : Nat → List Nat → Rd (List α)
  | 0, ws => .ok ([], ws)
  | n + 1, ws => thenR (one ws) fun x r => thenR (pN one n r) fun l r' => .ok (x :: l, r')
def pL {α : Type} (one : List Nat → Rd α) (ws : List Nat) : Rd (List α) := thenR (pC ws) fun n r => pN one n r
def pIns (ws : List Nat) : Rd Ins := thenR (pI ws) fun a r => thenR (pI r) fun b r => thenR (pI r) fun c r => thenR (pI r) fun d r => .ok ((a, b, c, d), r)
def pIni (ws : List Nat) : Rd Ini := thenR (pF ws) fun a r => thenR (pI r) fun b r => thenR (pI r) fun c r => .ok ((a, b, c), r)
def pLP (ws : List Nat) : Rd LP := thenR (pI ws) fun a r => thenR (pL pI r) fun l r => .ok ((a, l), r)
def pM (ws : List Nat) : Rd Mod := thenR (pI ws) fun s r => thenR (pF r) fun f r => thenR (pL pF r) fun d r => thenR (pL (pL pIns) r) fun p r => thenR (pL pLP r) fun l r => thenR (pL pIni r) fun i r => .ok (⟨s, f, d, p, l, i⟩, r)

/-! What was laid is read as it was. -/
def Back {α : Type} (one : List Nat → Rd α) (lay : α → List Nat) (ok : α → Prop) : Prop := ∀ x, ok x → ∀ r, one (lay x ++ r) = .ok (x, r)
theorem back_F : Back pF layF (fun _ => True) := fun _ _ _ => rfl
theorem back_I : Back pI layI okI := fun x h r => by show Except.ok (toI (ofI x), r) = _; rw [toI_ofI h]
theorem pI_cons {n : Int} (h : okI n) (r : List Nat) : pI (ofI n :: r) = .ok (n, r) := by show Except.ok (toI (ofI n), r) = _; rw [toI_ofI h]
theorem back_Ins : Back pIns layIns (fun x => okI x.1 ∧ okI x.2.1 ∧ okI x.2.2.1 ∧ okI x.2.2.2) := fun x h r => by
  unfold pIns layIns
  simp only [List.cons_append, List.nil_append, pI_cons h.1, pI_cons h.2.1, pI_cons h.2.2.1, pI_cons h.2.2.2, thenR]
theorem back_Ini : Back pIni layIni (fun x => okI x.2.1 ∧ okI x.2.2) := fun x h r => by
  unfold pIni layIni
  simp only [List.cons_append, List.nil_append, pF, pI_cons h.1, pI_cons h.2, thenR]
theorem back_N {α : Type} {one : List Nat → Rd α} {lay : α → List Nat} {ok : α → Prop} (h : Back one lay ok) : ∀ (l : List α), (∀ x ∈ l, ok x) → ∀ r, pN one l.length (l.flatMap lay ++ r) = .ok (l, r)
  | [], _, r => rfl
  | x :: l, hl, r => by
    rw [List.flatMap_cons, List.append_assoc, List.length_cons, pN, h x (hl x (by simp))]
    simp only [thenR]
    rw [back_N h l (fun y hy => hl y (by simp [hy])) r]
theorem pC_cons {n : Nat} (h : n ≤ 48) (r : List Nat) : pC (ofI (n : Int) :: r) = .ok (n, r) := by
  unfold pC
  rw [pI_cons (by unfold okI; omega)]
  simp only [thenR]
  rw [if_neg (by omega)]
  simp
theorem back_L {α : Type} {one : List Nat → Rd α} {lay : α → List Nat} {ok : α → Prop} (h : Back one lay ok) : Back (pL one) (layL lay) (fun l => l.length ≤ 48 ∧ ∀ x ∈ l, ok x) := fun l hl r => by
  unfold pL layL
  rw [List.cons_append, pC_cons hl.1]
  simp only [thenR]
  exact back_N h l hl.2 r
theorem back_LP : Back pLP layLP (fun x => okI x.1 ∧ x.2.length ≤ 48 ∧ ∀ y ∈ x.2, okI y) := fun x h r => by
  obtain ⟨p, l⟩ := x
  have h1 := back_L back_I l h.2 r
  unfold pLP layLP
  rw [List.cons_append, pI_cons h.1, thenR_k]
  exact (congrArg (fun z => thenR z _) h1).trans (thenR_k _ _ _)
structure ModOk (m : Mod) : Prop where
  seed : okI m.seed
  dl : m.dl.length ≤ 48 ∧ ∀ x ∈ m.dl, True
  pl : m.pl.length ≤ 48 ∧ ∀ p ∈ m.pl, p.length ≤ 48 ∧ ∀ x ∈ p, okI x.1 ∧ okI x.2.1 ∧ okI x.2.2.1 ∧ okI x.2.2.2
  ll : m.ll.length ≤ 48 ∧ ∀ x ∈ m.ll, okI x.1 ∧ x.2.length ≤ 48 ∧ ∀ y ∈ x.2, okI y
  il : m.il.length ≤ 48 ∧ ∀ x ∈ m.il, okI x.2.1 ∧ okI x.2.2
theorem then_of {α β : Type} {x : Rd α} {a : α} {r : List Nat} {f : α → List Nat → Rd β} {y : Rd β} (h : x = .ok (a, r)) (hf : f a r = y) : thenR x f = y := by rw [h, thenR_k, hf]
theorem back_M : Back pM layM ModOk := fun m h r => by
  obtain ⟨s, f, d, p, l, i⟩ := m
  have e : layM ⟨s, f, d, p, l, i⟩ ++ r = ofI s :: f :: (layL layF d ++ (layL (layL layIns) p ++ (layL layLP l ++ (layL layIni i ++ r)))) := by
    unfold layM
    simp only [List.cons_append, List.append_assoc]
  rw [e]
  unfold pM
  refine then_of (pI_cons h.seed _) (then_of (a := f) rfl (then_of (back_L back_F d h.dl _) (then_of (back_L (back_L back_Ins) p h.pl _) (then_of (back_L back_LP l h.ll _) (then_of (back_L back_Ini i h.il _) rfl)))))
theorem lay_inj {a b : Mod} (ha : ModOk a) (hb : ModOk b) (h : layM a = layM b) : a = b := by
  have h1 := back_M a ha []
  have h2 := back_M b hb []
  rw [h] at h1
  rw [h1] at h2
  exact congrArg Prod.fst (Except.ok.inj h2)

/-! What is read is laid as it was. -/
def Once {α : Type} (one : List Nat → Rd α) (lay : α → List Nat) : Prop := ∀ ws x r, one ws = .ok (x, r) → ws = lay x ++ r
theorem thenR_ok {α β : Type} {x : Rd α} {f : α → List Nat → Rd β} {y : β × List Nat} (h : thenR x f = .ok y) : ∃ a r, x = .ok (a, r) ∧ f a r = .ok y := by
  unfold thenR at h
  cases x with
  | error e => cases h
  | ok p => obtain ⟨a, r⟩ := p; exact ⟨a, r, rfl, h⟩
theorem once_F : Once pF layF := fun ws x r h => by
  cases ws with
  | nil => cases h
  | cons w t => cases h; rfl
theorem once_I : Once pI layI := fun ws x r h => by
  cases ws with
  | nil => cases h
  | cons w t =>
    obtain ⟨rfl, rfl⟩ : toI w = x ∧ t = r := by
      have := Except.ok.inj h
      exact ⟨congrArg Prod.fst this, congrArg Prod.snd this⟩
    show w :: t = ofI (toI w) :: t
    rw [ofI_toI]
theorem once_Ins : Once pIns layIns := fun ws x r h => by
  obtain ⟨a, r1, h1, h⟩ := thenR_ok h
  obtain ⟨b, r2, h2, h⟩ := thenR_ok h
  obtain ⟨c, r3, h3, h⟩ := thenR_ok h
  obtain ⟨d, r4, h4, h⟩ := thenR_ok h
  cases h
  rw [once_I _ _ _ h1, once_I _ _ _ h2, once_I _ _ _ h3, once_I _ _ _ h4]
  rfl
theorem once_Ini : Once pIni layIni := fun ws x r h => by
  obtain ⟨a, r1, h1, h⟩ := thenR_ok h
  obtain ⟨b, r2, h2, h⟩ := thenR_ok h
  obtain ⟨c, r3, h3, h⟩ := thenR_ok h
  cases h
  rw [once_F _ _ _ h1, once_I _ _ _ h2, once_I _ _ _ h3]
  rfl
theorem once_N {α : Type} {one : List Nat → Rd α} {lay : α → List Nat} (h : Once one lay) : ∀ n ws l r, pN one n ws = .ok (l, r) → ws = l.flatMap lay ++ r ∧ l.length = n
  | 0, ws, l, r, e => by cases e; exact ⟨rfl, rfl⟩
  | n + 1, ws, l, r, e => by
    obtain ⟨x, r1, h1, e⟩ := thenR_ok e
    obtain ⟨t, r2, h2, e⟩ := thenR_ok e
    cases e
    obtain ⟨h3, h4⟩ := once_N h n _ _ _ h2
    refine ⟨?_, by simp [h4]⟩
    rw [h _ _ _ h1, h3, List.flatMap_cons, List.append_assoc]
theorem once_C {ws : List Nat} {n : Nat} {r : List Nat} (h : pC ws = .ok (n, r)) : ws = ofI (n : Int) :: r ∧ n ≤ 48 := by
  obtain ⟨a, r1, h1, h⟩ := thenR_ok h
  split at h
  · cases h
  · rename_i hn
    obtain ⟨rfl, rfl⟩ : a.toNat = n ∧ r1 = r := by
      have := Except.ok.inj h
      exact ⟨congrArg Prod.fst this, congrArg Prod.snd this⟩
    have := once_I _ _ _ h1
    rw [this]
    refine ⟨?_, by omega⟩
    show ofI a :: r1 = ofI (a.toNat : Int) :: r1
    rw [Int.toNat_of_nonneg (by omega)]
theorem once_L {α : Type} {one : List Nat → Rd α} {lay : α → List Nat} (h : Once one lay) : Once (pL one) (layL lay) := fun ws l r e => by
  obtain ⟨n, r1, h1, e⟩ := thenR_ok e
  obtain ⟨h2, h3⟩ := once_N h _ _ _ _ e
  rw [(once_C h1).1, h2, ← h3]
  rfl
theorem once_LP : Once pLP layLP := fun ws x r h => by
  obtain ⟨a, r1, h1, h⟩ := thenR_ok h
  obtain ⟨l, r2, h2, h⟩ := thenR_ok h
  cases h
  rw [once_I _ _ _ h1, once_L once_I _ _ _ h2]
  rfl
theorem once_M : Once pM layM := fun ws x r h => by
  obtain ⟨a, r1, h1, h⟩ := thenR_ok h
  obtain ⟨b, r2, h2, h⟩ := thenR_ok h
  obtain ⟨c, r3, h3, h⟩ := thenR_ok h
  obtain ⟨d, r4, h4, h⟩ := thenR_ok h
  obtain ⟨e, r5, h5, h⟩ := thenR_ok h
  obtain ⟨f, r6, h6, h⟩ := thenR_ok h
  cases h
  rw [once_I _ _ _ h1, once_F _ _ _ h2, once_L once_F _ _ _ h3, once_L (once_L once_Ins) _ _ _ h4, once_L once_LP _ _ _ h5, once_L once_Ini _ _ _ h6]
  simp only [layM, layI, layF, List.cons_append, List.nil_append, List.append_assoc]

/-! What cannot be read falls by 5 or 6. -/
def Errs {α : Type} (one : List Nat → Rd α) : Prop := ∀ ws e, one ws = .error e → e = 5 ∨ e = 6
theorem thenR_err {α β : Type} {x : Rd α} {f : α → List Nat → Rd β} {e : Int} (h : thenR x f = .error e) : x = .error e ∨ ∃ a r, f a r = .error e := by
  unfold thenR at h
  cases x with
  | error d => cases h; exact .inl rfl
  | ok p => obtain ⟨a, r⟩ := p; exact .inr ⟨a, r, h⟩
theorem errs_F : Errs pF := fun ws e h => by
  cases ws with
  | nil => cases h; exact .inl rfl
  | cons w t => cases h
theorem errs_I : Errs pI := fun ws e h => by
  cases ws with
  | nil => cases h; exact .inl rfl
  | cons w t => cases h
theorem errs_C : Errs pC := fun ws e h => by
  rcases thenR_err h with h | ⟨a, r, h⟩
  · exact errs_I _ _ h
  · split at h
    · cases h; exact .inr rfl
    · cases h
theorem errs_N {α : Type} {one : List Nat → Rd α} (h : Errs one) : ∀ n, Errs (pN one n)
  | 0, _, _, e => by cases e
  | n + 1, ws, e, he => by
    rcases thenR_err he with he | ⟨a, r, he⟩
    · exact h _ _ he
    · rcases thenR_err he with he | ⟨b, q, he⟩
      · exact errs_N h n _ _ he
      · cases he
theorem errs_L {α : Type} {one : List Nat → Rd α} (h : Errs one) : Errs (pL one) := fun ws e he => by
  rcases thenR_err he with he | ⟨a, r, he⟩
  · exact errs_C _ _ he
  · exact errs_N h _ _ _ he
theorem errs_Ins : Errs pIns := fun ws e h => by
  rcases thenR_err h with h | ⟨a, r, h⟩
  · exact errs_I _ _ h
  rcases thenR_err h with h | ⟨a, r, h⟩
  · exact errs_I _ _ h
  rcases thenR_err h with h | ⟨a, r, h⟩
  · exact errs_I _ _ h
  rcases thenR_err h with h | ⟨a, r, h⟩
  · exact errs_I _ _ h
  · cases h
theorem errs_Ini : Errs pIni := fun ws e h => by
  rcases thenR_err h with h | ⟨a, r, h⟩
  · exact errs_F _ _ h
  rcases thenR_err h with h | ⟨a, r, h⟩
  · exact errs_I _ _ h
  rcases thenR_err h with h | ⟨a, r, h⟩
  · exact errs_I _ _ h
  · cases h
theorem errs_LP : Errs pLP := fun ws e h => by
  rcases thenR_err h with h | ⟨a, r, h⟩
  · exact errs_I _ _ h
  rcases thenR_err h with h | ⟨a, r, h⟩
  · exact errs_L errs_I _ _ h
  · cases h
theorem errs_M : Errs pM := fun ws e h => by
  rcases thenR_err h with h | ⟨a, r, h⟩
  · exact errs_I _ _ h
  rcases thenR_err h with h | ⟨a, r, h⟩
  · exact errs_F _ _ h
  rcases thenR_err h with h | ⟨a, r, h⟩
  · exact errs_L errs_F _ _ h
  rcases thenR_err h with h | ⟨a, r, h⟩
  · exact errs_L (errs_L errs_Ins) _ _ h
  rcases thenR_err h with h | ⟨a, r, h⟩
  · exact errs_L errs_LP _ _ h
  rcases thenR_err h with h | ⟨a, r, h⟩
  · exact errs_L errs_Ini _ _ h
  · cases h
theorem pM_err {ws : List Nat} (h : pM ws = .error 0) : False := by
  rcases errs_M _ _ h with h | h <;> cases h

/-! Items one by one: what a loop has, and what is to come. -/
def andThen {α : Type} (out : List α) (x : Rd (List α)) : Rd (List α) := thenR x fun l r => .ok (out ++ l, r)
theorem items_start {α : Type} (x : Rd (List α)) : andThen [] x = x := by
  unfold andThen thenR
  cases x with
  | error e => rfl
  | ok p => rfl
theorem items_step {α : Type} {one : List Nat → Rd α} {n : Nat} {ws r : List Nat} {out : List α} {x : α} (h : one ws = .ok (x, r)) : andThen out (pN one (n + 1) ws) = andThen (out ++ [x]) (pN one n r) := by
  rw [pN, h]
  unfold andThen thenR
  simp only
  cases pN one n r with
  | error e => rfl
  | ok p => simp
theorem items_fall {α : Type} {one : List Nat → Rd α} {n : Nat} {ws : List Nat} {out : List α} {e : Int} (h : one ws = .error e) : andThen out (pN one (n + 1) ws) = .error e := by
  rw [pN, h]
  rfl
theorem items_end {α : Type} {one : List Nat → Rd α} {ws : List Nat} {out : List α} : andThen out (pN one 0 ws) = .ok (out, ws) := by
  unfold andThen thenR
  rw [pN]
  simp
end Go.Proofs.Ytegegljpmelomaa.Mio
