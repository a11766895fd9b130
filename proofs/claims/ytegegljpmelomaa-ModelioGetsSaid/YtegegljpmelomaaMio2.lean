/- A string of bytes as words; a model in memory, plainly. No condition. -/
import Derived.Test.YtegegljpmelomaaMioPl
import Derived.Test.YtegegljpmelomaaPackPl3
import Derived.Test.YtegegljpmelomaaChk
set_option linter.unusedVariables false
set_option maxRecDepth 20000
namespace Go.Proofs.Ytegegljpmelomaa
open Go.RowKit Go.Deep

def wsB (ws : List Nat) : List UInt8 := ws.flatMap (be 8)
def strW (ws : List Nat) : ByteArray := bs (wsB ws)
theorem wsB_cons (w : Nat) (ws : List Nat) : wsB (w :: ws) = be 8 w ++ wsB ws := rfl
theorem wsB_app (a b : List Nat) : wsB (a ++ b) = wsB a ++ wsB b := List.flatMap_append
theorem wsB_len : ∀ ws : List Nat, (wsB ws).length = 8 * ws.length
  | [] => rfl
  | w :: ws => by rw [wsB_cons, List.length_append, be_length, wsB_len ws, List.length_cons]; omega
theorem strW_app (a b : List Nat) : strW (a ++ b) = strW a ++ strW b := by unfold strW; rw [wsB_app, bs_app]
theorem strW_size (ws : List Nat) : (strW ws).size = 8 * ws.length := by unfold strW; rw [bs_size, wsB_len]
theorem uS_w (w : Nat) : uS (w : Int) = strW [w] := by
  unfold uS strW wsB
  simp
theorem iS_w {n : Int} (h : Mio.okI n) : iS n = strW [Mio.ofI n] := by
  unfold Mio.okI at h
  unfold iS
  rw [IntKind.wrap_u64, show (n + 9223372036854775808) % 18446744073709551616 = ((Mio.ofI n : Nat) : Int) by unfold Mio.ofI; omega]
  exact uS_w _
theorem unI_w {w : Nat} (h : Mio.okW w) : unI (w : Int) = Mio.toI w := by
  unfold Mio.okW at h
  unfold unI Mio.toI wrap64
  rw [IntKind.wrap_u64]
  omega
def wordsOf (s : ByteArray) : List Nat := (List.range (s.size / 8)).map fun k => rdN s (8 * k) 8
theorem words_len (s : ByteArray) : (wordsOf s).length = s.size / 8 := by simp [wordsOf]
theorem words_ok (s : ByteArray) : ∀ w ∈ wordsOf s, Mio.okW w := by
  intro w hw
  obtain ⟨k, _, rfl⟩ := List.mem_map.1 hw
  have := rdN_lt s (8 * k) 8
  unfold Mio.okW
  omega
theorem words_more {s : ByteArray} {k : Nat} (h : 8 * k + 8 ≤ s.size) : (wordsOf s).drop k = rdN s (8 * k) 8 :: (wordsOf s).drop (k + 1) := by
  have hk : k < (wordsOf s).length := by rw [words_len]; omega
  rw [List.drop_eq_getElem_cons hk]
  congr 1
  simp [wordsOf]
theorem words_none {s : ByteArray} {k : Nat} (h : s.size < 8 * k + 8) : (wordsOf s).drop k = [] := List.drop_eq_nil_of_le (by rw [words_len]; omega)
theorem words_str {ws : List Nat} (h : ∀ w ∈ ws, Mio.okW w) : wordsOf (strW ws) = ws := by
  refine List.ext_getElem (by rw [words_len, strW_size]; omega) fun k hk hk' => ?_
  have e : (strW ws).data.toList = wsB (ws.take k) ++ (be 8 ws[k] ++ wsB (ws.drop (k + 1))) := by
    show wsB ws = _
    rw [← wsB_cons, ← wsB_app, ← List.drop_eq_getElem_cons hk', List.take_append_drop]
  have h1 := rdN_at (strW ws) _ _ _ e
  rw [wsB_len, be_length, List.length_take, Nat.min_eq_left (by omega), num_be] at h1
  have h2 := h _ (List.getElem_mem hk')
  unfold Mio.okW at h2
  rw [Nat.mod_eq_of_lt h2] at h1
  simp only [wordsOf, List.getElem_map, List.getElem_range]
  exact h1
theorem chunks (l : List UInt8) : ∀ n, 8 * n ≤ l.length → (List.range n).flatMap (fun k => (l.drop (8 * k)).take 8) = l.take (8 * n)
  | 0, _ => by simp
  | n + 1, h => by
    rw [List.range_succ, List.flatMap_append, chunks l n (by omega), show 8 * (n + 1) = 8 * n + 8 by omega, List.take_add]
    simp
theorem flat_congr {α β : Type} {f g : α → List β} : ∀ {l : List α}, (∀ x ∈ l, f x = g x) → l.flatMap f = l.flatMap g
  | [], _ => rfl
  | x :: l, h => by rw [List.flatMap_cons, List.flatMap_cons, h x (by simp), flat_congr fun y hy => h y (by simp [hy])]
theorem str_words {s : ByteArray} (h : s.size % 8 = 0) : strW (wordsOf s) = s := by
  have e : wsB (wordsOf s) = s.data.toList := by
    unfold wsB wordsOf
    rw [List.flatMap_map]
    have h1 : ∀ k ∈ List.range (s.size / 8), be 8 (rdN s (8 * k) 8) = (s.data.toList.drop (8 * k)).take 8 := fun k hk => be_rdN s _ _ (by have := List.mem_range.1 hk; omega)
    rw [flat_congr h1, chunks _ _ (by rw [dlen]; omega), List.take_of_length_le (by rw [dlen]; omega)]
  unfold strW
  rw [e, bs_of]

/-! A model, plainly. -/
def modOf (m : Mdl) : Mio.Mod := ⟨m.seed, m.fin, m.dl.L, m.pl.L.map (·.L), m.ll.L.map (fun x => (x.1, x.2.L)), m.il.L⟩
def lpM (np : Nat) (x : Mio.LP) : Bool := decide (0 ≤ x.1 ∧ x.1 < np ∧ x.2.length ≤ 8)
def chkM (m : Mio.Mod) : Bool := decide (1 ≤ m.ll.length ∧ m.ll.length ≤ 6 ∧ 1 ≤ m.pl.length ∧ m.pl.length ≤ 4 ∧ 1 ≤ m.dl.length ∧ m.dl.length ≤ 8 ∧ m.il.length ≤ 16) && !decide (isNan m.fin) && m.dl.all posB && m.pl.all progB && m.ll.all (lpM m.pl.length) && m.il.all (initB m.ll.length)
theorem chk_mod (m : Mdl) : chkB m = chkM (modOf m) := by
  unfold chkB chkM countsB modOf
  simp only [List.length_map, List.all_map]
  rfl
/-- What bytes are, read as a model: the error, and the model. -/
def getE (s : ByteArray) : Int := match Mio.pM (wordsOf s) with
  | .error e => e
  | .ok (m, r) => if r ≠ [] ∨ s.size % 8 ≠ 0 then 6 else if chkM m then 0 else 15
def emptyM : Mio.Mod := ⟨0, 0, [], [], [], []⟩
def getM (s : ByteArray) : Mio.Mod := match Mio.pM (wordsOf s) with
  | .error _ => emptyM
  | .ok (m, r) => if r ≠ [] ∨ s.size % 8 ≠ 0 then emptyM else if chkM m then m else emptyM
def putS (m : Mio.Mod) : ByteArray := strW (Mio.layM m)
theorem lay_okW {m : Mio.Mod} (h : Mio.ModOk m) (hf : Mio.okW m.fin) (hd : ∀ d ∈ m.dl, Mio.okW d) (hi : ∀ x ∈ m.il, Mio.okW x.1) : ∀ w ∈ Mio.layM m, Mio.okW w := by
  have hL : ∀ {α : Type} (one : α → List Nat) (l : List α), l.length ≤ 48 → (∀ x ∈ l, ∀ w ∈ one x, Mio.okW w) → ∀ w ∈ Mio.layL one l, Mio.okW w := by
    intro α one l hl ho w hw
    unfold Mio.layL at hw
    rcases List.mem_cons.1 hw with rfl | hw
    · exact Mio.ofI_ok (by unfold Mio.okI; omega)
    · obtain ⟨x, hx, hw⟩ := List.mem_flatMap.1 hw
      exact ho x hx w hw
  intro w hw
  unfold Mio.layM at hw
  rcases List.mem_cons.1 hw with rfl | hw
  · exact Mio.ofI_ok h.seed
  rcases List.mem_cons.1 hw with rfl | hw
  · exact hf
  rcases List.mem_append.1 hw with hw | hw
  · exact hL _ _ h.dl.1 (fun x hx w hw => by
      obtain rfl := List.mem_singleton.1 hw
      exact hd _ hx) w hw
  rcases List.mem_append.1 hw with hw | hw
  · refine hL _ _ h.pl.1 (fun p hp => hL _ _ (h.pl.2 p hp).1 fun x hx w hw => ?_) w hw
    obtain ⟨a, b, c, d⟩ := (h.pl.2 p hp).2 x hx
    unfold Mio.layIns at hw
    simp only [List.mem_cons, List.not_mem_nil, or_false] at hw
    rcases hw with rfl | rfl | rfl | rfl
    · exact Mio.ofI_ok a
    · exact Mio.ofI_ok b
    · exact Mio.ofI_ok c
    · exact Mio.ofI_ok d
  rcases List.mem_append.1 hw with hw | hw
  · refine hL _ _ h.ll.1 (fun x hx w hw => ?_) w hw
    obtain ⟨a, b, c⟩ := h.ll.2 x hx
    unfold Mio.layLP at hw
    rcases List.mem_cons.1 hw with rfl | hw
    · exact Mio.ofI_ok a
    · exact hL _ _ b (fun y hy w hw => by
        obtain rfl := List.mem_singleton.1 hw
        exact Mio.ofI_ok (c y hy)) w hw
  · refine hL _ _ h.il.1 (fun x hx w hw => ?_) w hw
    obtain ⟨a, b⟩ := h.il.2 x hx
    unfold Mio.layIni at hw
    simp only [List.mem_cons, List.not_mem_nil, or_false] at hw
    rcases hw with rfl | rfl | rfl
    · exact hi x hx
    · exact Mio.ofI_ok a
    · exact Mio.ofI_ok b
/-- What was laid of a model that may be is got as it was. -/
theorem put_get {m : Mio.Mod} (h : Mio.ModOk m) (hf : Mio.okW m.fin) (hd : ∀ d ∈ m.dl, Mio.okW d) (hi : ∀ x ∈ m.il, Mio.okW x.1) (hc : chkM m = true) : getE (putS m) = 0 ∧ getM (putS m) = m := by
  have h1 : Mio.pM (wordsOf (putS m)) = .ok (m, []) := by
    unfold putS
    rw [words_str (lay_okW h hf hd hi)]
    have := Mio.back_M m h []
    rwa [List.append_nil] at this
  have h2 : (putS m).size % 8 = 0 := by unfold putS; rw [strW_size]; omega
  unfold getE getM
  rw [h1]
  simp [h2, hc]
/-- What is got is laid as it was. -/
theorem get_put {s : ByteArray} (h : getE s = 0) : chkM (getM s) = true ∧ putS (getM s) = s := by
  unfold getE at h
  unfold getM
  cases hp : Mio.pM (wordsOf s) with
  | error e =>
    rw [hp] at h
    simp only at h
    subst h
    -- no reading fails by 0
    exfalso
    exact Mio.pM_err hp
  | ok x =>
    obtain ⟨m, r⟩ := x
    rw [hp] at h
    simp only at h ⊢
    split at h
    · cases h
    · rename_i hr
      split at h
      · rename_i hc
        rw [if_neg hr, if_pos hc]
        have hr1 : r = [] := Classical.byContradiction fun h0 => hr (.inl h0)
        have hr2 : s.size % 8 = 0 := Classical.byContradiction fun h0 => hr (.inr h0)
        refine ⟨hc, ?_⟩
        have := Mio.once_M _ _ _ hp
        rw [hr1, List.append_nil] at this
        unfold putS
        rw [← this]
        exact str_words hr2
      · cases h
end Go.Proofs.Ytegegljpmelomaa
