/- What a model that may be is like; what lies where behind the machine's run. No condition. -/
import Derived.Test.YtpfcmfannkbipaaAct5
set_option linter.unusedVariables false
set_option linter.unusedSimpArgs false
set_option maxRecDepth 20000
namespace Go.Proofs.Ytpfcmfannkbipaa
open Go.RowKit Go.Deep

attribute [local go_sem] run_store_float
theorem chk_parts {m : Mdl} (h : chkB m = true) : countsB m = true ∧ ¬ isNan m.fin ∧ m.dl.L.all posB = true ∧ m.pl.L.all (fun p => progB p.L) = true ∧ m.ll.L.all (lpB m.pl.L.length) = true ∧ m.il.L.all (initB m.ll.L.length) = true := by
  unfold chkB at h
  simp only [Bool.and_eq_true, Bool.not_eq_true', decide_eq_false_iff_not] at h
  obtain ⟨⟨⟨⟨⟨h1, h2⟩, h3⟩, h4⟩, h5⟩, h6⟩ := h
  exact ⟨h1, h2, h3, h4, h5, h6⟩
theorem chk_counts {m : Mdl} (h : chkB m = true) : 1 ≤ m.ll.L.length ∧ m.ll.L.length ≤ 6 ∧ 1 ≤ m.pl.L.length ∧ m.pl.L.length ≤ 4 ∧ 1 ≤ m.dl.L.length ∧ m.dl.L.length ≤ 8 ∧ m.il.L.length ≤ 16 := by
  have := (chk_parts h).1
  unfold countsB at this
  simpa using this
theorem chk_lp {m : Mdl} (h : chkB m = true) {lp : Int} (h0 : 0 ≤ lp) (h1 : lp < m.ll.L.length) :
    ∃ x s, m.ll.L[lp.toNat]? = some x ∧ m.pl.L[x.1.toNat]? = some s ∧ 0 ≤ x.1 ∧ x.1 < m.pl.L.length ∧ x.2.L.length ≤ 8 ∧ mpl m lp = s.L := by
  have hl : lp.toNat < m.ll.L.length := by omega
  have hx := List.getElem?_eq_getElem hl
  have hb := List.all_eq_true.1 (chk_parts h).2.2.2.2.1 _ (List.getElem_mem hl)
  unfold lpB at hb
  rw [decide_eq_true_eq] at hb
  have hp : (m.ll.L[lp.toNat]).1.toNat < m.pl.L.length := by omega
  refine ⟨_, _, hx, List.getElem?_eq_getElem hp, hb.1, hb.2.1, hb.2.2, ?_⟩
  unfold mpl
  rw [hx]
  simp only
  rw [List.getElem?_eq_getElem hp]
theorem OwnR.sl {α : Type} {d : Dec α} {enc : α → List Value} {ok : World → α → Prop} {e : TypeId} {size : Nat} (hsz : 0 < size) (hlen : ∀ x, (enc x).length = size) (hm : Makes d enc ok) {w : World} {B : Nat} {s : Sl α}
    (h : OwnR e size enc w B s.val s.L) (hok : ∀ x ∈ s.L, ok w x) : s.At d size w := by
  obtain ⟨t, hv, hL, hA⟩ := OwnR.at_ hsz hlen hm h hok
  have e : s = t := by
    obtain ⟨A, k, L⟩ := t
    obtain ⟨A', k', L'⟩ := s
    simp only [Sl.val] at hv hL
    injection hv with e1 e2 e3
    subst e1 e3 hL
    rfl
  rw [e]
  exact hA
theorem Below.swap {a X : World} {B : Nat} {o o' : Obj} (h : Below B a (X.alloc o)) (hs : B ≤ X.heap.size) (ha : a.heap.size ≤ X.heap.size) : Below B a (X.alloc o') :=
  ⟨h.os, h.tape, h.output, Nat.le_trans ha (by simp), fun i hi => (Below.heap_alloc X o' i (Nat.lt_of_lt_of_le hi hs)).trans ((Below.heap_alloc X o i (Nat.lt_of_lt_of_le hi hs)).symm.trans (h.block i hi))⟩
/-- What lies where behind the machine's run, its output in a box. -/
def HanC (W0 : World) (o : OutV) (x : Value) (wx : World) : Prop := ∃ (gx : Nat) (A : Option Addr) (c : Nat) (A' : Option Addr) (c' : Nat), x = .pointer (some ⟨gx, 0, none⟩) ∧ W0.heap.size ≤ gx ∧
  Blk wx gx 115 #[.slice A o.1.length c, .slice A' o.2.1.length c', .int .i64 o.2.2.1, .int .i64 o.2.2.2] ∧ OwnR 3 1 encInt wx W0.heap.size (.slice A o.1.length c) o.1 ∧ OwnR 130 3 encSnt wx W0.heap.size (.slice A' o.2.1.length c') o.2.1 ∧ Below W0.heap.size W0 wx
theorem hanC_late {W0 wR : World} {o : OutV} {A : Option Addr} {c : Nat} {A' : Option Addr} {c' : Nat} (hb : Below W0.heap.size W0 wR) (h1 : OwnR 3 1 encInt wR W0.heap.size (.slice A o.1.length c) o.1) (h2 : OwnR 130 3 encSnt wR W0.heap.size (.slice A' o.2.1.length c') o.2.1) :
    HanC W0 o (.pointer (some ⟨wR.heap.size, 0, none⟩)) (wR.alloc (.cells #[.slice A o.1.length c, .slice A' o.2.1.length c', .int .i64 o.2.2.1, .int .i64 o.2.2.2] 115)) := by
  have ha := (Below.refl wR.heap.size wR).alloc (Nat.le_refl _) (.cells #[.slice A o.1.length c, .slice A' o.2.1.length c', .int .i64 o.2.2.1, .int .i64 o.2.2.2] 115)
  exact ⟨_, A, c, A', c', rfl, hb.size, Blk.new _ _ _, h1.below ha, h2.below ha, below_after hb ha⟩
theorem hanC_first {W0 wR : World} {o : OutV} {A : Option Addr} {c : Nat} {A' : Option Addr} {c' : Nat} {gx : Nat} {cs : Array Value} (hcs : cs.size = 4) (hg : W0.heap.size ≤ gx) (hX : Blk wR gx 115 cs) (hb : Below W0.heap.size W0 wR) (h1 : OwnR 3 1 encInt wR (gx + 1) (.slice A o.1.length c) o.1) (h2 : OwnR 130 3 encSnt wR (gx + 1) (.slice A' o.2.1.length c') o.2.1) :
    HanC W0 o (.pointer (some ⟨gx, 0, none⟩)) ((((wR.setCell ⟨gx, 0, none⟩ (.slice A o.1.length c)).setCell ⟨gx, 1, none⟩ (.slice A' o.2.1.length c')).setCell ⟨gx, 2, none⟩ (.int .i64 o.2.2.1)).setCell ⟨gx, 3, none⟩ (.int .i64 o.2.2.2)) := by
  have hlt : gx < gx + 1 := Nat.lt_succ_self gx
  refine ⟨gx, A, c, A', c', rfl, hg, ?_, ?_, ?_, ?_⟩
  · have := (((hX.set_ 0 (.slice A o.1.length c)).set_ 1 (.slice A' o.2.1.length c')).set_ 2 (.int .i64 o.2.2.1)).set_ 3 (.int .i64 o.2.2.2)
    obtain ⟨l⟩ := cs
    match l, hcs with
    | [c0, c1, c2, c3], _ => simpa using this
  · exact OwnR.lower ((((h1.setCell hlt _).setCell hlt _).setCell hlt _).setCell hlt _) (by omega)
  · exact OwnR.lower ((((h2.setCell hlt _).setCell hlt _).setCell hlt _).setCell hlt _) (by omega)
  · exact (((hb.setCell hg _).setCell hg _).setCell hg _).setCell hg _
end Go.Proofs.Ytpfcmfannkbipaa
