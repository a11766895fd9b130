/- Texts of this claim in one. No condition. -/
import Derived.Test.YtpfcmfannkbipaaJ24
section
set_option linter.unusedVariables false
set_option maxRecDepth 20000
namespace Go.Proofs.Ytpfcmfannkbipaa
open Go.RowKit Go.Deep
theorem lays_stb : Lays StB encSt := by
  intro w a x h r u hu
  obtain ⟨h0, h1, h2⟩ := h
  have ha := spot_of h0
  rw [ha, add_lit]
  rw [ha] at h0
  rcases r with _ | _ | _ | r
  · rw [← hu]; exact h0
  · rw [← hu]; exact h1
  · rw [← hu]; exact h2
  · simp [encSt] at hu
theorem st_app {w X : World} {b : Nat} {T : List St} {A : Option Addr} {c : Nat} (hb : Below w.heap.size w X) (hz : Blk X b 61 #[]) (hbw : w.heap.size ≤ b) (hT : Reads X X.heap.size 3 A T.length (T.flatMap encSt)) (hs : T.length ≤ 1000000) (ty : TypeId) :
    ∃ (q : Sl St) (X' : World), (Builtin.append_ #[92, 92] ty #[.slice (some ⟨b, 0, none⟩) 0 0, .slice A T.length c]).run Try.prog X = .ok q.val X' ∧ q.L = T ∧ OwnR 61 3 encSt X' w.heap.size q.val q.L ∧ Below w.heap.size w X' := by
  have hown : OwnR 61 3 encSt X w.heap.size (.slice (some ⟨b, 0, none⟩) 0 0) ([] : List St) := ⟨by simp, .inr ⟨b, 0, #[], rfl, hbw, hz, Nat.le_refl _, Nat.zero_le _, by simp, by simp⟩⟩
  obtain ⟨v', X', hrun, hown', hext⟩ := run_append_src (P := Try.prog) 61 92 ty 3 40 (.agg #[.slice none 0 0, .int .i64 0, .int .i64 0]) encSt (by decide) (fun _ => rfl) one_st Try.underlying92 inf_st rfl X w.heap.size X.heap.size _ [] T A T.length c hown hT rfl (by simp; omega) (by simp; omega) hb.size
  rw [List.nil_append] at hown'
  obtain ⟨q, rfl, hqL, _, _⟩ := hown'.form
  exact ⟨q, X', hrun, hqL, by rw [hqL]; exact hown', hb.trans ((Below.refl w.heap.size X).grown hext.1 hb.size fun k hk => hown.base k hk)⟩
theorem flatMap_set {α : Type} (enc : α → List Value) (size : Nat) (hsz : 0 < size) (hlen : ∀ x, (enc x).length = size) (L : List α) (j : Nat) (x : α) (i r : Nat) (hi : i < L.length) (hr : r < size) : ((L.set j x).flatMap enc)[i * size + r]? = if i = j then (enc x)[r]? else (L.flatMap enc)[i * size + r]? := by
  by_cases h : i = j
  · subst h
    rw [if_pos rfl, flatMap_at enc size hsz hlen _ i r x (by rw [List.getElem?_set_self hi]) hr]
  · rw [if_neg h, flatMap_at enc size hsz hlen _ i r L[i] (by rw [List.getElem?_set_ne (Ne.symm h)]; exact List.getElem?_eq_getElem hi) hr, flatMap_at enc size hsz hlen _ i r L[i] (List.getElem?_eq_getElem hi) hr]
/-- An element of three cells of an own row written. -/
theorem OwnR.set3 {α : Type} {e : TypeId} {enc : α → List Value} (hlen : ∀ x, (enc x).length = 3) {w : World} {B : Nat} {A : Option Addr} {c : Nat} {L : List α} (h : OwnR e 3 enc w B (.slice A L.length c) L) {j : Nat} (hj : j < L.length) (x : α) (u0 u1 u2 : Value) (hx : enc x = [u0, u1, u2]) :
    ∃ g cur, A = some ⟨g, 0, none⟩ ∧ B ≤ g ∧ Blk w g e cur ∧ j * 3 + 2 < cur.size ∧ OwnR e 3 enc (((w.setCell ⟨g, j * 3, none⟩ u0).setCell ⟨g, j * 3 + 1, none⟩ u1).setCell ⟨g, j * 3 + 2, none⟩ u2) B (.slice A (L.set j x).length c) (L.set j x) := by
  obtain ⟨h1, h2⟩ := h
  have hl3 := flatMap_len enc 3 hlen
  rcases h2 with ⟨he, -⟩ | ⟨g, cap, cur, hv, hB, hh, hn, hm, hs, ht⟩
  · injection he with _ h4 _
    omega
  · injection hv with hv1 _ hv3
    subst hv1 hv3
    have hblk : Blk w g e cur := hh
    have hjc : j * 3 + 2 < cur.size := by omega
    refine ⟨g, cur, rfl, hB, hblk, hjc, ?_, .inr ⟨g, c, _, rfl, hB, ((hblk.set_ (j * 3) u0).set_ (j * 3 + 1) u1).set_ (j * 3 + 2) u2, by rw [List.length_set]; exact hn, hm, by simpa using hs, ?_⟩⟩
    · rw [hl3]
    · refine List.ext_getElem? fun i => ?_
      rw [List.length_set]
      by_cases hi : i < L.length * 3
      · have hq : i / 3 < L.length := by omega
        have hr : i % 3 < 3 := by omega
        have hdm : i / 3 * 3 + i % 3 = i := by omega
        have e1 := flatMap_set enc 3 (by decide) hlen L j x (i / 3) (i % 3) hq hr
        rw [hdm] at e1
        rw [e1, List.getElem?_take, if_pos hi]
        have e2 : (cur.toList.take (L.length * 3))[i]? = (L.flatMap enc)[i]? := by rw [ht]
        rw [List.getElem?_take, if_pos hi] at e2
        rw [Array.getElem?_toList] at e2 ⊢
        rw [Array.getElem?_setIfInBounds, Array.getElem?_setIfInBounds, Array.getElem?_setIfInBounds]
        simp only [Array.size_setIfInBounds]
        by_cases hij : i / 3 = j
        · rw [if_pos hij, hx]
          have h3 : i % 3 = 0 ∨ i % 3 = 1 ∨ i % 3 = 2 := by omega
          rcases h3 with h3 | h3 | h3
          · rw [h3, if_neg (by omega), if_neg (by omega), if_pos (by omega), if_pos (by omega)]; rfl
          · rw [h3, if_neg (by omega), if_pos (by omega), if_pos (by omega)]; rfl
          · rw [h3, if_pos (by omega), if_pos (by omega)]; rfl
        · rw [if_neg hij, if_neg (by omega), if_neg (by omega), if_neg (by omega), e2]
      · rw [List.getElem?_take, if_neg hi, List.getElem?_eq_none (by rw [hl3, List.length_set]; omega)]
theorem gby_trans {a b c : World} {g : Nat} (h : a.grownBy b (some g)) (k : b.grownBy c (some g)) : a.grownBy c (some g) :=
  ⟨k.os.trans h.os, k.tape.trans h.tape, k.output.trans h.output, Nat.le_trans h.size k.size, fun i hi hne => (k.block i (Nat.lt_of_lt_of_le hi h.size) hne).trans (h.block i hi hne)⟩
theorem gby_below {a b : World} (h : Below a.heap.size a b) (g : Nat) : a.grownBy b (some g) := only_of_below h _
/-! What was handled, and one more. -/
theorem lays_dnb : Lays DnB encDn := by
  intro w a x h r u hu
  obtain ⟨h0, h1, h2, h3, h4, h5⟩ := h
  have ha := spot_of h0
  rw [ha, add_lit]
  rw [ha] at h0
  rcases r with _ | _ | _ | _ | _ | _ | r
  · rw [← hu]; exact h0
  · rw [← hu]; exact h1
  · rw [← hu]; exact h2
  · rw [← hu]; exact h3
  · rw [← hu]; exact h4
  · rw [← hu]; exact h5
  · simp [encDn] at hu
def dnC (x : Dn) : Array Value := #[.float .f64 x.1, .int .i64 x.2.1, .int .i64 x.2.2.1, .int .i64 x.2.2.2.1, .int .i64 x.2.2.2.2.1, .int .i64 x.2.2.2.2.2]
theorem dn_one_reads {X : World} {ge : Nat} {x : Dn} (h : Blk X ge 39 (dnC x)) : Reads X X.heap.size 6 (some ⟨ge, 0, none⟩) 1 ([x].flatMap encDn) := by
  refine ⟨by simp [encDn], fun _ => ⟨_, rfl, h.lt, fun j u hu => ?_⟩⟩
  have hc := h.cell j
  have hadd : (⟨ge, 0, none⟩ : Addr).add j = ⟨ge, j, none⟩ := by unfold Addr.add; split <;> simp_all
  rw [hadd, hc, ← hu]
  simp [encDn, dnC]
theorem dn_app (w X : World) (v : Value) (L M : List Dn) (A : Option Addr) (m c : Nat) (hown : OwnR 39 6 encDn X w.heap.size v L) (hb : Below w.heap.size w X) (hr : Reads X X.heap.size 6 A m (M.flatMap encDn)) (hm : M.length = m)
    (hs : L.length + M.length ≤ 1000000000) (ty : TypeId) :
    ∃ (q : Sl Dn) (X' : World), (Builtin.append_ #[22, 22] ty #[v, .slice A m c]).run Try.prog X = .ok q.val X' ∧ q.L = L ++ M ∧ OwnR 39 6 encDn X' w.heap.size q.val q.L ∧ Below w.heap.size w X' ∧
      (∀ g t cs, Blk X g t cs → v.ownBlock ≠ some g → Blk X' g t cs) ∧ (q.val.ownBlock = v.ownBlock ∨ ∃ g, q.val.ownBlock = some g ∧ X.heap.size ≤ g) := by
  obtain ⟨v', X', hrun, hown', hext⟩ := run_append_src (P := Try.prog) 39 22 ty 6 48 (.agg #[.float .f64 0, .int .i64 0, .int .i64 0, .int .i64 0, .int .i64 0, .int .i64 0]) encDn (by decide) (fun _ => rfl) one_dn Try.underlying22 inf_dn rfl X w.heap.size X.heap.size v L M A m c hown hr hm (by omega) (by omega) hb.size
  obtain ⟨q, rfl, hqL, _, _⟩ := hown'.form
  exact ⟨q, X', hrun, hqL, by rw [hqL]; exact hown', hb.trans ((Below.refl w.heap.size X).grown hext.1 hb.size fun k hk => hown.base k hk), fun g t cs h hne => h.grown hext.1 (Ne.symm hne), hext.2⟩
theorem own_emptyD {w X : World} {b : Nat} (h : Blk X b 39 #[]) (hb : w.heap.size ≤ b) : OwnR 39 6 encDn X w.heap.size (.slice (some ⟨b, 0, none⟩) 0 0) ([] : List Dn) :=
  ⟨by simp, .inr ⟨b, 0, #[], rfl, hb, h, Nat.le_refl _, Nat.zero_le _, by simp, by simp⟩⟩
/-- The two appends, the event's block laid ahead of them. -/
theorem dn_runs {V X : World} {b ge : Nat} {x : Dn} {L : List Dn} {A : Option Addr} {c : Nat} (hb : Below V.heap.size V X) (hz : Blk X b 39 #[]) (hbV : V.heap.size ≤ b) (hE : Blk X ge 39 (dnC x)) (hne : b ≠ ge)
    (hT : ∀ Y, Below V.heap.size V Y → Reads Y Y.heap.size 6 A L.length (L.flatMap encDn)) (hs : L.length ≤ 100000000) (ty : TypeId) :
    ∃ (q1 q2 : Sl Dn) (X1 X2 : World), (Builtin.append_ #[22, 22] ty #[.slice (some ⟨b, 0, none⟩) 0 0, .slice A L.length c]).run Try.prog X = .ok q1.val X1 ∧
      (Builtin.append_ #[22, 22] ty #[q1.val, .slice (some ⟨ge, 0, none⟩) 1 1]).run Try.prog X1 = .ok q2.val X2 ∧ q2.L = L ++ [x] ∧ OwnR 39 6 encDn X2 V.heap.size q2.val q2.L ∧ Below V.heap.size V X1 ∧ Below V.heap.size V X2 := by
  obtain ⟨q1, X1, hr1, hq1, ho1, hb1, hk1, ho⟩ := dn_app V X _ [] L A L.length c (own_emptyD hz hbV) hb (hT X hb) rfl (by simp; omega) ty
  rw [List.nil_append] at hq1
  have hE1 := hk1 _ _ _ hE (by simp only [Value.ownBlock]; intro h; exact hne (Option.some.inj h))
  obtain ⟨q2, X2, hr2, hq2, ho2, hb2, _, _⟩ := dn_app V X1 q1.val q1.L [x] _ 1 1 ho1 hb1 (dn_one_reads hE1) rfl (by rw [hq1]; simp; omega) ty
  rw [hq1] at hq2
  exact ⟨q1, q2, X1, X2, hr1, hr2, hq2, ho2, hb1, hb2⟩
/-- The two appends, the event's block laid between them. -/
theorem dn_runs3 {V X : World} {b : Nat} {x : Dn} {L : List Dn} {A : Option Addr} {c : Nat} (hb : Below V.heap.size V X) (hz : Blk X b 39 #[]) (hbV : V.heap.size ≤ b)
    (hT : ∀ Y, Below V.heap.size V Y → Reads Y Y.heap.size 6 A L.length (L.flatMap encDn)) (hs : L.length ≤ 100000000) (ty : TypeId) :
    ∃ (q1 q2 : Sl Dn) (X1 X2 : World), (Builtin.append_ #[22, 22] ty #[.slice (some ⟨b, 0, none⟩) 0 0, .slice A L.length c]).run Try.prog X = .ok q1.val X1 ∧
      (Builtin.append_ #[22, 22] ty #[q1.val, .slice (some ⟨X1.heap.size, 0, none⟩) 1 1]).run Try.prog (X1.alloc (.cells (dnC x) 39)) = .ok q2.val X2 ∧ q2.L = L ++ [x] ∧ OwnR 39 6 encDn X2 V.heap.size q2.val q2.L ∧ Below V.heap.size V X1 ∧ Below V.heap.size V X2 := by
  obtain ⟨q1, X1, hr1, hq1, ho1, hb1, hk1, ho⟩ := dn_app V X _ [] L A L.length c (own_emptyD hz hbV) hb (hT X hb) rfl (by simp; omega) ty
  rw [List.nil_append] at hq1
  obtain ⟨q2, X2, hr2, hq2, ho2, hb2, _, _⟩ := dn_app V _ q1.val q1.L [x] _ 1 1 (ho1.alloc _) (hb1.alloc hb1.size _) (dn_one_reads (Blk.new X1 _ _)) rfl (by rw [hq1]; simp; omega) ty
  rw [hq1] at hq2
  exact ⟨q1, q2, X1, X2, hr1, hr2, hq2, ho2, hb1, hb2⟩
end Go.Proofs.Ytpfcmfannkbipaa
end
