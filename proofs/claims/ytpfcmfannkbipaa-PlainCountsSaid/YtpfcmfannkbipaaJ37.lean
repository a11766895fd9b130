/- Texts of this claim in one. No condition. -/
import Derived.Test.YtpfcmfannkbipaaJ36
section
set_option linter.unusedVariables false
set_option linter.unusedSimpArgs false
set_option maxRecDepth 20000
namespace Go.Proofs.Ytpfcmfannkbipaa
open Go.RowKit Go.Deep

attribute [local go_sem] run_store_float
/-- Lists merged. -/
def mrgP (M : List (List Dn)) : List Dn := Mrg.mergeP cD (Mrg.total M) M
theorem merge_none {M : List (List Dn)} (h : Mrg.bestUp cD M M.length = none) (n : Nat) : Mrg.mergeP cD n M = [] := by
  cases n with
  | zero => rfl
  | succ n => unfold Mrg.mergeP; rw [h]
theorem merge_some {M : List (List Dn)} {j : Nat} {x : Dn} {r : List Dn} (h : Mrg.bestUp cD M M.length = some j) (hx : M[j]? = some (x :: r)) (n : Nat) : Mrg.mergeP cD (n + 1) M = x :: Mrg.mergeP cD n (Mrg.takeAt M j) := by
  conv => lhs; unfold Mrg.mergeP
  rw [h]
  simp only
  rw [hx]
theorem Rw34.grown {w0 w w' : World} {g ga : Nat} {l : Sl (Sl Dn)} {ks : List Nat} {v v' : Value} (h : Rw34 w0 g ga l ks w) (hx : GExt w w' v v') (hb : Below w0.heap.size w0 w') (h1 : v.ownBlock ≠ some g) (h2 : v.ownBlock ≠ some ga) : Rw34 w0 g ga l ks w' :=
  ⟨hb, h.box.grown hx.1 (Ne.symm h1), h.at_.grown hx.1 (Ne.symm h2), h.len, h.rows, h.le, h.ge⟩
structure Mg34 (w : World) (N : Nat) (M : List (List Dn)) (g ga n : Nat) (l : Sl (Sl Dn)) (q : Sl Dn) (ks : List Nat) (wr : World) : Prop where
  rw_ : Rw34 w g ga l ks wr
  own : OwnR 39 6 encDn wr w.heap.size q.val q.L
  eq_ : Mrg.mergeP cD N M = q.L ++ Mrg.mergeP cD n (lefts l.L ks)
  tot : Mrg.total (lefts l.L ks) ≤ n
  len : q.L.length + n ≤ N
theorem lefts_zero : ∀ L : List (Sl Dn), lefts L (List.replicate L.length 0) = L.map (·.L)
  | [] => rfl
  | s :: L => by
    have := lefts_zero L
    unfold lefts at this ⊢
    simp only [List.length_cons, List.replicate_succ, List.zipWith_cons_cons, List.map_cons, List.drop_zero]
    rw [this]
set_option maxHeartbeats 4000000 in
theorem merge34_any (l : Sl (Sl Dn)) (w : World) (h : l.At (SlAt DnB 6) 1 w) (hl : l.L.length ≤ 1000000) (hN : Mrg.total (l.L.map (·.L)) ≤ 1000000) : Calls Try.prog 25 #[l.val] w (DnTo w (mrgP (l.L.map (·.L)))) := by
  have HMK := hide (mkrows34_any l w h hl)
  obtain ⟨M, hM⟩ : ∃ M, M = l.L.map (·.L) := ⟨_, rfl⟩
  rw [← hM] at hN ⊢
  obtain ⟨N, hNe⟩ : ∃ N, N = Mrg.total M := ⟨_, rfl⟩
  rw [← hNe] at hN
  have HP := hide (fun (q : Sl Dn) W (h0 : q.L = Mrg.mergeP cD N M) (h1 : OwnR 39 6 encDn W w.heap.size q.val q.L) (h2 : Below w.heap.size w W) => (show DnTo w (mrgP M) (.returned q.val) W from ⟨q, rfl, by unfold mrgP; rw [← hNe]; exact h0, h1, h2⟩))
  have HM := hide hM
  have HNE := hide hNe
  generalize DnTo w (mrgP M) = Post at *
  clear hM hNe h
  go_enter Try.func25, Try.ntmps25
  go_wp2_with fail
  refine HMK.out.mono ?_
  rintro e w1 ⟨g, ga, rfl, hR, hb⟩
  have HR := hide hR
  clear hR hb HMK
  go_wp2_with fail
  go_loopg [4] N (fun n v wr => ∃ (q : Sl Dn) (ks : List Nat), v = q.val ∧ Mg34 w N M g ga n l q ks wr)
  case atStart => exact ⟨⟨none, 0, []⟩, List.replicate l.L.length 0, rfl, HR.out, OwnR.nil, by rw [lefts_zero, ← HM.out]; rfl, by rw [lefts_zero, ← HM.out, HNE.out]; exact Nat.le_refl _, by simp⟩
  case round =>
    clear HR
    obtain ⟨q, ks, rfl, hS⟩ := hrel
    have HNX := hide (next34_any hS.rw_)
    have HS := hide hS
    have hlen := hS.len
    have hlf := hide (lefts_len (L := l.L) hS.rw_.len)
    clear hS
    go_wp2_with fail
    refine HNX.out.mono ?_
    intro e w2 hnx
    unfold NxTo at hnx
    cases hB : Mrg.bestUp cD (lefts l.L ks) l.L.length with
    | none =>
      rw [hB] at hnx
      obtain ⟨rfl, hR2, hg2⟩ := hnx
      have ha := (Below.refl w2.heap.size w2).alloc (Nat.le_refl _) (.cells #[.float .f64 0, .int .i64 0, .int .i64 0, .int .i64 0, .int .i64 0, .int .i64 0] 39)
      have ho := (show OwnR 39 6 encDn w2 w.heap.size q.val q.L from World.ownsRow.kept HS.out.own hg2 (.inr (own_blk_ne HS.out.own HS.out.rw_.at_ (by decide)))).below ha
      have HEND := hide (HP.out q _ (by rw [HS.out.eq_, merge_none (by rw [hlf.out]; exact hB), List.append_nil]) ho (hR2.below ha).bel)
      clear hR2 hg2 ha ho hB HNX HS
      unfold dnV
      go_wp2_with fail
      first | exact HEND.out | (go_ret; exact HEND.out)
    | some j =>
      rw [hB] at hnx
      obtain ⟨s, k, x, hs, hk, hx, rfl, hR2, hg2⟩ := hnx
      have hMj := lefts_at hs hk
      have hdr : s.L.drop k = x :: s.L.drop (k + 1) := by
        obtain ⟨h1, rfl⟩ := List.getElem?_eq_some_iff.1 hx
        exact List.drop_eq_getElem_cons h1
      rw [hdr] at hMj
      have htot := Mrg.total_set hMj
      have hls := lefts_set HS.out.rw_.len hs hk
      obtain ⟨n, rfl⟩ : ∃ n, gk = n + 1 := ⟨gk - 1, by have := HS.out.tot; omega⟩
      have heq := HS.out.eq_
      rw [merge_some (by rw [hlf.out]; exact hB) hMj, ← hls] at heq
      have ha := (Below.refl w2.heap.size w2).alloc (Nat.le_refl _) (.cells #[.float .f64 x.1, .int .i64 x.2.1, .int .i64 x.2.2.1, .int .i64 x.2.2.2.1, .int .i64 x.2.2.2.2.1, .int .i64 x.2.2.2.2.2] 39)
      have ho := (show OwnR 39 6 encDn w2 w.heap.size q.val q.L from World.ownsRow.kept HS.out.own hg2 (.inr (own_blk_ne HS.out.own HS.out.rw_.at_ (by decide)))).below ha
      have hR3 := hR2.below ha
      obtain ⟨q2, w4, hrun, hq2, hown2, hb4, hx4⟩ := dn_add (wc := w) ho hR3.bel x (by omega) 22
      rw [show (w2.alloc (.cells #[.float .f64 x.1, .int .i64 x.2.1, .int .i64 x.2.2.1, .int .i64 x.2.2.2.1, .int .i64 x.2.2.2.2.1, .int .i64 x.2.2.2.2.2] 39)).heap.size = w2.heap.size + 1 from Array.size_push ..] at hrun
      have HR4 := hide (hR3.grown hx4 hb4 (own_blk_ne ho hR3.box (by decide)) (own_blk_ne ho hR3.at_ (by decide)))
      have HEQ := hide (show Mrg.mergeP cD N M = q2.L ++ Mrg.mergeP cD n (lefts l.L (ks.set j (k + 1))) by rw [heq, hq2, List.append_assoc]; rfl)
      have HO2 := hide (show OwnR 39 6 encDn w4 w.heap.size q2.val q2.L from by rw [hq2]; exact hown2)
      have HT := hide (show Mrg.total (lefts l.L (ks.set j (k + 1))) ≤ n by rw [hls]; have := HS.out.tot; omega)
      have HL := hide (show q2.L.length + n ≤ N by rw [hq2]; simp only [List.length_append, List.length_cons, List.length_nil]; omega)
      obtain ⟨xt, xs, xn, xd, xp, xf⟩ := x
      unfold dnV
      simp only at *
      clear hs hk hx hR2 hg2 hMj hdr htot hls heq ha ho hR3 hq2 hown2 hb4 hx4 hB HNX HS hlen hlf
      go_wp2_with (at_builtin; go_must (refine wpList_of_append rfl _ w4 _ _ 22 _ _ _ rfl rfl rfl hrun ?_))
      go_roundg n
      case rel => exact ⟨q2, _, rfl, HR4.out, HO2.out, HEQ.out, HT.out, HL.out⟩
      case measure => omega
end Go.Proofs.Ytpfcmfannkbipaa
end
