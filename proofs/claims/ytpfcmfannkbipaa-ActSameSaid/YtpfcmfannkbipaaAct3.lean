/- The walk of act's Copy. No condition but a size. -/
import Derived.Test.YtpfcmfannkbipaaAct2
set_option linter.unusedVariables false
set_option maxRecDepth 20000
namespace Go.Proofs.Ytpfcmfannkbipaa
open Go.RowKit Go.Deep

attribute [local go_sem] run_store_float
theorem inf8_int : (Try.prog.info? 3).map (fun i => (i.zero, i.size, i.bytes)) = some (some (.int .i64 0), 1, 8) := by kernel_rfl
theorem one8_int (x : Int) : ∀ u ∈ encInt x, u.oneCell' = true := by intro u hu; simp [encInt] at hu; subst hu; rfl
/-- Words copied into memory of the call's own. -/
theorem words_run (w w0 : World) (x : Sl Int) (hx : x.At IntAt 1 w) (hb0 : Below w.heap.size w w0) (hn : x.L.length ≤ 1000) (ty : TypeId) :
    ∃ (q : Sl Int) (w1 : World), q.L = x.L ∧ (Builtin.append_ #[59, 59] ty #[.slice none 0 0, x.val]).run Try.prog w0 = .ok q.val w1 ∧ OwnR 3 1 encInt w1 w0.heap.size q.val q.L ∧
      (∀ g t cs, Blk w0 g t cs → Blk w1 g t cs) ∧ Below w0.heap.size w0 w1 := by
  obtain ⟨v1, w1, hrun, hown, hext⟩ := run_append_src (P := Try.prog) 3 59 ty 1 8 (.int .i64 0) encInt (by decide) (fun _ => rfl) one8_int Try.underlying59 inf8_int rfl w0 w0.heap.size _ (.slice none 0 0) [] x.L x.A x.L.length x.c OwnR.nil
    ((hx.1.below IntAt.keeps hb0).reads (size := 1) (by decide) (fun _ => rfl) lays_int) rfl (by simp; omega) (by simp; omega) (Nat.le_refl _)
  rw [List.nil_append] at hown
  obtain ⟨q, rfl, hL, _, _⟩ := hown.form
  refine ⟨q, w1, hL, hrun, by rw [hL]; exact hown, fun g t cs h => h.grown hext.1 (by simp [Value.ownBlock]), hext.below (Nat.le_refl _) (by simp [Value.ownBlock])⟩
/-- A state in memory of the call's own. -/
def CopiedS (w : World) (s : St) (e : Ending) (w' : World) : Prop := ∃ c : St, e = .returned c.val ∧ c.pl = s.pl ∧ OwnR 3 1 encInt w' w.heap.size c.wd.val c.wd.L ∧ Below w.heap.size w w'
theorem OwnR.lowerB {α : Type} {e : TypeId} {size B N : Nat} {enc : α → List Value} {w : World} {v : Value} {L : List α} (h : OwnR e size enc w B v L) (hN : N ≤ B) : OwnR e size enc w N v L := OwnR.lower h hN
set_option maxHeartbeats 1000000 in
theorem copy8_any (s : St) (w : World) (hs : s.At w) (hn : s.wd.L.length ≤ 1000) : Calls Try.prog 47 #[s.val] w (CopiedS w s) := by
  have HC := hide (show ∀ (q : Sl Int) w', q.L = s.wd.L → OwnR 3 1 encInt w' w.heap.size q.val q.L → Below w.heap.size w w' → CopiedS w s (.returned (.agg #[q.val, .int .i64 s.sent, .int .i64 s.dice])) w' from
    fun q w' h1 h2 h3 => ⟨⟨q, s.sent, s.dice⟩, rfl, by simp [St.pl, h1], h2, h3⟩)
  generalize CopiedS w s = Post at *
  obtain ⟨hb0, hX, hR⟩ := box2 w #[s.wd.val, .int .i64 s.sent, .int .i64 s.dice] #[.slice none 0 0, .int .i64 0, .int .i64 0] 61 61
  obtain ⟨q, w1, hq, hrun, hown, hblk, hb1⟩ := words_run w _ s.wd hs.1 hb0 hn 59
  have hX1 := hblk _ _ _ hX
  have hR1 := hblk _ _ _ hR
  have hb2 := below_after hb0 hb1
  have hz : ((w.alloc (.cells #[s.wd.val, .int .i64 s.sent, .int .i64 s.dice] 61)).alloc (.cells #[.slice none 0 0, .int .i64 0, .int .i64 0] 61)).heap.size = w.heap.size + 1 + 1 := by simp
  rw [hz] at hown
  clear hblk hb1 hb0 hz
  have a0 := hX.cell 0
  have a1 := hX.cell 1
  have a2 := hX.cell 2
  simp only [List.getElem?_toArray, List.getElem?_cons_zero, List.getElem?_cons_succ] at a0 a1 a2
  have c0 := hX1.cell 0
  have c1 := hX1.cell 1
  have c2 := hX1.cell 2
  simp only [List.getElem?_toArray, List.getElem?_cons_zero, List.getElem?_cons_succ] at c0 c1 c2
  have r0 := hR1.cell 0
  have r1 := hR1.cell 1
  have r2 := hR1.cell 2
  simp only [List.getElem?_toArray, List.getElem?_cons_zero, List.getElem?_cons_succ] at r0 r1 r2
  have f0 := hX1.frozen 0
  have q0 := hR1.frozen 0
  have q1 := hR1.frozen 1
  have q2 := hR1.frozen 2
  obtain ⟨⟨sA, sc, sl⟩, sent, dice⟩ := s
  obtain ⟨qA, qc, qL⟩ := q
  simp only [Sl.val, St.val] at *
  have HO := hide hown
  have HB := hide hb2
  have HQ := hide hq
  clear hown hb2 hs hX hR hX1 hR1 hn hq
  go_enter Try.func47, Try.ntmps47
  go_wp2_with (at_builtin; go_must (refine wpList_of_append rfl _ w1 _ _ 59 _ _ _ rfl rfl rfl hrun ?_))
  refine bodyPost_ret (v := .agg #[.slice qA qL.length qc, .int .i64 sent, .int .i64 dice]) (by simp [results, Try.results47, go_sem, r0, r1, r2]) rfl ?_
  refine HC.out ⟨qA, qc, qL⟩ _ HQ.out ?_ ?_
  · exact OwnR.lower ((((HO.out.setCell (by simp only; omega) _).setCell (by simp only; omega) _).setCell (by simp only; omega) _).setCell (by simp only; omega) _) (by omega)
  · exact (((HB.out.setCell (by simp only; omega) _).setCell (by simp only; omega) _).setCell (by simp only; omega) _).setCell (by simp only; omega) _
end Go.Proofs.Ytpfcmfannkbipaa
