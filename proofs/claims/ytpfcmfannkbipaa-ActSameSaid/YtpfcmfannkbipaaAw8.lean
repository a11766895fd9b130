/- The model of law08's awake, and what comes of it, plainly. No condition. -/
import Derived.Test.YtpfcmfannkbipaaAct8
import Derived.Test.YtpfcmfannkbipaaAct9
set_option linter.unusedVariables false
set_option linter.unusedSimpArgs false
set_option maxRecDepth 20000
namespace Go.Proofs.Ytpfcmfannkbipaa
open Go.RowKit Go.Deep

attribute [local go_sem] run_store_float
def smP : List Ins4 := [(13, 4, 5, 0), (3, 4, 4, 0), (14, 5, 4, 0), (12, 1, 5, 4)]
/-- The small model, its rows from the block g on. -/
def smM (g : Nat) : Mdl := ⟨0, 4621819117588971520, ⟨some ⟨g + 1, 0, none⟩, 1, [4602678819172646912]⟩, ⟨some ⟨g + 1 + 1, 0, none⟩, 1, [⟨some ⟨g, 0, none⟩, 4, smP⟩]⟩,
  ⟨some ⟨g + 1 + 1 + 1 + 1, 0, none⟩, 1, [(0, ⟨some ⟨g + 1 + 1 + 1, 0, none⟩, 1, [1]⟩)]⟩, ⟨some ⟨g + 1 + 1 + 1 + 1 + 1, 0, none⟩, 1, [(4607182418800017408, 0, 2)]⟩⟩
def smE : Ev := (4607182418800017408, -1, 0, 0, 2)
def smS : Ev := (4609434218613702656, 0, 0, 0, 3)
theorem sm_chk (g : Nat) : chkB (smM g) = true := by
  have h : ∀ g, chkB (smM g) = chkB (smM 0) := fun g => rfl
  rw [h]
  decide +kernel
theorem sm_beg (g : Nat) : begR (smM g) = [smE] := by
  unfold begR
  rw [if_pos (sm_chk g)]
  show begV 4621819117588971520 0 [(4607182418800017408, 0, 2)] = [smE]
  decide +kernel
theorem sm_first (g : Nat) : firE (smM g) 0 = 0 ∧ firR (smM g) 0 = ([1], 0, 0) := by
  have h : firE (smM g) 0 = 0 := by unfold firE; rw [if_pos (sm_chk g)]; rfl
  refine ⟨h, ?_⟩
  unfold firR
  rw [if_pos h]
  rfl
theorem sm_may (g : Nat) : hE (smM g) 0 ([1], 0, 0) smE = 0 := by
  unfold hE
  rw [if_pos (sm_chk g)]
  have h : mayB (smM g) 0 ([1], 0, 0) smE = true := by
    have e : mayB (smM g) 0 ([1], 0, 0) smE = mayB (smM 0) 0 ([1], 0, 0) smE := rfl
    rw [e]
    decide +kernel
  rw [if_pos h]
theorem sm_handle (g : Nat) : hR (smM g) 0 ([1], 0, 0) smE = (([3], 1, 0), [smS], 0) := by
  unfold hR
  rw [if_pos (sm_may g)]
  have hO0 : hO (smM g) 0 ([1], 0, 0) smE = ([3], [(0, 0, 3)], 0, 0) := by
    show outV smP [1] 2 0 1 0 0 = _
    decide +kernel
  unfold hV
  rw [hO0]
  show (if (0 : Int) ≠ 0 then _ else if [((0, 0, 3) : Snt)].all (sndOk [4602678819172646912] 4607182418800017408) = true then (([3], 0 + 1, 0), sndV [4602678819172646912] 4607182418800017408 4621819117588971520 0 0 0 [((0, 0, 3) : Snt)], 0) else _) = _
  rw [if_neg (by decide), if_pos (by decide +kernel)]
  have h2 : sndV [4602678819172646912] 4607182418800017408 4621819117588971520 0 0 0 [((0, 0, 3) : Snt)] = [smS] := by decide +kernel
  rw [h2]
  rfl
def SmTo (w : World) (e : Ending) (w' : World) : Prop := e = .returned (smM (w.heap.size + 1)).val ∧ (smM (w.heap.size + 1)).At w' ∧ Below w.heap.size w w'
theorem at_one {α : Type} {d : Dec α} {size : Nat} {w : World} {g : Nat} {x : α} (h : d w ⟨g, 0, none⟩ x) : Sl.At d size w ⟨some ⟨g, 0, none⟩, 1, [x]⟩ := by
  refine ⟨fun i y hy => ⟨_, rfl, ?_⟩, Nat.le_refl 1, by simp only; omega⟩
  rcases i with _ | i
  · have e : x = y := by simpa using hy
    subst e
    rw [add_lit]
    simpa using h
  · simp at hy
theorem sm_at {w : World} {g : Nat} (b0 : Blk w g 142 #[.int .i64 13, .int .i64 4, .int .i64 5, .int .i64 0, .int .i64 3, .int .i64 4, .int .i64 4, .int .i64 0, .int .i64 14, .int .i64 5, .int .i64 4, .int .i64 0, .int .i64 12, .int .i64 1, .int .i64 5, .int .i64 4])
    (b1 : Blk w (g + 1) 27 #[.float .f64 4602678819172646912]) (b2 : Blk w (g + 1 + 1) 118 #[.slice (some ⟨g, 0, none⟩) 4 4]) (b3 : Blk w (g + 1 + 1 + 1) 3 #[.int .i64 1])
    (b4 : Blk w (g + 1 + 1 + 1 + 1) 120 #[.int .i64 0, .slice (some ⟨g + 1 + 1 + 1, 0, none⟩) 1 1]) (b5 : Blk w (g + 1 + 1 + 1 + 1 + 1) 125 #[.float .f64 4607182418800017408, .int .i64 0, .int .i64 2]) : (smM g).At w := by
  have hi : ∀ n : Int, 0 ≤ n → n ≤ 100 → I64 n := fun n h1 h2 => ⟨by omega, by omega⟩
  refine ⟨hi 0 (by decide) (by decide), (by decide : 4621819117588971520 < 18446744073709551616), at_one ⟨b1.cell 0, by decide⟩, at_one ⟨b2.cell 0, ?_⟩, at_one ⟨b4.cell 0, b4.cell 1, hi 0 (by decide) (by decide), at_one ⟨b3.cell 0, hi _ (by decide) (by decide)⟩⟩, at_one ⟨b5.cell 0, b5.cell 1, b5.cell 2, by decide, hi _ (by decide) (by decide), hi _ (by decide) (by decide)⟩⟩
  refine ⟨fun i x hx => ⟨_, rfl, ?_⟩, Nat.le_refl 4, by simp only; omega⟩
  have hi4 : i < 4 := (List.getElem?_eq_some_iff.1 hx).1
  rw [add_lit]
  rcases (by omega : i = 0 ∨ i = 1 ∨ i = 2 ∨ i = 3) with rfl | rfl | rfl | rfl
  · obtain rfl : ((13, 4, 5, 0) : Ins4) = x := Option.some.inj hx
    exact ⟨b0.cell 0, b0.cell 1, b0.cell 2, b0.cell 3, hi _ (by decide) (by decide), hi _ (by decide) (by decide), hi _ (by decide) (by decide), hi _ (by decide) (by decide)⟩
  · obtain rfl : ((3, 4, 4, 0) : Ins4) = x := Option.some.inj hx
    exact ⟨b0.cell 4, b0.cell 5, b0.cell 6, b0.cell 7, hi _ (by decide) (by decide), hi _ (by decide) (by decide), hi _ (by decide) (by decide), hi _ (by decide) (by decide)⟩
  · obtain rfl : ((14, 5, 4, 0) : Ins4) = x := Option.some.inj hx
    exact ⟨b0.cell 8, b0.cell 9, b0.cell 10, b0.cell 11, hi _ (by decide) (by decide), hi _ (by decide) (by decide), hi _ (by decide) (by decide), hi _ (by decide) (by decide)⟩
  · obtain rfl : ((12, 1, 5, 4) : Ins4) = x := Option.some.inj hx
    exact ⟨b0.cell 12, b0.cell 13, b0.cell 14, b0.cell 15, hi _ (by decide) (by decide), hi _ (by decide) (by decide), hi _ (by decide) (by decide), hi _ (by decide) (by decide)⟩
set_option maxHeartbeats 1000000 in
theorem small_any (w : World) : Calls Try.prog 75 #[] w (SmTo w) := by
  have hP := fun W (h1 : (smM (w.heap.size + 1)).At W) (h2 : Below w.heap.size w W) => (show SmTo w (.returned (.agg #[.int .i64 0, .float .f64 4621819117588971520, .slice (some ⟨w.heap.size + 1 + 1, 0, none⟩) 1 1, .slice (some ⟨w.heap.size + 1 + 1 + 1, 0, none⟩) 1 1, .slice (some ⟨w.heap.size + 1 + 1 + 1 + 1 + 1, 0, none⟩) 1 1, .slice (some ⟨w.heap.size + 1 + 1 + 1 + 1 + 1 + 1, 0, none⟩) 1 1])) W from ⟨rfl, h1, h2⟩)
  generalize SmTo w = Post at *
  have HP := hide hP
  clear hP
  go_enter Try.func75, Try.ntmps75
  go_wp2_with fail
  refine bodyPost_ret (v := .agg #[.int .i64 0, .float .f64 4621819117588971520, .slice (some ⟨w.heap.size + 1 + 1, 0, none⟩) 1 1, .slice (some ⟨w.heap.size + 1 + 1 + 1, 0, none⟩) 1 1, .slice (some ⟨w.heap.size + 1 + 1 + 1 + 1 + 1, 0, none⟩) 1 1, .slice (some ⟨w.heap.size + 1 + 1 + 1 + 1 + 1 + 1, 0, none⟩) 1 1]) (by simp [results, Try.results75, go_sem]) rfl ?_
  have hb := allocs_below [(#[.int .i64 0, .float .f64 4621819117588971520, .slice (some ⟨w.heap.size + 1 + 1, 0, none⟩) 1 1, .slice (some ⟨w.heap.size + 1 + 1 + 1, 0, none⟩) 1 1, .slice (some ⟨w.heap.size + 1 + 1 + 1 + 1 + 1, 0, none⟩) 1 1, .slice (some ⟨w.heap.size + 1 + 1 + 1 + 1 + 1 + 1, 0, none⟩) 1 1], 58), (#[.int .i64 13, .int .i64 4, .int .i64 5, .int .i64 0, .int .i64 3, .int .i64 4, .int .i64 4, .int .i64 0, .int .i64 14, .int .i64 5, .int .i64 4, .int .i64 0, .int .i64 12, .int .i64 1, .int .i64 5, .int .i64 4], 142), (#[.float .f64 4602678819172646912], 27), (#[.slice (some ⟨w.heap.size + 1, 0, none⟩) 4 4], 118), (#[.int .i64 1], 3), (#[.int .i64 0, .slice (some ⟨w.heap.size + 1 + 1 + 1 + 1, 0, none⟩) 1 1], 120), (#[.float .f64 4607182418800017408, .int .i64 0, .int .i64 2], 125)] w
  have hB := allocs_blk [(#[.int .i64 0, .float .f64 4621819117588971520, .slice (some ⟨w.heap.size + 1 + 1, 0, none⟩) 1 1, .slice (some ⟨w.heap.size + 1 + 1 + 1, 0, none⟩) 1 1, .slice (some ⟨w.heap.size + 1 + 1 + 1 + 1 + 1, 0, none⟩) 1 1, .slice (some ⟨w.heap.size + 1 + 1 + 1 + 1 + 1 + 1, 0, none⟩) 1 1], 58), (#[.int .i64 13, .int .i64 4, .int .i64 5, .int .i64 0, .int .i64 3, .int .i64 4, .int .i64 4, .int .i64 0, .int .i64 14, .int .i64 5, .int .i64 4, .int .i64 0, .int .i64 12, .int .i64 1, .int .i64 5, .int .i64 4], 142), (#[.float .f64 4602678819172646912], 27), (#[.slice (some ⟨w.heap.size + 1, 0, none⟩) 4 4], 118), (#[.int .i64 1], 3), (#[.int .i64 0, .slice (some ⟨w.heap.size + 1 + 1 + 1 + 1, 0, none⟩) 1 1], 120), (#[.float .f64 4607182418800017408, .int .i64 0, .int .i64 2], 125)] w
  exact HP.out _ (sm_at (hB 1 _ rfl) (hB 2 _ rfl) (hB 3 _ rfl) (hB 4 _ rfl) (hB 5 _ rfl) (hB 6 _ rfl)) hb
end Go.Proofs.Ytpfcmfannkbipaa
