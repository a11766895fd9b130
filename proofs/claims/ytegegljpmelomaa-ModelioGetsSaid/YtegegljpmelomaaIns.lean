/- The walks of model.Ins and of its reference: which instructions may be. No condition. -/
import Derived.Test.YtegegljpmelomaaBase
import Derived.Laws.RangeString
import Derived.Lib.OthersKept
set_option linter.unusedVariables false
set_option maxRecDepth 20000
namespace Go.Proofs.Ytegegljpmelomaa
open Go.RowKit Go.Deep

def regB (n : Int) : Bool := decide (0 ≤ n ∧ n ≤ 7)
/-- What an instruction needs, letter by letter. -/
def needS (op : Int) : ByteArray :=
  if op = 0 then ⟨#[45, 45, 45]⟩ else if op = 1 then ⟨#[114, 45, 45]⟩
  else if op = 2 ∨ op = 11 ∨ op = 13 ∨ op = 14 then ⟨#[114, 114, 45]⟩
  else if op = 3 ∨ op = 4 ∨ op = 5 ∨ op = 6 ∨ op = 7 ∨ op = 8 ∨ op = 12 then ⟨#[114, 114, 114]⟩
  else if op = 9 then ⟨#[112, 45, 45]⟩ else if op = 10 then ⟨#[114, 112, 45]⟩ else ⟨#[]⟩
/-- Does a number fit a letter? -/
def fitB (c : UInt8) (n len : Int) : Bool := if c = 114 then regB n else if c = 112 then decide (0 ≤ n ∧ n ≤ len) else true
/-- May an instruction be? -/
def insB (op a b c len : Int) : Bool :=
  match (needS op).data.toList with
  | [x, y, z] => fitB x a len && (fitB y b len && fitB z c len)
  | _ => false

def isOp (op : Int) : Prop := op = 0 ∨ op = 1 ∨ op = 2 ∨ op = 3 ∨ op = 4 ∨ op = 5 ∨ op = 6 ∨ op = 7 ∨ op = 8 ∨ op = 9 ∨ op = 10 ∨ op = 11 ∨ op = 12 ∨ op = 13 ∨ op = 14
instance (op : Int) : Decidable (isOp op) := by unfold isOp; infer_instance
theorem needS_none {op : Int} (h : ¬ isOp op) : needS op = ⟨#[]⟩ := by
  unfold isOp at h
  unfold needS
  rw [if_neg (by omega), if_neg (by omega), if_neg (by omega), if_neg (by omega), if_neg (by omega), if_neg (by omega)]
theorem insB_none {op : Int} (h : ¬ isOp op) (a b c len : Int) : insB op a b c len = false := by
  unfold insB
  rw [needS_none h]
theorem needs_any (op : Int) (w : World) : Calls Try.prog 33 #[.int .i64 op] w fun e w' => e = .returned (.string (needS op)) ∧ w = w' := by
  by_cases h : isOp op
  · rcases h with rfl | rfl | rfl | rfl | rfl | rfl | rfl | rfl | rfl | rfl | rfl | rfl | rfl | rfl | rfl
    all_goals
      go_enter Try.func33, Try.ntmps33
      go_wp2
      go_ret
      exact ⟨rfl, rfl⟩
  · rw [needS_none h]
    have q : ∀ k : Int, (k = 0 ∨ k = 1 ∨ k = 2 ∨ k = 3 ∨ k = 4 ∨ k = 5 ∨ k = 6 ∨ k = 7 ∨ k = 8 ∨ k = 9 ∨ k = 10 ∨ k = 11 ∨ k = 12 ∨ k = 13 ∨ k = 14) → (op == k) = false := by
      intro k hk
      rw [beq_eq_false_iff_ne]
      unfold isOp at h
      omega
    have q0 := q 0 (by decide)
    have q1 := q 1 (by decide)
    have q2 := q 2 (by decide)
    have q3 := q 3 (by decide)
    have q4 := q 4 (by decide)
    have q5 := q 5 (by decide)
    have q6 := q 6 (by decide)
    have q7 := q 7 (by decide)
    have q8 := q 8 (by decide)
    have q9 := q 9 (by decide)
    have q10 := q 10 (by decide)
    have q11 := q 11 (by decide)
    have q12 := q 12 (by decide)
    have q13 := q 13 (by decide)
    have q14 := q 14 (by decide)
    clear q h
    go_enter Try.func33, Try.ntmps33
    go_wp2
    go_ret
    exact ⟨rfl, rfl⟩

theorem rreg_any (n : Int) (w : World) : Calls Try.prog 34 #[.int .i64 n] w fun e w' => e = .returned (.bool (regB n)) ∧ w = w' := by
  go_enter Try.func34, Try.ntmps34
  go_wp2
  all_goals
    go_ret
    exact ⟨ret_bool (by unfold regB; simp; try omega), rfl⟩

theorem insB_0 (a b c len : Int) : insB 0 a b c len = true := rfl
theorem insB_1 (a b c len : Int) : insB 1 a b c len = regB a := by
  show (fitB 114 a len && (fitB 45 b len && fitB 45 c len)) = _
  simp [fitB]
theorem insB_rr {op : Int} (h : op = 2 ∨ op = 11 ∨ op = 13 ∨ op = 14) (a b c len : Int) : insB op a b c len = (regB a && regB b) := by
  rcases h with rfl | rfl | rfl | rfl
  all_goals
    show (fitB 114 a len && (fitB 114 b len && fitB 45 c len)) = _
    simp [fitB]
theorem insB_rrr {op : Int} (h : op = 3 ∨ op = 4 ∨ op = 5 ∨ op = 6 ∨ op = 7 ∨ op = 8 ∨ op = 12) (a b c len : Int) : insB op a b c len = (regB a && (regB b && regB c)) := by
  rcases h with rfl | rfl | rfl | rfl | rfl | rfl | rfl
  all_goals
    show (fitB 114 a len && (fitB 114 b len && fitB 114 c len)) = _
    simp [fitB]
theorem insB_9 (a b c len : Int) : insB 9 a b c len = decide (0 ≤ a ∧ a ≤ len) := by
  show (fitB 112 a len && (fitB 45 b len && fitB 45 c len)) = _
  simp [fitB]
theorem insB_10 (a b c len : Int) : insB 10 a b c len = (regB a && decide (0 ≤ b ∧ b ≤ len)) := by
  show (fitB 114 a len && (fitB 112 b len && fitB 45 c len)) = _
  simp [fitB]
set_option maxHeartbeats 400000 in
theorem rins_rr (op a b c len : Int) (w : World) (h : op = 2 ∨ op = 11 ∨ op = 13 ∨ op = 14) : Calls Try.prog 18 #[.agg #[.int .i64 op, .int .i64 a, .int .i64 b, .int .i64 c], .int .i64 len] w fun e w' => e = .returned (.bool (insB op a b c len)) ∧ Below w.heap.size w w' := by
  rw [insB_rr h]
  cases ha : regB a
  · rcases h with rfl | rfl | rfl | rfl
    all_goals
      go_enter Try.func18, Try.ntmps18
      go_wp2_with fail
      refine (rreg_any _ _).mono ?_
      rw [ha]
      rintro e w' ⟨rfl, rfl⟩
      go_wp2
      go_ret
      exact ⟨rfl, (Below.refl _ _).alloc (Nat.le_refl _) _⟩
  · rcases h with rfl | rfl | rfl | rfl
    all_goals
      go_enter Try.func18, Try.ntmps18
      go_wp2_with fail
      refine (rreg_any _ _).mono ?_
      rw [ha]
      rintro e w' ⟨rfl, rfl⟩
      go_wp2_with fail
      refine (rreg_any _ _).mono ?_
      rintro e w' ⟨rfl, rfl⟩
      go_wp2
      go_ret
      exact ⟨rfl, (Below.refl _ _).alloc (Nat.le_refl _) _⟩
set_option maxHeartbeats 800000 in
theorem rins_rrr (op a b c len : Int) (w : World) (h : op = 3 ∨ op = 4 ∨ op = 5 ∨ op = 6 ∨ op = 7 ∨ op = 8 ∨ op = 12) : Calls Try.prog 18 #[.agg #[.int .i64 op, .int .i64 a, .int .i64 b, .int .i64 c], .int .i64 len] w fun e w' => e = .returned (.bool (insB op a b c len)) ∧ Below w.heap.size w w' := by
  rw [insB_rrr h]
  cases ha : regB a
  · rcases h with rfl | rfl | rfl | rfl | rfl | rfl | rfl
    all_goals
      go_enter Try.func18, Try.ntmps18
      go_wp2_with fail
      refine (rreg_any _ _).mono ?_
      rw [ha]
      rintro e w' ⟨rfl, rfl⟩
      go_wp2
      go_ret
      exact ⟨rfl, (Below.refl _ _).alloc (Nat.le_refl _) _⟩
  · cases hb : regB b
    · rcases h with rfl | rfl | rfl | rfl | rfl | rfl | rfl
      all_goals
        go_enter Try.func18, Try.ntmps18
        go_wp2_with fail
        refine (rreg_any _ _).mono ?_
        rw [ha]
        rintro e w' ⟨rfl, rfl⟩
        go_wp2_with fail
        refine (rreg_any _ _).mono ?_
        rw [hb]
        rintro e w' ⟨rfl, rfl⟩
        go_wp2
        go_ret
        exact ⟨rfl, (Below.refl _ _).alloc (Nat.le_refl _) _⟩
    · rcases h with rfl | rfl | rfl | rfl | rfl | rfl | rfl
      all_goals
        go_enter Try.func18, Try.ntmps18
        go_wp2_with fail
        refine (rreg_any _ _).mono ?_
        rw [ha]
        rintro e w' ⟨rfl, rfl⟩
        go_wp2_with fail
        refine (rreg_any _ _).mono ?_
        rw [hb]
        rintro e w' ⟨rfl, rfl⟩
        go_wp2_with fail
        refine (rreg_any _ _).mono ?_
        rintro e w' ⟨rfl, rfl⟩
        go_wp2
        go_ret
        exact ⟨rfl, (Below.refl _ _).alloc (Nat.le_refl _) _⟩
theorem rins_p (a b c len : Int) (w : World) : Calls Try.prog 18 #[.agg #[.int .i64 9, .int .i64 a, .int .i64 b, .int .i64 c], .int .i64 len] w fun e w' => e = .returned (.bool (insB 9 a b c len)) ∧ Below w.heap.size w w' := by
  rw [insB_9]
  go_enter Try.func18, Try.ntmps18
  go_wp2
  all_goals
    go_ret
    exact ⟨ret_bool (by simp; try omega), (Below.refl _ _).alloc (Nat.le_refl _) _⟩
theorem rins_rp (a b c len : Int) (w : World) : Calls Try.prog 18 #[.agg #[.int .i64 10, .int .i64 a, .int .i64 b, .int .i64 c], .int .i64 len] w fun e w' => e = .returned (.bool (insB 10 a b c len)) ∧ Below w.heap.size w w' := by
  rw [insB_10]
  cases ha : regB a
  · go_enter Try.func18, Try.ntmps18
    go_wp2_with fail
    refine (rreg_any _ _).mono ?_
    rw [ha]
    rintro e w' ⟨rfl, rfl⟩
    go_wp2
    go_ret
    exact ⟨rfl, (Below.refl _ _).alloc (Nat.le_refl _) _⟩
  · go_enter Try.func18, Try.ntmps18
    go_wp2_with fail
    refine (rreg_any _ _).mono ?_
    rw [ha]
    rintro e w' ⟨rfl, rfl⟩
    go_wp2
    all_goals
      go_ret
      exact ⟨ret_bool (by simp; try omega), (Below.refl _ _).alloc (Nat.le_refl _) _⟩
theorem op_not {op : Int} (h : ¬ isOp op) (k : Int) (hk : isOp k) : (op == k) = false := by
  rw [beq_eq_false_iff_ne]
  rintro rfl
  exact h hk
theorem rins_any (op a b c len : Int) (w : World) : Calls Try.prog 18 #[.agg #[.int .i64 op, .int .i64 a, .int .i64 b, .int .i64 c], .int .i64 len] w fun e w' => e = .returned (.bool (insB op a b c len)) ∧ Below w.heap.size w w' := by
  by_cases h : isOp op
  · by_cases h2 : op = 2 ∨ op = 11 ∨ op = 13 ∨ op = 14
    · exact rins_rr op a b c len w h2
    · by_cases h3 : op = 3 ∨ op = 4 ∨ op = 5 ∨ op = 6 ∨ op = 7 ∨ op = 8 ∨ op = 12
      · exact rins_rrr op a b c len w h3
      · have h4 : op = 0 ∨ op = 1 ∨ op = 9 ∨ op = 10 := by
          unfold isOp at h
          omega
        rcases h4 with rfl | rfl | rfl | rfl
        · rw [insB_0]
          go_enter Try.func18, Try.ntmps18
          go_wp2
          go_ret
          exact ⟨rfl, (Below.refl _ _).alloc (Nat.le_refl _) _⟩
        · rw [insB_1]
          go_enter Try.func18, Try.ntmps18
          go_wp2_with fail
          refine (rreg_any _ _).mono ?_
          rintro e w' ⟨rfl, rfl⟩
          go_wp2
          go_ret
          exact ⟨rfl, (Below.refl _ _).alloc (Nat.le_refl _) _⟩
        · exact rins_p a b c len w
        · exact rins_rp a b c len w
  · rw [insB_none h]
    have q0 := op_not h 0 (by decide)
    have q1 := op_not h 1 (by decide)
    have q2 := op_not h 2 (by decide)
    have q3 := op_not h 3 (by decide)
    have q4 := op_not h 4 (by decide)
    have q5 := op_not h 5 (by decide)
    have q6 := op_not h 6 (by decide)
    have q7 := op_not h 7 (by decide)
    have q8 := op_not h 8 (by decide)
    have q9 := op_not h 9 (by decide)
    have q10 := op_not h 10 (by decide)
    have q11 := op_not h 11 (by decide)
    have q12 := op_not h 12 (by decide)
    have q13 := op_not h 13 (by decide)
    have q14 := op_not h 14 (by decide)
    clear h
    go_enter Try.func18, Try.ntmps18
    go_wp2
    go_ret
    exact ⟨rfl, (Below.refl _ _).alloc (Nat.le_refl _) _⟩

/-! The package's own. -/
theorem needS_three {op : Int} (h : isOp op) : ∃ x y z : UInt8, needS op = ⟨#[x, y, z]⟩ ∧ (x = 45 ∨ x = 112 ∨ x = 114) ∧ (y = 45 ∨ y = 112 ∨ y = 114) ∧ (z = 45 ∨ z = 112 ∨ z = 114) := by
  rcases h with rfl | rfl | rfl | rfl | rfl | rfl | rfl | rfl | rfl | rfl | rfl | rfl | rfl | rfl | rfl
  all_goals exact ⟨_, _, _, rfl, by decide, by decide, by decide⟩
def InsRel (w : World) (s : ByteArray) (a b c : Int) (f : Nat → Bool) (r : Value) (wr : World) : Prop :=
  ∃ k : Nat, k ≤ s.size ∧ r = .bool false ∧ wr.heap[w.heap.size + 2]? = some (.stringIter s k) ∧ Blk wr (w.heap.size + 1) 53 #[.int .i64 a, .int .i64 b, .int .i64 c] ∧ Below w.heap.size w wr ∧ ∀ j, j < k → f j = true
theorem ins_start (w : World) (s : ByteArray) (op a b c : Int) (f : Nat → Bool) :
    InsRel w s a b c f (.bool false) (((w.alloc (.cells #[.int .i64 op, .int .i64 a, .int .i64 b, .int .i64 c] 34)).alloc (.cells #[.int .i64 a, .int .i64 b, .int .i64 c] 53)).iter s 0) := by
  refine ⟨0, Nat.zero_le _, rfl, ?_, ?_, ?_, fun j hj => absurd hj (Nat.not_lt_zero _)⟩
  · have := World.iter_heap ((w.alloc (.cells #[.int .i64 op, .int .i64 a, .int .i64 b, .int .i64 c] 34)).alloc (.cells #[.int .i64 a, .int .i64 b, .int .i64 c] 53)) s 0
    simpa using this
  · have := (Blk.new (w.alloc (.cells #[.int .i64 op, .int .i64 a, .int .i64 b, .int .i64 c] 34)) 53 #[.int .i64 a, .int .i64 b, .int .i64 c]).alloc (.stringIter s 0)
    simpa [World.iter] using this
  · exact (((Below.refl _ _).alloc (Nat.le_refl _) _).alloc (by simp) _).alloc (by simp; omega) _
theorem ins_none (op a b c len : Int) (w : World) (h : ¬ isOp op) : Calls Try.prog 17 #[.agg #[.int .i64 op, .int .i64 a, .int .i64 b, .int .i64 c], .int .i64 len] w fun e w' => e = .returned (.bool (insB op a b c len)) ∧ Below w.heap.size w w' := by
  rw [insB_none h]
  have hs := needS_none h
  clear h
  go_enter Try.func17, Try.ntmps17
  go_wp2_with fail
  refine (needs_any _ _).mono ?_
  rw [hs]
  rintro e w' ⟨rfl, rfl⟩
  clear hs
  go_wp2_with fail
  go_loopw [4] (fun r wr => InsRel w ⟨#[]⟩ a b c (fun _ => true) r wr) (fun _ _ => 0)
  case atStart => exact ins_start w _ op a b c _
  case round =>
    obtain ⟨k, hk, rfl, hi, hp, hb, hf⟩ := hrel
    have hnext : ∀ ty, (Instr.next (.pointer (some ⟨w.heap.size + 2, 0, none⟩)) true ty).run Try.prog wr = _ := fun ty => Lib.run_next_end_at wr (w.heap.size + 2) ⟨#[]⟩ k ty hi (Nat.not_lt_zero _)
    clear hi hf
    go_wp2
    go_ret
    exact ⟨rfl, hb⟩
theorem ins_letters (x y z : UInt8) (a b c len : Int) (k : Nat) (hk : k < (⟨#[x, y, z]⟩ : ByteArray).size) (hx : x = 45 ∨ x = 112 ∨ x = 114) (hy : y = 45 ∨ y = 112 ∨ y = 114) (hz : z = 45 ∨ z = 112 ∨ z = 114) :
    ∃ (q : UInt8) (n : Int), (⟨#[x, y, z]⟩ : ByteArray)[k] = q ∧ (#[Value.int .i64 a, .int .i64 b, .int .i64 c])[k]? = some (.int .i64 n) ∧ (q = 45 ∨ q = 112 ∨ q = 114) ∧
      (if k = 0 then fitB x a len else if k = 1 then fitB y b len else fitB z c len) = fitB q n len ∧ (fitB q n len = false → (fitB x a len && (fitB y b len && fitB z c len)) = false) := by
  have hk3 : k < 3 := hk
  obtain rfl | rfl | rfl : k = 0 ∨ k = 1 ∨ k = 2 := by omega
  · exact ⟨x, a, rfl, rfl, hx, rfl, fun h => by rw [h]; rfl⟩
  · exact ⟨y, b, rfl, rfl, hy, rfl, fun h => by rw [h]; simp⟩
  · exact ⟨z, c, rfl, rfl, hz, rfl, fun h => by rw [h]; simp⟩
theorem ins_some (op a b c len : Int) (w : World) (h : isOp op) : Calls Try.prog 17 #[.agg #[.int .i64 op, .int .i64 a, .int .i64 b, .int .i64 c], .int .i64 len] w fun e w' => e = .returned (.bool (insB op a b c len)) ∧ Below w.heap.size w w' := by
  obtain ⟨x, y, z, hs, hx, hy, hz⟩ := needS_three h
  clear h
  have hI : insB op a b c len = (fitB x a len && (fitB y b len && fitB z c len)) := by
    unfold insB
    rw [hs]
  rw [hI]
  clear hI
  go_enter Try.func17, Try.ntmps17
  go_wp2_with fail
  refine (needs_any _ _).mono ?_
  rw [hs]
  rintro e w' ⟨rfl, rfl⟩
  clear hs
  go_wp2_with fail
  go_loopw [4] (fun r wr => InsRel w ⟨#[x, y, z]⟩ a b c (fun k => if k = 0 then fitB x a len else if k = 1 then fitB y b len else fitB z c len) r wr) (fun _ wr => 3 - wr.iterPos (w.heap.size + 2))
  case atStart => exact ins_start w _ op a b c _
  case round =>
    obtain ⟨k, hk, rfl, hi, hp, hb, hf⟩ := hrel
    have hk3 : k ≤ 3 := hk
    clear hk
    by_cases hlt : k < 3
    · obtain ⟨q, n, hq, hn, hq3, hfk, hT⟩ := ins_letters x y z a b c len k hlt hx hy hz
      have hnext : ∀ ty, (Instr.next (.pointer (some ⟨w.heap.size + 2, 0, none⟩)) true ty).run Try.prog wr = _ := fun ty => Lib.run_next_ascii_at wr (w.heap.size + 2) ⟨#[x, y, z]⟩ k ty hi hlt (by rw [hq]; rcases hq3 with rfl | rfl | rfl <;> decide)
      rw [hq] at hnext
      have hi1 := Lib.iterAt_heap wr (w.heap.size + 2) _ k (k + 1) hi
      have hb1 := Lib.below_iterAt hb (show w.heap.size ≤ w.heap.size + 2 by omega) ⟨#[x, y, z]⟩ (k + 1)
      have hp1 : Blk (wr.iterAt (w.heap.size + 2) ⟨#[x, y, z]⟩ (k + 1)) (w.heap.size + 1) 53 #[.int .i64 a, .int .i64 b, .int .i64 c] := (Lib.iterAt_other wr (w.heap.size + 2) (w.heap.size + 1) _ _ (by omega)).trans hp
      have hmu : wr.iterPos (w.heap.size + 2) = k := by simp [World.iterPos, hi]
      have Hf := hide hf
      have Hfk := hide hfk
      have HT := hide hT
      have hcell := (hp1.cell k).trans hn
      clear hf hfk hT hi hp hq hn hb hx hy hz
      generalize wr.iterAt (w.heap.size + 2) ⟨#[x, y, z]⟩ (k + 1) = w1 at *
      have hstep : fitB q n len = true → InsRel w ⟨#[x, y, z]⟩ a b c (fun k => if k = 0 then fitB x a len else if k = 1 then fitB y b len else fitB z c len) (.bool false) w1 := fun hok =>
        ⟨k + 1, hlt, rfl, hi1, hp1, hb1, fun j hj => by
          by_cases e : j = k
          · subst e
            exact Hfk.out.trans hok
          · exact Hf.out j (by omega)⟩
      have Hstep := hide hstep
      have hmu2 : w1.iterPos (w.heap.size + 2) = k + 1 := by simp [World.iterPos, hi1]
      have Hmu := hide hmu
      have Hmu2 := hide hmu2
      clear hstep hmu hmu2 hi1 hp1
      rcases hq3 with rfl | rfl | rfl
      · go_wp2
        go_roundw
        case rel => exact Hstep.out (by simp [fitB])
        case measure => rw [Hmu.out, Hmu2.out]; omega
      · by_cases hok : 0 ≤ n ∧ n ≤ len
        · obtain ⟨ho1, ho2⟩ := hok
          go_wp2
          go_roundw
          case rel => exact Hstep.out (by simp [fitB]; omega)
          case measure => rw [Hmu.out, Hmu2.out]; omega
        · have HF := hide (HT.out (by simp [fitB]; omega))
          by_cases h0 : 0 ≤ n
          · have h1 : ¬ n ≤ len := by omega
            go_wp2
            go_ret
            exact ⟨ret_bool HF.out.symm, hb1⟩
          · go_wp2
            go_ret
            exact ⟨ret_bool HF.out.symm, hb1⟩
      · by_cases hok : 0 ≤ n ∧ n ≤ 7
        · obtain ⟨ho1, ho2⟩ := hok
          go_wp2
          go_roundw
          case rel => exact Hstep.out (by simp [fitB, regB]; omega)
          case measure => rw [Hmu.out, Hmu2.out]; omega
        · have HF := hide (HT.out (by simp [fitB, regB]; omega))
          by_cases h0 : 0 ≤ n
          · have h1 : ¬ n ≤ 7 := by omega
            go_wp2
            go_ret
            exact ⟨ret_bool HF.out.symm, hb1⟩
          · go_wp2
            go_ret
            exact ⟨ret_bool HF.out.symm, hb1⟩
    · obtain rfl : k = 3 := by omega
      have hnext : ∀ ty, (Instr.next (.pointer (some ⟨w.heap.size + 2, 0, none⟩)) true ty).run Try.prog wr = _ := fun ty => Lib.run_next_end_at wr (w.heap.size + 2) ⟨#[x, y, z]⟩ 3 ty hi (Nat.lt_irrefl _)
      have f0 : fitB x a len = true := hf 0 (by decide)
      have f1 : fitB y b len = true := hf 1 (by decide)
      have f2 : fitB z c len = true := hf 2 (by decide)
      have HF := hide (show (fitB x a len && (fitB y b len && fitB z c len)) = true by rw [f0, f1, f2]; rfl)
      clear hi hf f0 f1 f2
      go_wp2
      go_ret
      exact ⟨ret_bool HF.out.symm, hb⟩
theorem ins_any (op a b c len : Int) (w : World) : Calls Try.prog 17 #[.agg #[.int .i64 op, .int .i64 a, .int .i64 b, .int .i64 c], .int .i64 len] w fun e w' => e = .returned (.bool (insB op a b c len)) ∧ Below w.heap.size w w' := by
  by_cases h : isOp op
  · exact ins_some op a b c len w h
  · exact ins_none op a b c len w h
end Go.Proofs.Ytegegljpmelomaa
