/- Texts of this claim in one. No condition. -/
import Derived.Test.YtpfcmfannkbipaaJ23
import Derived.Test.YtpfcmfannkbipaaJ03
section
set_option linter.unusedVariables false
set_option linter.unusedSimpArgs false
set_option maxRecDepth 20000
namespace Go.Proofs.Ytpfcmfannkbipaa
open Go.RowKit Go.Deep

theorem rcmp_ev (a b : Ev) (w : World) : Calls Try.prog 32 #[.agg #[.float .f64 a.1, .int .i64 a.2.1, .int .i64 a.2.2.1, .int .i64 a.2.2.2.1, .int .i64 a.2.2.2.2], .agg #[.float .f64 b.1, .int .i64 b.2.1, .int .i64 b.2.2.1, .int .i64 b.2.2.2.1, .int .i64 b.2.2.2.2]] w fun e w' => e = .returned (.int .i64 (cmpE a b)) ∧ Below w.heap.size w w' := cmp08_any _ _ _ _ _ _ _ _ _ _ w
theorem mid_append {P : Program} {S : World → Prop} {ops : Array Oper} {l : List Oper} {o : Oper} {a : Act} {K : Act → World → Prop} (hgd : o.guard = none) (w w' : World) (s x : Operand) (T : TypeId) (v sv v' : Value)
    (ho : o.op = .call { callee := .builtin .append, args := #[s, x], argTypes := #[T, T] }) (hs : a.eval s = v) (hx : a.eval x = sv) (hrun : (Builtin.append_ #[T, T] o.type #[v, sv]).run P w = .ok v' w') (hS : S w') (h : wpMid P ops S K l (a.put o.dst v') w') : wpMid P ops S K (o :: l) a w := by
  refine mid_step v' w' (by simp [Region.wanted, hgd]) ?_ hS h
  unfold execOp
  simp only [ho, resolve, invoke, builtin, Sem.run_bind, Sem.run_pure, Result.andThen_ok, List.map_toArray, List.map_cons, List.map_nil, hs, hx, hrun]
theorem size_ev (X : World) : (sizeOf (Try.prog.elem 65)).run Try.prog X = .ok 5 X := by go_simp
/-- A row of events cut in two. -/
theorem cut_ev {w : World} (W : Sl Ev) (hW : TRow 37 EvB 5 w W) (k : Nat) (hk : k ≤ W.L.length) :
    ∃ (A2 : Option Addr) (c2 : Nat), (∀ X, (Instr.slice 65 (.slice W.A W.L.length W.c) none (some (.int .i64 k)) none).run Try.prog X = .ok (.slice W.A (W.L.take k).length W.c) X) ∧
      (∀ X, (Instr.slice 65 (.slice W.A W.L.length W.c) (some (.int .i64 k)) none none).run Try.prog X = .ok (.slice A2 (W.L.drop k).length c2) X) ∧
      (∀ Y, Below w.heap.size w Y → Reads Y Y.heap.size 5 W.A (W.L.take k).length ((W.L.take k).flatMap encEv)) ∧ (∀ Y, Below w.heap.size w Y → Reads Y Y.heap.size 5 A2 (W.L.drop k).length ((W.L.drop k).flatMap encEv)) := by
  obtain ⟨hr, hn, hc⟩ := hW.at_
  refine ⟨if W.c = k then W.A else W.A.map (·.add (k * 5)), W.c - k, fun X => ?_, fun X => ?_, fun Y hY => ?_, fun Y hY => ?_⟩
  · rw [run_slice_h (ht := Try.underlying65) (kh := .i64) (h := (k : Int)) (h0 := by omega) (h2 := by omega)]
    have hz : (if W.c = 0 then W.A else W.A.map (·.add (0 * 5))) = W.A := by
      split
      · rfl
      · cases W.A with
        | none => rfl
        | some a => exact congrArg some (show a.add (0 * 5) = a by rw [Nat.zero_mul]; unfold Addr.add; simp)
    rw [size_ev, Result.andThen_ok]
    unfold sliced
    rw [hz, List.length_take, Nat.min_eq_left hk]
    rfl
  · rw [run_slice_l (ht := Try.underlying65) (kl := .i64) (l := (k : Int)) (h0 := by omega) (h1 := by omega)]
    rw [size_ev, Result.andThen_ok]
    unfold sliced
    rw [List.length_drop]
    rfl
  · exact (RowD.reads (d := EvB) (enc := encEv) (by decide) (fun _ => rfl) lays_evb ((hW.take k hk).below EvB.keeps hY).at_.1)
  · cases hA : W.A with
    | none =>
      have h0 : W.L.length = 0 := by
        cases h : W.L.length with
        | zero => rfl
        | succ n =>
          obtain ⟨a, ha, _⟩ := hr 0 W.L[0] (List.getElem?_eq_getElem (by omega))
          rw [hA] at ha; cases ha
      have hd : W.L.drop k = [] := List.drop_eq_nil_of_le (by omega)
      rw [hd]
      exact ⟨by simp, fun h => absurd h (by simp)⟩
    | some a =>
      by_cases h0 : k = W.L.length
      · have hd : W.L.drop k = [] := List.drop_eq_nil_of_le (by omega)
        rw [hd]
        exact ⟨by simp, fun h => absurd h (by simp)⟩
      · rw [if_neg (by omega)]
        exact (RowD.reads (d := EvB) (enc := encEv) (by decide) (fun _ => rfl) lays_evb ((hW.drop k hA hk).below EvB.keeps hY).at_.1)
theorem grown_set {w X : World} (h : Below w.heap.size w X) (g j : Nat) (v : Value) : w.grownBy (X.setCell ⟨g, j, none⟩ v) (some g) :=
  ⟨h.os, h.tape, h.output, by have := h.size; simpa [World.setCell] using this, fun k hk hne => by
    rw [← h.block k hk]
    unfold World.setCell
    simp only
    rw [Array.getElem?_modify]
    exact if_neg (fun e => hne (by rw [e]))⟩
def PuRel (w1 : World) (L : List Ev) (e : Ev) (i : Value) (wr : World) : Prop := ∃ k : Nat, k ≤ L.length ∧ i = .int .i64 k ∧ (∀ j x, j < k → L[j]? = some x → cmpE x e ≤ 0) ∧ Below w1.heap.size w1 wr
set_option maxHeartbeats 1000000 in
theorem put9 (w0 w : World) (g : Nat) (m : Mdl) (S : Sl St) (W : Sl Ev) (D : Sl Dn) (e : Ev) (h : Sim9 w0 g m S W D w) (hs : W.L.length ≤ 100000) :
    Calls Try.prog 93 #[.pointer (some ⟨g, 0, none⟩), .agg #[.float .f64 e.1, .int .i64 e.2.1, .int .i64 e.2.2.1, .int .i64 e.2.2.2.1, .int .i64 e.2.2.2.2]] w fun x w' => ∃ q : Sl Ev, x = .returned (.tuple #[]) ∧ q.L = insP e W.L ∧ Sim9 w0 g m S q D w' ∧ w.grownBy w' (some g) := by
  have hX := Blk.new w 37 #[.float .f64 e.1, .int .i64 e.2.1, .int .i64 e.2.2.1, .int .i64 e.2.2.2.1, .int .i64 e.2.2.2.2]
  have hb0 : Below w.heap.size w (w.alloc (.cells #[.float .f64 e.1, .int .i64 e.2.1, .int .i64 e.2.2.1, .int .i64 e.2.2.2.1, .int .i64 e.2.2.2.2] 37)) := (Below.refl _ _).alloc (Nat.le_refl _) _
  have hM := h.below hb0
  have hge : g < w.heap.size := h.box.lt
  obtain ⟨A, c, L⟩ := W
  have hl : L.length ≤ 9223372036854775807 := by simp only at hs; omega
  have hg7 : (w.alloc (.cells #[.float .f64 e.1, .int .i64 e.2.1, .int .i64 e.2.2.1, .int .i64 e.2.2.2.1, .int .i64 e.2.2.2.2] 37)).cell? ⟨g, 7, none⟩ = some (.slice A L.length c) := hM.box.cell 7
  have hr := hM.wt.at_.1
  have HM := hide hM
  have HC := hide (fun x => rcmp_ev x e)
  obtain ⟨et, es, en, ed, ep⟩ := e
  have HW := hide hb0
  generalize hgE : w.heap.size = ge at *
  have x0 := hX.cell 0
  have x1 := hX.cell 1
  have x2 := hX.cell 2
  have x3 := hX.cell 3
  have x4 := hX.cell 4
  simp only [List.getElem?_toArray, List.getElem?_cons_zero, List.getElem?_cons_succ] at x0 x1 x2 x3 x4
  have HX := hide hX
  clear h hb0 hM hX
  go_enter Try.func93, Try.ntmps93
  go_upto_region 1 with fail
  generalize World.alloc w _ = w1 at *
  go_wp2_with fail
  go_loopw [4] (fun i wr => PuRel w1 L (et, es, en, ed, ep) i wr) (fun i _ => L.length - (intOf i).toNat)
  case atStart => exact ⟨0, Nat.zero_le _, rfl, fun j x hj => absurd hj (Nat.not_lt_zero _), Below.refl _ _⟩
  case round =>
    obtain ⟨k, hk, rfl, hbe, hb⟩ := hrel
    obtain ⟨p, hO, h0, hne, hI⟩ := bel_hidden wr wr.drew (Below.refl _ _).drew
    have kI := fun i : Wo p => below_after hb (hI i)
    have x0 := fun i : Wo p => keepc (kI i) x0
    have x1 := fun i : Wo p => keepc (kI i) x1
    have x2 := fun i : Wo p => keepc (kI i) x2
    have x3 := fun i : Wo p => keepc (kI i) x3
    have x4 := fun i : Wo p => keepc (kI i) x4
    have g7 := fun i : Wo p => keepc (kI i) hg7
    have HBI := hide kI
    have HP := hide hO
    have H0 := hide h0
    clear kI hI hO h0
    by_cases hlt : k < L.length
    · have hx := List.getElem?_eq_getElem hlt
      obtain ⟨a, rfl, g0⟩ := hr k _ hx
      have kL : (k : Int) < (L.length : Int) := by omega
      have kJ : (0 : Int) ≤ (k : Int) := by omega
      have dL : decide ((k : Int) < (L.length : Int)) = true := decide_eq_true kL
      have hend : ∀ x, L[k]? = some x → ¬ cmpE L[k] (et, es, en, ed, ep) ≤ 0 → ¬ cmpE x (et, es, en, ed, ep) ≤ 0 := by
        intro x hxx hc
        rw [hx] at hxx
        injection hxx with hxx
        rw [← hxx]; exact hc
      have hnext : cmpE L[k] (et, es, en, ed, ep) ≤ 0 → ∀ j x, j < k + 1 → L[j]? = some x → cmpE x (et, es, en, ed, ep) ≤ 0 := by
        intro hc j x hj hjx
        by_cases hjk : j < k
        · exact hbe j x hjk hjx
        · obtain rfl : j = k := by omega
          rw [hx] at hjx
          injection hjx with hjx
          rw [← hjx]; exact hc
      have hcc := HC.out L[k]
      generalize L[k] = x at *
      obtain ⟨xt, xs, xn, xd, xp⟩ := x
      have j0 := fun i : Wo p => keepc (HBI.out i) g0.1
      have j1 := fun i : Wo p => keepc (HBI.out i) g0.2.1
      have j2 := fun i : Wo p => keepc (HBI.out i) g0.2.2.1
      have j3 := fun i : Wo p => keepc (HBI.out i) g0.2.2.2.1
      have j4 := fun i : Wo p => keepc (HBI.out i) g0.2.2.2.2
      simp only at j0 j1 j2 j3 j4 hcc
      generalize cmpE (xt, xs, xn, xd, xp) (et, es, en, ed, ep) = C at *
      have HCC := hide hcc
      have HN := hide hnext
      have HE := hide hend
      have hbe' := hbe
      clear hcc hnext hend hx g0 hr hg7 hb hbe
      by_cases hC : C ≤ 0
      · have dC : decide (C ≤ 0) = true := decide_eq_true hC
        go_upto_region 2 with fail
        refine wp_region_quietC (by kernel_rfl) (by kernel_rfl) H0.out ?_
        repeat (go_big_quiet_step (first
          | (go_at_call 32; exact Calls.quietC HP.out (HCC.out _))))
        refine wpQuiet_nil ?_
        intro _ hw'
        obtain ⟨i, rfl⟩ := hw'
        have hi := hide (HBI.out i)
        generalize i.W = W1 at *
        clear x0 x1 x2 x3 x4 g7 j0 j1 j2 j3 j4 HBI HP H0 hne i
        go_wp2_with fail
        go_roundw
        case rel => exact ⟨k + 1, by omega, by go_num, HN.out hC, hi.out⟩
        case measure => simp [intOf]; omega
      · have dC : decide (C ≤ 0) = false := decide_eq_false hC
        have HQ := hide (insP_at (et, es, en, ed, ep) L k (by omega) hbe' (fun x hx => HE.out x hx hC))
        go_upto_region 2 with fail
        refine wp_region_quietC (by kernel_rfl) (by kernel_rfl) H0.out ?_
        repeat (go_big_quiet_step (first
          | (go_at_call 32; exact Calls.quietC HP.out (HCC.out _))))
        refine wpQuiet_nil ?_
        intro _ hw'
        obtain ⟨i, rfl⟩ := hw'
        have hi := hide (HBI.out i)
        generalize i.W = W1 at *
        clear x0 x1 x2 x3 x4 g7 j0 j1 j2 j3 j4 HBI HP H0 hne i HCC HN HE
        go_upto_region 4 with fail
        generalize some a = A at *
        have hk0 := hk
        obtain ⟨A2, c2, hs1, hs2, hT, hD⟩ := cut_ev ⟨A, c, L⟩ ((HM.out.wt.below EvB.keeps hi.out)) k hk
        simp only at hs1 hs2 hT hD
        have hlen : (L.take k).length + (L.drop k).length ≤ 100000000 := by simp only [List.length_take, List.length_drop]; omega
        generalize L.take k = T at *
        generalize L.drop k = E at *
        have hge1 : g < W1.heap.size := Nat.lt_of_lt_of_le (HM.out.box.lt) hi.out.size
        have BC := hide (fun (X : World) (hX : Below W1.heap.size W1 X) => (show X.cell? ⟨g, 7, none⟩ = some (.slice A L.length c) ∧ X.cell? ⟨ge, 0, none⟩ = some (.float .f64 et) ∧ X.cell? ⟨ge, 1, none⟩ = some (.int .i64 es) ∧ X.cell? ⟨ge, 2, none⟩ = some (.int .i64 en) ∧ X.cell? ⟨ge, 3, none⟩ = some (.int .i64 ed) ∧ X.cell? ⟨ge, 4, none⟩ = some (.int .i64 ep) from
          have hM2 := HM.out.below (below_after hi.out hX)
          have hX2 := HX.out.below (below_after hi.out hX) HX.out.lt
          ⟨hM2.box.cell 7, hX2.cell 0, hX2.cell 1, hX2.cell 2, hX2.cell 3, hX2.cell 4⟩))
        have HF := hide (fun (q : Sl Ev) (X : World) (hq : q.L = T ++ [(et, es, en, ed, ep)] ++ E) (ho : OwnR 37 5 encEv X W1.heap.size q.val q.L) (hX : Below W1.heap.size W1 X) =>
          (show ∃ q' : Sl Ev, q'.L = insP (et, es, en, ed, ep) L ∧ Sim9 w0 g m S q' D (X.setCell ⟨g, 7, none⟩ q.val) ∧ w.grownBy (X.setCell ⟨g, 7, none⟩ q.val) (some g) from
            ⟨q, hq.trans HQ.out.symm, (HM.out.below (below_after hi.out hX)).setW (TRow.of_own (ok := fun _ _ => True) (by decide) (fun _ => rfl) makes_evb ho (fun _ _ => trivial)), grown_set (by rw [hgE]; exact HW.out.trans ((below_after hi.out hX).mono (by rw [← hgE]; exact (hgE ▸ HW.out.size)))) g 7 _⟩))
        have FZ := hide (fun (X : World) (hX : Below W1.heap.size W1 X) => (show X.frozen? ⟨g, 7, none⟩ = false from (HM.out.below (below_after hi.out hX)).box.frozen 7))
        have B0 := hide (Below.refl W1.heap.size W1).drew
        clear hi HQ HC hk hl hs HM HX
        refine wp_region_orders (fun X => X.cell? ⟨g, 7, none⟩ = some (.slice A L.length c) ∧ X.cell? ⟨ge, 0, none⟩ = some (.float .f64 et) ∧ X.cell? ⟨ge, 1, none⟩ = some (.int .i64 es) ∧ X.cell? ⟨ge, 2, none⟩ = some (.int .i64 en) ∧ X.cell? ⟨ge, 3, none⟩ = some (.int .i64 ed) ∧ X.cell? ⟨ge, 4, none⟩ = some (.int .i64 ep))
          [0, 2, 3, 4, 5, 6, 7, 9, 12, 13, 14, 15, 16, 17] 19 5 [[1, 8, 10, 11, 18], [1, 10, 8, 11, 18], [10, 1, 8, 11, 18]] (by kernel_rfl) (by kernel_rfl) (BC.out _ B0.out) ?_
        simp only [List.filterMap_cons, List.filterMap_nil, List.getElem?_cons_succ, List.getElem?_cons_zero, List.drop_succ_cons, List.drop_zero]
        repeat (refine head_step ?_ (by rfl) ?_ (fun _ _ _ h => h) ?_; rotate_left; (intro w' hs; obtain ⟨z7, z0, z1, z2, z3, z4⟩ := hs; go_simp; (try with_reducible rfl)); (try simp only [Act.put, List.setIfInBounds_toArray, List.set_cons_zero, List.set_cons_succ]))
        refine head_nil ?_
        intro o ho
        simp only [List.mem_cons, List.not_mem_nil, or_false] at ho
        rcases ho with rfl | rfl | rfl
        all_goals simp only [List.filterMap_cons, List.filterMap_nil, List.getElem?_cons_succ, List.getElem?_cons_zero]
        · obtain ⟨q1, q2, q3, X1, X2, X3, hr1, hr2, hr3, hqL, hown, hb1, hb2, hb3⟩ := ins_runs3 (V := W1) (X := W1.drew.alloc (.cells #[] 37)) (b := W1.heap.size) (e := (et, es, en, ed, ep)) (c := c) (c' := c2) (B0.out.alloc (Nat.le_refl _) _) (Blk.new W1.drew _ _) (Nat.le_refl _) hT hD hlen 65
          refine mid_step _ (W1.drew.alloc (.cells #[] 37)) (by rfl) (by go_simp; rfl) (BC.out _ (B0.out.alloc (Nat.le_refl _) _)) ?_
          simp only [Act.put, List.setIfInBounds_toArray, List.set_cons_zero, List.set_cons_succ]
          refine mid_append rfl _ X1 (.tmp 27) (.tmp 33) 65 _ _ _ rfl rfl rfl hr1 (BC.out _ hb1) ?_
          simp only [Act.put, List.setIfInBounds_toArray, List.set_cons_zero, List.set_cons_succ]
          refine mid_step _ (X1.alloc (.cells #[.float .f64 et, .int .i64 es, .int .i64 en, .int .i64 ed, .int .i64 ep] 37)) (by rfl) (by go_simp; rfl) (BC.out _ (hb1.alloc hb1.size _)) ?_
          simp only [Act.put, List.setIfInBounds_toArray, List.set_cons_zero, List.set_cons_succ]
          refine mid_append rfl _ X2 (.tmp 34) (.tmp 36) 65 _ _ _ rfl rfl rfl hr2 (BC.out _ hb2) ?_
          simp only [Act.put, List.setIfInBounds_toArray, List.set_cons_zero, List.set_cons_succ]
          refine mid_append rfl _ X3 (.tmp 37) (.tmp 43) 65 _ _ _ rfl rfl rfl hr3 (BC.out _ hb3) ?_
          simp only [Act.put, List.setIfInBounds_toArray, List.set_cons_zero, List.set_cons_succ]
          refine mid_nil ?_
          have g7 := (BC.out _ hb3).1
          obtain ⟨q', hq', hS'⟩ := HF.out q3 X3 hqL hown hb3
          have f7 := FZ.out X3 hb3
          have HS := hide hS'
          clear hT hD hs1 hs2 BC HF hr1 hr2 hr3 hown hb1 hb2 hb3 hS' hqL
          unfold Sl.val at HS ⊢
          generalize q1.L.length = l1 at *
          generalize q2.L.length = l2 at *
          go_wp2_with fail
          first | exact bodyPost_end (results_none rfl _ _ _) rfl ⟨rfl, q', hq', HS.out⟩ | exact bodyPost_end (results_none rfl _ _ _) rfl ⟨q', rfl, hq', HS.out⟩
        · have hz : (W1.drew.alloc (.cells #[] 37)).heap.size = W1.heap.size + 1 := Array.size_push ..
          have hE := Blk.new (W1.drew.alloc (.cells #[] 37)) 37 #[.float .f64 et, .int .i64 es, .int .i64 en, .int .i64 ed, .int .i64 ep]
          rw [hz] at hE
          obtain ⟨q1, q2, q3, X1, X2, X3, hr1, hr2, hr3, hqL, hown, hb1, hb2, hb3⟩ := ins_runs (V := W1) (X := (W1.drew.alloc (.cells #[] 37)).alloc (.cells #[.float .f64 et, .int .i64 es, .int .i64 en, .int .i64 ed, .int .i64 ep] 37)) (b := W1.heap.size) (ge := W1.heap.size + 1) (e := (et, es, en, ed, ep)) (c := c) (c' := c2) ((B0.out.alloc (Nat.le_refl _) _).alloc (by rw [show (W1.drew.alloc (.cells #[] 37)).heap.size = W1.heap.size + 1 from Array.size_push ..]; omega) _) ((Blk.new W1.drew _ _).alloc _) (Nat.le_refl _) hE (by omega) hE.lt hT hD hlen 65
          clear hE hz
          refine mid_step _ (W1.drew.alloc (.cells #[] 37)) (by rfl) (by go_simp; rfl) (BC.out _ (B0.out.alloc (Nat.le_refl _) _)) ?_
          simp only [Act.put, List.setIfInBounds_toArray, List.set_cons_zero, List.set_cons_succ]
          refine mid_step _ ((W1.drew.alloc (.cells #[] 37)).alloc (.cells #[.float .f64 et, .int .i64 es, .int .i64 en, .int .i64 ed, .int .i64 ep] 37)) (by rfl) (by go_simp; rfl) (BC.out _ ((B0.out.alloc (Nat.le_refl _) _).alloc (by rw [show (W1.drew.alloc (.cells #[] 37)).heap.size = W1.heap.size + 1 from Array.size_push ..]; omega) _)) ?_
          simp only [Act.put, List.setIfInBounds_toArray, List.set_cons_zero, List.set_cons_succ]
          refine mid_append rfl _ X1 (.tmp 27) (.tmp 33) 65 _ _ _ rfl rfl rfl hr1 (BC.out _ hb1) ?_
          simp only [Act.put, List.setIfInBounds_toArray, List.set_cons_zero, List.set_cons_succ]
          refine mid_append rfl _ X2 (.tmp 34) (.tmp 36) 65 _ _ _ rfl rfl rfl hr2 (BC.out _ hb2) ?_
          simp only [Act.put, List.setIfInBounds_toArray, List.set_cons_zero, List.set_cons_succ]
          refine mid_append rfl _ X3 (.tmp 37) (.tmp 43) 65 _ _ _ rfl rfl rfl hr3 (BC.out _ hb3) ?_
          simp only [Act.put, List.setIfInBounds_toArray, List.set_cons_zero, List.set_cons_succ]
          refine mid_nil ?_
          have g7 := (BC.out _ hb3).1
          obtain ⟨q', hq', hS'⟩ := HF.out q3 X3 hqL hown hb3
          have f7 := FZ.out X3 hb3
          have HS := hide hS'
          clear hT hD hs1 hs2 BC HF hr1 hr2 hr3 hown hb1 hb2 hb3 hS' hqL
          unfold Sl.val at HS ⊢
          generalize q1.L.length = l1 at *
          generalize q2.L.length = l2 at *
          go_wp2_with fail
          first | exact bodyPost_end (results_none rfl _ _ _) rfl ⟨rfl, q', hq', HS.out⟩ | exact bodyPost_end (results_none rfl _ _ _) rfl ⟨q', rfl, hq', HS.out⟩
        · have hz : (W1.drew.alloc (.cells #[.float .f64 et, .int .i64 es, .int .i64 en, .int .i64 ed, .int .i64 ep] 37)).heap.size = W1.heap.size + 1 := Array.size_push ..
          have hE := Blk.new (W1.drew.alloc (.cells #[.float .f64 et, .int .i64 es, .int .i64 en, .int .i64 ed, .int .i64 ep] 37)) 37 #[]
          rw [hz] at hE
          have hG := (Blk.new W1.drew 37 #[.float .f64 et, .int .i64 es, .int .i64 en, .int .i64 ed, .int .i64 ep]).alloc (.cells #[] 37)
          obtain ⟨q1, q2, q3, X1, X2, X3, hr1, hr2, hr3, hqL, hown, hb1, hb2, hb3⟩ := ins_runs (V := W1) (X := (W1.drew.alloc (.cells #[.float .f64 et, .int .i64 es, .int .i64 en, .int .i64 ed, .int .i64 ep] 37)).alloc (.cells #[] 37)) (b := W1.heap.size + 1) (ge := W1.heap.size) (e := (et, es, en, ed, ep)) (c := c) (c' := c2) ((B0.out.alloc (Nat.le_refl _) _).alloc (by rw [show (W1.drew.alloc (.cells #[.float .f64 et, .int .i64 es, .int .i64 en, .int .i64 ed, .int .i64 ep] 37)).heap.size = W1.heap.size + 1 from Array.size_push ..]; omega) _) hE (by omega) hG (by omega) hG.lt hT hD hlen 65
          clear hE hz hG
          refine mid_step _ (W1.drew.alloc (.cells #[.float .f64 et, .int .i64 es, .int .i64 en, .int .i64 ed, .int .i64 ep] 37)) (by rfl) (by go_simp; rfl) (BC.out _ (B0.out.alloc (Nat.le_refl _) _)) ?_
          simp only [Act.put, List.setIfInBounds_toArray, List.set_cons_zero, List.set_cons_succ]
          refine mid_step _ ((W1.drew.alloc (.cells #[.float .f64 et, .int .i64 es, .int .i64 en, .int .i64 ed, .int .i64 ep] 37)).alloc (.cells #[] 37)) (by rfl) (by go_simp; rfl) (BC.out _ ((B0.out.alloc (Nat.le_refl _) _).alloc (by rw [show (W1.drew.alloc (.cells #[.float .f64 et, .int .i64 es, .int .i64 en, .int .i64 ed, .int .i64 ep] 37)).heap.size = W1.heap.size + 1 from Array.size_push ..]; omega) _)) ?_
          simp only [Act.put, List.setIfInBounds_toArray, List.set_cons_zero, List.set_cons_succ]
          refine mid_append rfl _ X1 (.tmp 27) (.tmp 33) 65 _ _ _ rfl rfl rfl hr1 (BC.out _ hb1) ?_
          simp only [Act.put, List.setIfInBounds_toArray, List.set_cons_zero, List.set_cons_succ]
          refine mid_append rfl _ X2 (.tmp 34) (.tmp 36) 65 _ _ _ rfl rfl rfl hr2 (BC.out _ hb2) ?_
          simp only [Act.put, List.setIfInBounds_toArray, List.set_cons_zero, List.set_cons_succ]
          refine mid_append rfl _ X3 (.tmp 37) (.tmp 43) 65 _ _ _ rfl rfl rfl hr3 (BC.out _ hb3) ?_
          simp only [Act.put, List.setIfInBounds_toArray, List.set_cons_zero, List.set_cons_succ]
          refine mid_nil ?_
          have g7 := (BC.out _ hb3).1
          obtain ⟨q', hq', hS'⟩ := HF.out q3 X3 hqL hown hb3
          have f7 := FZ.out X3 hb3
          have HS := hide hS'
          clear hT hD hs1 hs2 BC HF hr1 hr2 hr3 hown hb1 hb2 hb3 hS' hqL
          unfold Sl.val at HS ⊢
          generalize q1.L.length = l1 at *
          generalize q2.L.length = l2 at *
          go_wp2_with fail
          first | exact bodyPost_end (results_none rfl _ _ _) rfl ⟨rfl, q', hq', HS.out⟩ | exact bodyPost_end (results_none rfl _ _ _) rfl ⟨q', rfl, hq', HS.out⟩
    · have dL : decide ((k : Int) < (L.length : Int)) = false := decide_eq_false (by omega)
      have HQ := hide (insP_at (et, es, en, ed, ep) L k hk hbe (fun x hx => by
        rw [List.getElem?_eq_none (by omega)] at hx
        cases hx))
      clear hb hg7 hr hbe
      go_upto_region 2 with fail
      refine wp_region_quietC (by kernel_rfl) (by kernel_rfl) H0.out ?_
      repeat (go_big_quiet_step (fail))
      refine wpQuiet_nil ?_
      intro _ hw'
      obtain ⟨i, rfl⟩ := hw'
      have hi := hide (HBI.out i)
      generalize i.W = W1 at *
      clear x0 x1 x2 x3 x4 g7 HBI HP H0 hne i
      go_upto_region 4 with fail
      have hk0 := hk
      obtain ⟨A2, c2, hs1, hs2, hT, hD⟩ := cut_ev ⟨A, c, L⟩ ((HM.out.wt.below EvB.keeps hi.out)) k hk
      simp only at hs1 hs2 hT hD
      have hlen : (L.take k).length + (L.drop k).length ≤ 100000000 := by simp only [List.length_take, List.length_drop]; omega
      generalize L.take k = T at *
      generalize L.drop k = E at *
      have hge1 : g < W1.heap.size := Nat.lt_of_lt_of_le (HM.out.box.lt) hi.out.size
      have BC := hide (fun (X : World) (hX : Below W1.heap.size W1 X) => (show X.cell? ⟨g, 7, none⟩ = some (.slice A L.length c) ∧ X.cell? ⟨ge, 0, none⟩ = some (.float .f64 et) ∧ X.cell? ⟨ge, 1, none⟩ = some (.int .i64 es) ∧ X.cell? ⟨ge, 2, none⟩ = some (.int .i64 en) ∧ X.cell? ⟨ge, 3, none⟩ = some (.int .i64 ed) ∧ X.cell? ⟨ge, 4, none⟩ = some (.int .i64 ep) from
        have hM2 := HM.out.below (below_after hi.out hX)
        have hX2 := HX.out.below (below_after hi.out hX) HX.out.lt
        ⟨hM2.box.cell 7, hX2.cell 0, hX2.cell 1, hX2.cell 2, hX2.cell 3, hX2.cell 4⟩))
      have HF := hide (fun (q : Sl Ev) (X : World) (hq : q.L = T ++ [(et, es, en, ed, ep)] ++ E) (ho : OwnR 37 5 encEv X W1.heap.size q.val q.L) (hX : Below W1.heap.size W1 X) =>
        (show ∃ q' : Sl Ev, q'.L = insP (et, es, en, ed, ep) L ∧ Sim9 w0 g m S q' D (X.setCell ⟨g, 7, none⟩ q.val) ∧ w.grownBy (X.setCell ⟨g, 7, none⟩ q.val) (some g) from
          ⟨q, hq.trans HQ.out.symm, (HM.out.below (below_after hi.out hX)).setW (TRow.of_own (ok := fun _ _ => True) (by decide) (fun _ => rfl) makes_evb ho (fun _ _ => trivial)), grown_set (by rw [hgE]; exact HW.out.trans ((below_after hi.out hX).mono (by rw [← hgE]; exact (hgE ▸ HW.out.size)))) g 7 _⟩))
      have FZ := hide (fun (X : World) (hX : Below W1.heap.size W1 X) => (show X.frozen? ⟨g, 7, none⟩ = false from (HM.out.below (below_after hi.out hX)).box.frozen 7))
      have B0 := hide (Below.refl W1.heap.size W1).drew
      clear hi HQ HC hk hl hs HM HX
      refine wp_region_orders (fun X => X.cell? ⟨g, 7, none⟩ = some (.slice A L.length c) ∧ X.cell? ⟨ge, 0, none⟩ = some (.float .f64 et) ∧ X.cell? ⟨ge, 1, none⟩ = some (.int .i64 es) ∧ X.cell? ⟨ge, 2, none⟩ = some (.int .i64 en) ∧ X.cell? ⟨ge, 3, none⟩ = some (.int .i64 ed) ∧ X.cell? ⟨ge, 4, none⟩ = some (.int .i64 ep))
        [0, 2, 3, 4, 5, 6, 7, 9, 12, 13, 14, 15, 16, 17] 19 5 [[1, 8, 10, 11, 18], [1, 10, 8, 11, 18], [10, 1, 8, 11, 18]] (by kernel_rfl) (by kernel_rfl) (BC.out _ B0.out) ?_
      simp only [List.filterMap_cons, List.filterMap_nil, List.getElem?_cons_succ, List.getElem?_cons_zero, List.drop_succ_cons, List.drop_zero]
      repeat (refine head_step ?_ (by rfl) ?_ (fun _ _ _ h => h) ?_; rotate_left; (intro w' hs; obtain ⟨z7, z0, z1, z2, z3, z4⟩ := hs; go_simp; (try with_reducible rfl)); (try simp only [Act.put, List.setIfInBounds_toArray, List.set_cons_zero, List.set_cons_succ]))
      refine head_nil ?_
      intro o ho
      simp only [List.mem_cons, List.not_mem_nil, or_false] at ho
      rcases ho with rfl | rfl | rfl
      all_goals simp only [List.filterMap_cons, List.filterMap_nil, List.getElem?_cons_succ, List.getElem?_cons_zero]
      · obtain ⟨q1, q2, q3, X1, X2, X3, hr1, hr2, hr3, hqL, hown, hb1, hb2, hb3⟩ := ins_runs3 (V := W1) (X := W1.drew.alloc (.cells #[] 37)) (b := W1.heap.size) (e := (et, es, en, ed, ep)) (c := c) (c' := c2) (B0.out.alloc (Nat.le_refl _) _) (Blk.new W1.drew _ _) (Nat.le_refl _) hT hD hlen 65
        refine mid_step _ (W1.drew.alloc (.cells #[] 37)) (by rfl) (by go_simp; rfl) (BC.out _ (B0.out.alloc (Nat.le_refl _) _)) ?_
        simp only [Act.put, List.setIfInBounds_toArray, List.set_cons_zero, List.set_cons_succ]
        refine mid_append rfl _ X1 (.tmp 27) (.tmp 33) 65 _ _ _ rfl rfl rfl hr1 (BC.out _ hb1) ?_
        simp only [Act.put, List.setIfInBounds_toArray, List.set_cons_zero, List.set_cons_succ]
        refine mid_step _ (X1.alloc (.cells #[.float .f64 et, .int .i64 es, .int .i64 en, .int .i64 ed, .int .i64 ep] 37)) (by rfl) (by go_simp; rfl) (BC.out _ (hb1.alloc hb1.size _)) ?_
        simp only [Act.put, List.setIfInBounds_toArray, List.set_cons_zero, List.set_cons_succ]
        refine mid_append rfl _ X2 (.tmp 34) (.tmp 36) 65 _ _ _ rfl rfl rfl hr2 (BC.out _ hb2) ?_
        simp only [Act.put, List.setIfInBounds_toArray, List.set_cons_zero, List.set_cons_succ]
        refine mid_append rfl _ X3 (.tmp 37) (.tmp 43) 65 _ _ _ rfl rfl rfl hr3 (BC.out _ hb3) ?_
        simp only [Act.put, List.setIfInBounds_toArray, List.set_cons_zero, List.set_cons_succ]
        refine mid_nil ?_
        have g7 := (BC.out _ hb3).1
        obtain ⟨q', hq', hS'⟩ := HF.out q3 X3 hqL hown hb3
        have f7 := FZ.out X3 hb3
        have HS := hide hS'
        clear hT hD hs1 hs2 BC HF hr1 hr2 hr3 hown hb1 hb2 hb3 hS' hqL
        unfold Sl.val at HS ⊢
        generalize q1.L.length = l1 at *
        generalize q2.L.length = l2 at *
        go_wp2_with fail
        first | exact bodyPost_end (results_none rfl _ _ _) rfl ⟨rfl, q', hq', HS.out⟩ | exact bodyPost_end (results_none rfl _ _ _) rfl ⟨q', rfl, hq', HS.out⟩
      · have hz : (W1.drew.alloc (.cells #[] 37)).heap.size = W1.heap.size + 1 := Array.size_push ..
        have hE := Blk.new (W1.drew.alloc (.cells #[] 37)) 37 #[.float .f64 et, .int .i64 es, .int .i64 en, .int .i64 ed, .int .i64 ep]
        rw [hz] at hE
        obtain ⟨q1, q2, q3, X1, X2, X3, hr1, hr2, hr3, hqL, hown, hb1, hb2, hb3⟩ := ins_runs (V := W1) (X := (W1.drew.alloc (.cells #[] 37)).alloc (.cells #[.float .f64 et, .int .i64 es, .int .i64 en, .int .i64 ed, .int .i64 ep] 37)) (b := W1.heap.size) (ge := W1.heap.size + 1) (e := (et, es, en, ed, ep)) (c := c) (c' := c2) ((B0.out.alloc (Nat.le_refl _) _).alloc (by rw [show (W1.drew.alloc (.cells #[] 37)).heap.size = W1.heap.size + 1 from Array.size_push ..]; omega) _) ((Blk.new W1.drew _ _).alloc _) (Nat.le_refl _) hE (by omega) hE.lt hT hD hlen 65
        clear hE hz
        refine mid_step _ (W1.drew.alloc (.cells #[] 37)) (by rfl) (by go_simp; rfl) (BC.out _ (B0.out.alloc (Nat.le_refl _) _)) ?_
        simp only [Act.put, List.setIfInBounds_toArray, List.set_cons_zero, List.set_cons_succ]
        refine mid_step _ ((W1.drew.alloc (.cells #[] 37)).alloc (.cells #[.float .f64 et, .int .i64 es, .int .i64 en, .int .i64 ed, .int .i64 ep] 37)) (by rfl) (by go_simp; rfl) (BC.out _ ((B0.out.alloc (Nat.le_refl _) _).alloc (by rw [show (W1.drew.alloc (.cells #[] 37)).heap.size = W1.heap.size + 1 from Array.size_push ..]; omega) _)) ?_
        simp only [Act.put, List.setIfInBounds_toArray, List.set_cons_zero, List.set_cons_succ]
        refine mid_append rfl _ X1 (.tmp 27) (.tmp 33) 65 _ _ _ rfl rfl rfl hr1 (BC.out _ hb1) ?_
        simp only [Act.put, List.setIfInBounds_toArray, List.set_cons_zero, List.set_cons_succ]
        refine mid_append rfl _ X2 (.tmp 34) (.tmp 36) 65 _ _ _ rfl rfl rfl hr2 (BC.out _ hb2) ?_
        simp only [Act.put, List.setIfInBounds_toArray, List.set_cons_zero, List.set_cons_succ]
        refine mid_append rfl _ X3 (.tmp 37) (.tmp 43) 65 _ _ _ rfl rfl rfl hr3 (BC.out _ hb3) ?_
        simp only [Act.put, List.setIfInBounds_toArray, List.set_cons_zero, List.set_cons_succ]
        refine mid_nil ?_
        have g7 := (BC.out _ hb3).1
        obtain ⟨q', hq', hS'⟩ := HF.out q3 X3 hqL hown hb3
        have f7 := FZ.out X3 hb3
        have HS := hide hS'
        clear hT hD hs1 hs2 BC HF hr1 hr2 hr3 hown hb1 hb2 hb3 hS' hqL
        unfold Sl.val at HS ⊢
        generalize q1.L.length = l1 at *
        generalize q2.L.length = l2 at *
        go_wp2_with fail
        first | exact bodyPost_end (results_none rfl _ _ _) rfl ⟨rfl, q', hq', HS.out⟩ | exact bodyPost_end (results_none rfl _ _ _) rfl ⟨q', rfl, hq', HS.out⟩
      · have hz : (W1.drew.alloc (.cells #[.float .f64 et, .int .i64 es, .int .i64 en, .int .i64 ed, .int .i64 ep] 37)).heap.size = W1.heap.size + 1 := Array.size_push ..
        have hE := Blk.new (W1.drew.alloc (.cells #[.float .f64 et, .int .i64 es, .int .i64 en, .int .i64 ed, .int .i64 ep] 37)) 37 #[]
        rw [hz] at hE
        have hG := (Blk.new W1.drew 37 #[.float .f64 et, .int .i64 es, .int .i64 en, .int .i64 ed, .int .i64 ep]).alloc (.cells #[] 37)
        obtain ⟨q1, q2, q3, X1, X2, X3, hr1, hr2, hr3, hqL, hown, hb1, hb2, hb3⟩ := ins_runs (V := W1) (X := (W1.drew.alloc (.cells #[.float .f64 et, .int .i64 es, .int .i64 en, .int .i64 ed, .int .i64 ep] 37)).alloc (.cells #[] 37)) (b := W1.heap.size + 1) (ge := W1.heap.size) (e := (et, es, en, ed, ep)) (c := c) (c' := c2) ((B0.out.alloc (Nat.le_refl _) _).alloc (by rw [show (W1.drew.alloc (.cells #[.float .f64 et, .int .i64 es, .int .i64 en, .int .i64 ed, .int .i64 ep] 37)).heap.size = W1.heap.size + 1 from Array.size_push ..]; omega) _) hE (by omega) hG (by omega) hG.lt hT hD hlen 65
        clear hE hz hG
        refine mid_step _ (W1.drew.alloc (.cells #[.float .f64 et, .int .i64 es, .int .i64 en, .int .i64 ed, .int .i64 ep] 37)) (by rfl) (by go_simp; rfl) (BC.out _ (B0.out.alloc (Nat.le_refl _) _)) ?_
        simp only [Act.put, List.setIfInBounds_toArray, List.set_cons_zero, List.set_cons_succ]
        refine mid_step _ ((W1.drew.alloc (.cells #[.float .f64 et, .int .i64 es, .int .i64 en, .int .i64 ed, .int .i64 ep] 37)).alloc (.cells #[] 37)) (by rfl) (by go_simp; rfl) (BC.out _ ((B0.out.alloc (Nat.le_refl _) _).alloc (by rw [show (W1.drew.alloc (.cells #[.float .f64 et, .int .i64 es, .int .i64 en, .int .i64 ed, .int .i64 ep] 37)).heap.size = W1.heap.size + 1 from Array.size_push ..]; omega) _)) ?_
        simp only [Act.put, List.setIfInBounds_toArray, List.set_cons_zero, List.set_cons_succ]
        refine mid_append rfl _ X1 (.tmp 27) (.tmp 33) 65 _ _ _ rfl rfl rfl hr1 (BC.out _ hb1) ?_
        simp only [Act.put, List.setIfInBounds_toArray, List.set_cons_zero, List.set_cons_succ]
        refine mid_append rfl _ X2 (.tmp 34) (.tmp 36) 65 _ _ _ rfl rfl rfl hr2 (BC.out _ hb2) ?_
        simp only [Act.put, List.setIfInBounds_toArray, List.set_cons_zero, List.set_cons_succ]
        refine mid_append rfl _ X3 (.tmp 37) (.tmp 43) 65 _ _ _ rfl rfl rfl hr3 (BC.out _ hb3) ?_
        simp only [Act.put, List.setIfInBounds_toArray, List.set_cons_zero, List.set_cons_succ]
        refine mid_nil ?_
        have g7 := (BC.out _ hb3).1
        obtain ⟨q', hq', hS'⟩ := HF.out q3 X3 hqL hown hb3
        have f7 := FZ.out X3 hb3
        have HS := hide hS'
        clear hT hD hs1 hs2 BC HF hr1 hr2 hr3 hown hb1 hb2 hb3 hS' hqL
        unfold Sl.val at HS ⊢
        generalize q1.L.length = l1 at *
        generalize q2.L.length = l2 at *
        go_wp2_with fail
        first | exact bodyPost_end (results_none rfl _ _ _) rfl ⟨rfl, q', hq', HS.out⟩ | exact bodyPost_end (results_none rfl _ _ _) rfl ⟨q', rfl, hq', HS.out⟩
end Go.Proofs.Ytpfcmfannkbipaa
end
