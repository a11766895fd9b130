/- The walks of the machine's begin, may, Run, Steps. No condition but sizes. -/
import Derived.Test.YtpfcmfannkbipaaVm6
set_option linter.unusedVariables false
set_option linter.unusedSimpArgs false
set_option maxRecDepth 20000
namespace Go.Proofs.Ytpfcmfannkbipaa
open Go.RowKit Go.Deep

/-- What a handler runs on. -/
structure Inp where
  wd : Sl Int
  pay : Int
  me : Int
  lps : Int
  seed : Int
  dice : Int
def Inp.cells (i : Inp) : Array Value := #[i.wd.val, .int .i64 i.pay, .int .i64 i.me, .int .i64 i.lps, .int .i64 i.seed, .int .i64 i.dice]
def Inp.val (i : Inp) : Value := .agg i.cells
structure Inp.At (w : World) (i : Inp) : Prop where
  wd : i.wd.At IntAt 1 w
  pay : I64 i.pay
  me : I64 i.me
  lps : I64 i.lps
  seed : I64 i.seed
  dice : I64 i.dice
theorem Inp.At.below {w w' : World} {i : Inp} (h : i.At w) (hb : Below w.heap.size w w') : i.At w' := ⟨h.wd.below IntAt.keeps hb, h.pay, h.me, h.lps, h.seed, h.dice⟩
theorem sl_ints {w : World} {s : Sl Int} (h : s.At IntAt 1 w) : ∀ z ∈ s.L, I64 z := by
  intro z hz
  obtain ⟨i, hi, rfl⟩ := List.getElem_of_mem hz
  obtain ⟨a, _, h1⟩ := h.1 i s.L[i] (List.getElem?_eq_getElem hi)
  exact h1.2
theorem rc_words {pv wv sv : Value} {lps : Int} {db : Nat} {s : VS} (h8 : s.g.length = 8) (v : Value) (l : List Int) : (runCells pv wv sv lps db s).setIfInBounds 9 v = runCells pv v sv lps db { s with w := l } := by
  unfold runCells
  rw [List.setIfInBounds_toArray, show 9 = 9 + 0 from rfl, set_tail _ _ _ _ _ (by rw [List.length_map]; exact h8)]
  rfl
/-- The words are copied. -/
theorem RunS.words {w0 w : World} {B b db : Nat} {pv sv : Value} {W lps : Int} {s : VS} (h : RunS none w0 w B b db pv (.slice none 0 0) sv W lps s) (h8 : s.g.length = 8) (x : Sl Int) (hx : x.At IntAt 1 w) (hn : x.L.length ≤ 1000) (ty : TypeId) :
    ∃ (A : Option Addr) (c : Nat) (w1 : World), (Builtin.append_ #[59, 59] ty #[.slice none 0 0, x.val]).run Try.prog w = .ok (.slice A x.L.length c) w1 ∧ Below w.heap.size w w1 ∧
      w1.cell? ⟨b, 9, none⟩ = some (.slice none 0 0) ∧ w1.frozen? ⟨b, 9, none⟩ = false ∧ RunS none w0 (w1.setCell ⟨b, 9, none⟩ (.slice A x.L.length c)) B b db pv (.slice A x.L.length c) sv W lps { s with w := x.L } := by
  obtain ⟨v1, w1, hrun, hown, hext⟩ := run_append_src (P := Try.prog) 3 59 ty 1 8 (.int .i64 0) encInt (by decide) (fun _ => rfl) one_int Try.underlying59 inf_int rfl w B _ (.slice none 0 0) [] x.L x.A x.L.length x.c OwnR.nil
    (hx.1.reads (size := 1) (by decide) (fun _ => rfl) lays_int) rfl (by simp; omega) (by simp; omega) h.siz
  rw [List.nil_append] at hown
  obtain ⟨⟨qA, qc, qL⟩, hv, hL, _, _⟩ := hown.form
  simp only [Sl.val] at hv hL
  subst hL
  subst hv
  have hb1 : Below w.heap.size w w1 := hext.below (Nat.le_refl _) (by simp [Value.ownBlock])
  have h1 := h.below hb1
  refine ⟨qA, qc, w1, hrun, hb1, (h1.tails h8).2.1, h1.free 9, ⟨h1.bel.setCell (p := ⟨b, 9, none⟩) h1.lo _, ?_, Blk.far h1.dic (p := ⟨b, 9, none⟩) (Ne.symm h1.ne) _, hown.setCell (p := ⟨b, 9, none⟩) h1.lb _, h1.snt.setCell (p := ⟨b, 9, none⟩) h1.lb _, h1.lb, h1.ld, by simpa [World.setCell] using h1.siz, h1.lo, h1.lod, fun r hr => by cases hr⟩⟩
  rw [← rc_words (s := s) (wv := .slice none 0 0) h8 _ x.L]
  exact h1.blk.set_ 9 _
set_option maxHeartbeats 4000000 in
theorem begin_any (w : World) (p : Sl Ins4) (i : Inp) (hi : i.At w) (h8 : i.wd.L.length ≤ 8) :
    Calls Try.prog 100 #[p.val, i.val] w fun e w' => ∃ (B b db : Nat) (wv : Value), e = .returned (.pointer (some ⟨b, 0, none⟩)) ∧ RunS none w w' B b db p.val wv (.slice none 0 0) (wordI i.seed i.me) i.lps (vbeg i.wd.L i.pay i.me i.lps i.dice) := by
  obtain ⟨⟨wA, wc, wL⟩, pay, me, lps, seed, dice⟩ := i
  have hX := Blk.new w 112 #[.slice wA wL.length wc, .int .i64 pay, .int .i64 me, .int .i64 lps, .int .i64 seed, .int .i64 dice]
  have hb : Below w.heap.size w (w.alloc (.cells #[.slice wA wL.length wc, .int .i64 pay, .int .i64 me, .int .i64 lps, .int .i64 seed, .int .i64 dice] 112)) := (Below.refl _ _).alloc (Nat.le_refl _) _
  have HI := hide hi
  have H8 := hide h8
  clear hi h8
  unfold Inp.val Inp.cells Sl.val
  go_enter Try.func100, Try.ntmps100
  go_upto_region 1 with fail
  generalize w.alloc _ = w1 at *
  have hlt := hX.lt
  have hge : w.heap.size ≤ w.heap.size := Nat.le_refl _
  generalize hr0 : w.heap.size = r0 at hX hlt hge ⊢
  have c0 := hX.drew.cell 0
  have c1 := hX.drew.cell 1
  have c2 := hX.drew.cell 2
  have c3 := hX.drew.cell 3
  have c4 := hX.drew.cell 4
  have c5 := hX.drew.cell 5
  simp only [List.getElem?_toArray, List.getElem?_cons_zero, List.getElem?_cons_succ] at c0 c1 c2 c3 c4 c5
  have HX := hide hX.drew
  have HR := hide hr0
  have HB := hide hb.drew
  clear hX hr0 hb
  go_region_held3 (fun w' => w'.cell? ⟨r0, 2, none⟩ = some (.int .i64 me) ∧ w'.cell? ⟨r0, 3, none⟩ = some (.int .i64 lps) ∧ w'.cell? ⟨r0, 4, none⟩ = some (.int .i64 seed) ∧ w'.cell? ⟨r0, 5, none⟩ = some (.int .i64 dice))
    (first
      | (go_split_ands; exact ⟨by assumption, by assumption, by assumption, by assumption⟩)
      | (go_split_ands; exact ⟨HX6.cell 2, HX6.cell 3, HX6.cell 4, HX6.cell 5⟩)
      | (go_split_ands; exact ⟨(HX6.alloc _).cell 2, (HX6.alloc _).cell 3, (HX6.alloc _).cell 4, (HX6.alloc _).cell 5⟩))
    (first
      | (go_at_call 114; refine (new_any _ _ _ _).mono ?_; rintro e w6 ⟨rfl, hd6, hb6⟩; have HX6 := HX.out.below hb6 HX.out.lt))
  rename_i hHeld
  clear hHeld
  have hz6 : w1.heap.size < w6.heap.size := hd6.lt
  have hx6 : r0 < w6.heap.size := HX6.lt
  have hS0 : RunS none w (w6.alloc (.cells (runCells p.val (.slice none 0 0) (.slice none 0 0) lps w1.heap.size ⟨[0, 0, 0, 0, 0, 0, 0, 0], [], [], dice, 0, 0⟩) 154)) (w6.heap.size + 1) w6.heap.size w1.heap.size p.val (.slice none 0 0) (.slice none 0 0) (wordI seed me) lps ⟨[0, 0, 0, 0, 0, 0, 0, 0], [], [], dice, 0, 0⟩ := by
    have hb7 : Below w.heap.size w w6 := below_after HB.out hb6
    have hz : ∀ o, (w6.alloc o).heap.size = w6.heap.size + 1 := fun o => Array.size_push ..
    have hz1 : w1.drew.heap.size = w1.heap.size := rfl
    refine ⟨hb7.alloc hb7.size _, Blk.new w6 _ _, Blk.alloc hd6 _, OwnR.nil, OwnR.nil, by omega, by omega, by rw [hz]; omega, hb7.size, by have := HB.out.size; omega, fun r hr => by cases hr⟩
  have HX7 := hide (HX6.alloc (.cells (runCells p.val (.slice none 0 0) (.slice none 0 0) lps w1.heap.size ⟨[0, 0, 0, 0, 0, 0, 0, 0], [], [], dice, 0, 0⟩) 154))
  have HS := hide hS0
  have hbx : w6.heap.size ≠ r0 := by omega
  clear hS0 HX6 c0 c1 c2 c3 c4 c5 HX HR HB
  change Exit.then _ _ Exit.normal _ (w6.alloc (.cells (runCells p.val (.slice none 0 0) (.slice none 0 0) lps w1.heap.size ⟨[0, 0, 0, 0, 0, 0, 0, 0], [], [], dice, 0, 0⟩) 154))
  generalize w6.alloc (.cells (runCells p.val (.slice none 0 0) (.slice none 0 0) lps w1.heap.size ⟨[0, 0, 0, 0, 0, 0, 0, 0], [], [], dice, 0, 0⟩) 154) = w7 at *
  generalize w6.heap.size = b at *
  generalize w1.heap.size = db at *
  go_upto_region 2 with fail
  have x0 := HX7.out.cell 0
  have x9 := (HS.out.tails rfl).2.1
  simp only [List.getElem?_toArray, List.getElem?_cons_zero, List.getElem?_cons_succ] at x0
  obtain ⟨A2, c2, w8, hrun, hb8, y9, f9, hS2⟩ := HS.out.drew.words rfl ⟨wA, wc, wL⟩ (HI.out.below HS.out.drew.bel).wd (by have := H8.out; simp only at this ⊢; omega) 59
  simp only [Sl.val] at hrun
  have HS2 := hide hS2
  have HX9 := hide ((HX7.out.drew.below hb8 HX7.out.drew.lt).far (p := ⟨b, 9, none⟩) (Ne.symm hbx) (.slice A2 wL.length c2))
  clear hS2 HX7 hb8
  refine wp_region_reads (fun w' => w'.cell? ⟨b, 9, none⟩ = some (.slice none 0 0) ∧ w'.cell? ⟨r0, 0, none⟩ = some (.slice wA wL.length wc))
    (.pointer (some ⟨b, 0, none⟩)) 6 0 (by kernel_rfl) (by kernel_rfl) (Or.inl ⟨by rfl, fun w => by rfl⟩) (fun _ _ _ h => h) ⟨x9, x0⟩ ?_
  clear x9 x0 HS
  simp only [Act.put, List.setIfInBounds_toArray, List.set_cons_zero, List.set_cons_succ, List.take_succ_cons, List.take_zero, List.drop_succ_cons, List.drop_zero]
  repeat (refine head_step ?_ (by rfl) ?_ (fun _ _ _ h => h) ?_; rotate_left; (intro w' hs; obtain ⟨z1, z2⟩ := hs; go_simp; (try with_reducible rfl)); (try simp only [Act.put, List.setIfInBounds_toArray, List.set_cons_zero, List.set_cons_succ]))
  refine head_nil ?_
  refine mid_nil ?_
  try simp only [Act.put, List.setIfInBounds_toArray, List.set_cons_zero, List.set_cons_succ]
  go_upto_region 3 with (at_builtin; refine wpList_of_append rfl _ w8 (.tmp 22) (.tmp 24) 59 _ _ _ rfl rfl rfl hrun ?_)
  replace HS2 : Hid (RunS none w (w8.setCell ⟨b, 9, none⟩ (.slice A2 wL.length c2)) (b + 1) b db p.val (.slice A2 wL.length c2) (.slice none 0 0) (wordI seed me) lps ⟨[0, 0, 0, 0, 0, 0, 0, 0], wL, [], dice, 0, 0⟩) := HS2
  clear hrun y9 f9 hd6 hb6
  generalize w8.setCell ⟨b, 9, none⟩ (.slice A2 wL.length c2) = w9 at *
  have x0 := HX9.out.cell 0
  have x1 := HX9.out.cell 1
  have x2 := HX9.out.cell 2
  have x3 := HX9.out.cell 3
  have f1 := HS2.out.free 1
  have f2 := HS2.out.free 2
  have f3 := HS2.out.free 3
  have f4 := HS2.out.free 4
  have f5 := HS2.out.free 5
  have f6 := HS2.out.free 6
  have f7 := HS2.out.free 7
  have f8 := HS2.out.free 8
  have g1 := HS2.out.blk.cell 1
  have g2 := HS2.out.blk.cell 2
  have g3 := HS2.out.blk.cell 3
  have g4 := HS2.out.blk.cell 4
  have g5 := HS2.out.blk.cell 5
  have g6 := HS2.out.blk.cell 6
  have g7 := HS2.out.blk.cell 7
  have g8 := HS2.out.blk.cell 8
  simp only [runCells, List.map_cons, List.map_nil, List.cons_append, List.nil_append, List.getElem?_toArray, List.getElem?_cons_zero, List.getElem?_cons_succ] at x0 x1 x2 x3 g1 g2 g3 g4 g5 g6 g7 g8
  go_wp2_with fail
  have h1 := HS2.out.put rfl (i := 0) (by decide) pay
  have h2 := h1.put rfl (i := 1) (by decide) me
  have h3 := h2.put rfl (i := 2) (by decide) lps
  have h4 := h3.put rfl (i := 3) (by decide) wL.length
  have h5 := h4.put rfl (i := 4) (by decide) 0
  have h6 := h5.put rfl (i := 5) (by decide) 0
  have h7 := h6.put rfl (i := 6) (by decide) 0
  have h8 := h7.put rfl (i := 7) (by decide) 0
  have HZ := hide h8
  clear h1 h2 h3 h4 h5 h6 h7 h8 f1 f2 f3 f4 f5 f6 f7 f8 g1 g2 g3 g4 g5 g6 g7 g8 x0 x1 x2 x3
  go_ret
  exact ⟨b + 1, b, db, _, rfl, HZ.out⟩
/-! May it be run? -/
def MayRel (w : World) (r0 : Nat) (cs : Array Value) (len : Nat) (f : Nat → Bool) (i : Value) (wr : World) : Prop :=
  ∃ k : Nat, k ≤ len ∧ i = .int .i64 k ∧ (∀ j, j < k → f j = true) ∧ Blk wr r0 112 cs ∧ Below w.heap.size w wr
theorem all_take {p : List Ins4} {P : Ins4 → Bool} (h : ∀ j, j < p.length → P (p.getD j (0, 0, 0, 0)) = true) : p.all P = true := by
  rw [List.all_eq_true]
  intro x hx
  obtain ⟨i, hi, rfl⟩ := List.getElem_of_mem hx
  have := h i hi
  rwa [List.getD_eq_getElem?_getD, List.getElem?_eq_getElem hi] at this
theorem all_not {p : List Ins4} {P : Ins4 → Bool} {k : Nat} (hk : k < p.length) (h : P (p.getD k (0, 0, 0, 0)) = false) : p.all P = false := by
  rw [List.all_eq_false]
  exact ⟨_, getD_mem hk, by rw [h]; decide⟩
set_option maxHeartbeats 2000000 in
theorem may_any (w : World) (p : Sl Ins4) (i : Inp) (hp : p.At InsAt 4 w) (hi : i.At w) :
    Calls Try.prog 99 #[p.val, i.val] w fun e w' => e = .returned (.int .i64 (vmay p.L i.wd.L.length)) ∧ Below w.heap.size w w' := by
  obtain ⟨⟨wA, wc, wL⟩, pay, me, lps, seed, dice⟩ := i
  obtain ⟨pA, pc, pL⟩ := p
  have hX := Blk.new w 112 #[.slice wA wL.length wc, .int .i64 pay, .int .i64 me, .int .i64 lps, .int .i64 seed, .int .i64 dice]
  have hb : Below w.heap.size w (w.alloc (.cells #[.slice wA wL.length wc, .int .i64 pay, .int .i64 me, .int .i64 lps, .int .i64 seed, .int .i64 dice] 112)) := (Below.refl _ _).alloc (Nat.le_refl _) _
  have hpb := hp.2
  simp only at hpb
  have HB := hide hb
  unfold Inp.val Inp.cells Sl.val
  simp only
  by_cases h1 : pL.length < 1 ∨ 48 < pL.length
  · have e1 : vmay pL wL.length = 15 := if_pos h1
    rw [e1]
    clear e1 hX hb hp hi
    rcases h1 with h1 | h1
    · have e2 : pL.length = 0 := by omega
      clear h1
      rw [e2]
      go_enter Try.func99, Try.ntmps99
      go_wp2_with fail
      go_ret
      exact ⟨rfl, HB.out⟩
    · have d1 : ((pL.length : Int) == 0) = false := by rw [beq_eq_false_iff_ne]; omega
      have d2 : decide ((48 : Int) < (pL.length : Int)) = true := decide_eq_true (by omega)
      go_enter Try.func99, Try.ntmps99
      go_wp2_with fail
      go_ret
      exact ⟨rfl, HB.out⟩
  · have hl : 1 ≤ pL.length ∧ pL.length ≤ 48 := by omega
    have d1 : ((pL.length : Int) == 0) = false := by rw [beq_eq_false_iff_ne]; omega
    have d2 : decide ((48 : Int) < (pL.length : Int)) = false := decide_eq_false (by omega)
    have e1 : vmay pL wL.length = (if (pL.all fun x => insB x.1 x.2.1 x.2.2.1 x.2.2.2 pL.length) = true then (if 8 < wL.length then 2 else 0) else 15) := if_neg h1
    obtain ⟨V, hV⟩ : ∃ V, (if (pL.all fun x => insB x.1 x.2.1 x.2.2.1 x.2.2.2 pL.length) = true then (if 8 < wL.length then (2 : Int) else 0) else 15) = V := ⟨_, rfl⟩
    rw [e1, hV]
    have HV0 := hide hV
    clear e1 h1 hV
    have HI := hide hi
    have HP := hide hp
    have HX := hide hX
    clear hi hp hX hb
    go_enter Try.func99, Try.ntmps99
    go_upto_region 4 with fail
    generalize w.alloc _ = w1 at *
    have HL := hide hl
    clear d1 d2 hl
    go_loopw [17] (fun i wr => MayRel w w.heap.size #[.slice wA wL.length wc, .int .i64 pay, .int .i64 me, .int .i64 lps, .int .i64 seed, .int .i64 dice] pL.length (fun j => insB (pL.getD j (0, 0, 0, 0)).1 (pL.getD j (0, 0, 0, 0)).2.1 (pL.getD j (0, 0, 0, 0)).2.2.1 (pL.getD j (0, 0, 0, 0)).2.2.2 pL.length) i wr) (fun i _ => pL.length - (intOf i).toNat)
    case atStart => exact ⟨0, Nat.zero_le _, rfl, fun j hj => absurd hj (by omega), HX.out, HB.out⟩
    case round =>
      clear HX HB
      obtain ⟨k, hk, rfl, hall, hX, hb⟩ := hrel
      have HA := hide hall
      clear hall
      by_cases hlt : k < pL.length
      · obtain ⟨ad, hA, q0, q1, q2, q3, _⟩ := (HP.out.below InsAt.keeps hb).1 k (pL.getD k (0, 0, 0, 0)) (by
          show pL[k]? = _
          rw [List.getD_eq_getElem?_getD, List.getElem?_eq_getElem hlt]
          rfl)
        simp only at hA
        subst hA
        cases hins : insB (pL.getD k (0, 0, 0, 0)).1 (pL.getD k (0, 0, 0, 0)).2.1 (pL.getD k (0, 0, 0, 0)).2.2.1 (pL.getD k (0, 0, 0, 0)).2.2.2 pL.length
        · have HN := hide (show (if (pL.all fun x => insB x.1 x.2.1 x.2.2.1 x.2.2.2 pL.length) = true then (if 8 < wL.length then (2 : Int) else 0) else 15) = 15 from if_neg (by rw [all_not hlt hins]; decide))
          have IA := hide (fun w => ins_any (pL.getD k (0, 0, 0, 0)).1 (pL.getD k (0, 0, 0, 0)).2.1 (pL.getD k (0, 0, 0, 0)).2.2.1 (pL.getD k (0, 0, 0, 0)).2.2.2 pL.length w)
          rw [hins] at IA
          clear hins
          generalize pL.getD k (0, 0, 0, 0) = x at *
          obtain ⟨op, xa, xb, xc⟩ := x
          simp only at q0 q1 q2 q3 IA
          go_wp2_with fail
          have hb2 := hb.alloc hb.size (.cells #[.int .i64 op, .int .i64 xa, .int .i64 xb, .int .i64 xc] 142)
          refine (IA.out _).mono ?_
          rintro e w2 ⟨rfl, h2⟩
          have HB2 := hide (below_after hb2 h2)
          clear hb2 h2 q0 q1 q2 q3 hX hb
          go_wp2_with fail
          go_ret
          exact ⟨ret_int (HN.out.symm.trans HV0.out), HB2.out⟩
        · have HK := hide hins
          have IA := hide (fun w => ins_any (pL.getD k (0, 0, 0, 0)).1 (pL.getD k (0, 0, 0, 0)).2.1 (pL.getD k (0, 0, 0, 0)).2.2.1 (pL.getD k (0, 0, 0, 0)).2.2.2 pL.length w)
          rw [hins] at IA
          clear hins
          have HR := hide (show ∀ j, j < k + 1 → insB (pL.getD j (0, 0, 0, 0)).1 (pL.getD j (0, 0, 0, 0)).2.1 (pL.getD j (0, 0, 0, 0)).2.2.1 (pL.getD j (0, 0, 0, 0)).2.2.2 pL.length = true from fun j hj => by
            rcases Nat.lt_or_ge j k with h | h
            · exact HA.out j h
            · obtain rfl : j = k := by omega
              exact HK.out)
          clear HK HA
          generalize pL.getD k (0, 0, 0, 0) = x at q0 q1 q2 q3 IA
          obtain ⟨op, xa, xb, xc⟩ := x
          simp only at q0 q1 q2 q3 IA
          go_wp2_with fail
          have hb2 := hb.alloc hb.size (.cells #[.int .i64 op, .int .i64 xa, .int .i64 xb, .int .i64 xc] 142)
          have hX2 := hX.alloc (.cells #[.int .i64 op, .int .i64 xa, .int .i64 xb, .int .i64 xc] 142)
          refine (IA.out _).mono ?_
          rintro e w2 ⟨rfl, h2⟩
          have HB2 := hide (below_after hb2 h2)
          have HX2 := hide (hX2.below h2 hX2.lt)
          clear hb2 h2 q0 q1 q2 q3 hX hb hX2
          have kI : (k : Int) < 48 := by have := HL.out; omega
          go_wp2_with fail
          go_roundw
          case rel => exact ⟨k + 1, by omega, by go_num, HR.out, HX2.out, HB2.out⟩
          case measure => simp [intOf]; omega
      · obtain rfl : k = pL.length := by omega
        have HN := hide (show (if (pL.all fun x => insB x.1 x.2.1 x.2.2.1 x.2.2.2 pL.length) = true then (if 8 < wL.length then (2 : Int) else 0) else 15) = (if 8 < wL.length then (2 : Int) else 0) from if_pos (all_take (P := fun x => insB x.1 x.2.1 x.2.2.1 x.2.2.2 pL.length) HA.out))
        clear HA
        have x0 := hX.cell 0
        simp only [List.getElem?_toArray, List.getElem?_cons_zero] at x0
        have HBX := hide hb
        clear hb hX
        by_cases h8 : 8 < wL.length
        · have d8 : decide ((8 : Int) < (wL.length : Int)) = true := decide_eq_true (by omega)
          have HV := hide (HN.out.trans (if_pos h8))
          go_wp2_with fail
          go_ret
          exact ⟨ret_int (HV.out.symm.trans HV0.out), HBX.out⟩
        · have d8 : decide ((8 : Int) < (wL.length : Int)) = false := decide_eq_false (by omega)
          have HV := hide (HN.out.trans (if_neg h8))
          go_wp2_with fail
          go_ret
          exact ⟨ret_int (HV.out.symm.trans HV0.out), HBX.out⟩
end Go.Proofs.Ytpfcmfannkbipaa
