/- Texts of this claim in one. No condition. -/
import Derived.Test.YtpfcmfannkbipaaJ33
import Derived.Test.YtpfcmfannkbipaaJ27
import Derived.Deep.Cut
import Derived.Deep.DeepCutAuto
section
set_option linter.unusedVariables false
set_option linter.unusedSimpArgs false
set_option maxRecDepth 20000
namespace Go.Proofs.Ytpfcmfannkbipaa
open Go.RowKit Go.Deep

attribute [local go_sem] run_store_float
def badP (x : Dn) : Bool := x.2.2.2.2.2 != 0
def sumC (n : Int) (L : List Dn) (k : Nat) (fi la : Nat) (o : Bool) : Array Value := #[.int .i64 n, .int .i64 (cntI badP L k), .int .i64 (cntI (ofP 0) L k), .int .i64 (cntI (ofP 1) L k), .int .i64 (cntI (ofP 2) L k), .int .i64 (cntI (ofP 3) L k), .int .i64 (cntI (ofP 4) L k), .int .i64 (cntI (ofP 5) L k), .float .f64 fi, .float .f64 la, .bool o]
/-- The first one's time. -/
def firT (L : List Dn) : Nat := match L with
  | [] => 0
  | x :: _ => x.1
def lasT (L : List Dn) (k : Nat) : Nat := match L[k - 1]? with
  | some x => if k = 0 then 0 else x.1
  | none => 0
def sumR (L : List Dn) : Array Value := sumC L.length L L.length (firT L) (lasT L L.length) (ordUp L L.length)
/-- One bad one more, then one of a process more. -/
def sumB (n : Int) (L : List Dn) (k k' : Nat) (fi la : Nat) (o : Bool) : Array Value := #[.int .i64 n, .int .i64 (cntI badP L k'), .int .i64 (cntI (ofP 0) L k), .int .i64 (cntI (ofP 1) L k), .int .i64 (cntI (ofP 2) L k), .int .i64 (cntI (ofP 3) L k), .int .i64 (cntI (ofP 4) L k), .int .i64 (cntI (ofP 5) L k), .float .f64 fi, .float .f64 la, .bool o]
theorem sum_bad {n : Int} {L : List Dn} {k fi la : Nat} {o : Bool} {x : Dn} (hx : L[k]? = some x) (hf : ¬ x.2.2.2.2.2 = 0) : (sumC n L k fi la o).setIfInBounds 1 (.int .i64 (cntI badP L k + 1)) = sumB n L k (k + 1) fi la o := by
  unfold sumC sumB
  rw [cntI_succ (p := badP) hx, if_pos (by unfold badP; simpa using hf)]
  rfl
theorem sum_good {n : Int} {L : List Dn} {k fi la : Nat} {o : Bool} {x : Dn} (hx : L[k]? = some x) (hf : x.2.2.2.2.2 = 0) : sumC n L k fi la o = sumB n L k (k + 1) fi la o := by
  unfold sumC sumB
  rw [cntI_succ (p := badP) hx, if_neg (by unfold badP; simp [hf]), Int.add_zero]
theorem sum_in {n : Int} {L : List Dn} {k fi la d : Nat} {o : Bool} {x : Dn} (hd : d < 6) (hx : L[k]? = some x) (hf : x.2.2.2.1 = d) : (sumB n L k (k + 1) fi la o).setIfInBounds (2 + d) (.int .i64 (cntI (ofP d) L k + 1)) = sumC n L (k + 1) fi la o := by
  have h1 := fun e => cntI_succ (p := ofP e) hx
  have h2 : ∀ e : Int, (if ofP e x = true then (1 : Int) else 0) = if e = d then 1 else 0 := fun e => by unfold ofP; rw [hf]; simp only [decide_eq_true_eq]; congr 1; rw [eq_iff_iff]; exact eq_comm
  unfold sumC sumB
  simp only [h1, h2]
  rcases (by omega : d = 0 ∨ d = 1 ∨ d = 2 ∨ d = 3 ∨ d = 4 ∨ d = 5) with rfl | rfl | rfl | rfl | rfl | rfl <;> simp
theorem sum_out {n : Int} {L : List Dn} {k fi la : Nat} {o : Bool} {x : Dn} (hx : L[k]? = some x) (hf : x.2.2.2.1 < 0 ∨ 5 < x.2.2.2.1) : sumB n L k (k + 1) fi la o = sumC n L (k + 1) fi la o := by
  have h1 := fun e => cntI_succ (p := ofP e) hx
  have h2 : ∀ e : Int, 0 ≤ e → e ≤ 5 → (if ofP e x = true then (1 : Int) else 0) = 0 := fun e _ _ => by unfold ofP; rw [if_neg]; simp; omega
  unfold sumC sumB
  simp only [h1]
  rw [h2 0 (by decide) (by decide), h2 1 (by decide) (by decide), h2 2 (by decide) (by decide), h2 3 (by decide) (by decide), h2 4 (by decide) (by decide), h2 5 (by decide) (by decide)]
  simp only [Int.add_zero]
theorem sumB_get (n : Int) (L : List Dn) (k k' fi la : Nat) (o : Bool) {d : Nat} (hd : d < 6) : (sumB n L k k' fi la o)[2 + d]? = some (.int .i64 (cntI (ofP d) L k)) := by
  rcases (by omega : d = 0 ∨ d = 1 ∨ d = 2 ∨ d = 3 ∨ d = 4 ∨ d = 5) with rfl | rfl | rfl | rfl | rfl | rfl <;> rfl
theorem sum_ord {n : Int} {L : List Dn} {k fi la : Nat} {o o' : Bool} : (sumC n L k fi la o).setIfInBounds 10 (.bool o') = sumC n L k fi la o' := rfl
theorem sum_fi {n : Int} {L : List Dn} {k fi la fi' : Nat} {o : Bool} : (sumC n L k fi la o).setIfInBounds 8 (.float .f64 fi') = sumC n L k fi' la o := rfl
theorem sum_la {n : Int} {L : List Dn} {k fi la la' : Nat} {o : Bool} : (sumC n L k fi la o).setIfInBounds 9 (.float .f64 la') = sumC n L k fi la' o := rfl
/-- In a round of its own: what one event does to the counts. -/
theorem sum_round {wr : World} {g : Nat} {n : Int} {L : List Dn} {k fi la : Nat} {o : Bool} {x : Dn} (h : Blk wr g 29 (sumC n L k fi la o)) (hx : L[k]? = some x) :
    (x.2.2.2.2.2 = 0 → Blk wr g 29 (sumB n L k (k + 1) fi la o)) ∧ (¬ x.2.2.2.2.2 = 0 → Blk (wr.setCell ⟨g, 1, none⟩ (.int .i64 (cntI badP L k + 1))) g 29 (sumB n L k (k + 1) fi la o)) :=
  ⟨fun hf => sum_good hx hf ▸ h, fun hf => sum_bad hx hf ▸ h.set_ 1 _⟩
theorem below_set11 {w wr : World} (h : Below w.heap.size w wr) (v0 v1 v2 v3 v4 v5 v6 v7 v8 v9 v10 : Value) : Below w.heap.size w (((((((((((wr.setCell ⟨w.heap.size, 0, none⟩ v0).setCell ⟨w.heap.size, 1, none⟩ v1).setCell ⟨w.heap.size, 2, none⟩ v2).setCell ⟨w.heap.size, 3, none⟩ v3).setCell ⟨w.heap.size, 4, none⟩ v4).setCell ⟨w.heap.size, 5, none⟩ v5).setCell ⟨w.heap.size, 6, none⟩ v6).setCell ⟨w.heap.size, 7, none⟩ v7).setCell ⟨w.heap.size, 8, none⟩ v8).setCell ⟨w.heap.size, 9, none⟩ v9).setCell ⟨w.heap.size, 10, none⟩ v10) :=
  (((((((((((h.setCell (Nat.le_refl _) _).setCell (Nat.le_refl _) _).setCell (Nat.le_refl _) _).setCell (Nat.le_refl _) _).setCell (Nat.le_refl _) _).setCell (Nat.le_refl _) _).setCell (Nat.le_refl _) _).setCell (Nat.le_refl _) _).setCell (Nat.le_refl _) _).setCell (Nat.le_refl _) _).setCell (Nat.le_refl _) _)
theorem firT_at {L : List Dn} {x : Dn} (h : L[0]? = some x) : firT L = x.1 := by
  cases L with
  | nil => simp at h
  | cons y r => simp at h; subst h; rfl
theorem lasT_at {L : List Dn} {j : Nat} {x : Dn} (hj : L.length = j + 1) (h : L[j]? = some x) : lasT L L.length = x.1 := by
  unfold lasT
  rw [hj, Nat.add_sub_cancel, h]
  simp
def SumTo (w : World) (L : List Dn) (e : Ending) (w' : World) : Prop := e = .returned (.agg (sumR L)) ∧ Below w.heap.size w w'
def Sm34 (w : World) (C : Array Value) (wr : World) : Prop := Blk wr (w.heap.size + 1) 29 C ∧ Blk wr w.heap.size 29 (sumC 0 [] 0 0 0 false) ∧ Below w.heap.size w wr
def SmRel (w : World) (L : List Dn) (i : Value) (wr : World) : Prop := ∃ k : Nat, k ≤ L.length ∧ i = .int .i64 k ∧ Sm34 w (sumC L.length L k 0 0 (ordUp L k)) wr
section
variable {w wr wr' : World} {C : Array Value}
theorem Sm34.below (h : Sm34 w C wr) (hb : Below wr.heap.size wr wr') : Sm34 w C wr' := ⟨h.1.below hb h.1.lt, h.2.1.below hb h.2.1.lt, below_after h.2.2 hb⟩
theorem Sm34.set (h : Sm34 w C wr) (d : Nat) (u : Value) : Sm34 w (C.setIfInBounds d u) (wr.setCell ⟨w.heap.size + 1, d, none⟩ u) :=
  ⟨h.1.set_ d u, h.2.1.far (p := ⟨w.heap.size + 1, d, none⟩) (by simp only; omega) u, h.2.2.setCell (by simp only; omega) u⟩
end
def Sx34 (w : World) (gb : Nat) (C : Array Value) (x : Dn) (wx : World) : Prop := Sm34 w C wx ∧ Blk wx gb 39 #[.float .f64 x.1, .int .i64 x.2.1, .int .i64 x.2.2.1, .int .i64 x.2.2.2.1, .int .i64 x.2.2.2.2.1, .int .i64 x.2.2.2.2.2] ∧ w.heap.size + 1 < gb
section
variable {w wx : World} {gb : Nat} {C : Array Value} {x : Dn}
theorem Sx34.set (h : Sx34 w gb C x wx) (d : Nat) (u : Value) : Sx34 w gb (C.setIfInBounds d u) x (wx.setCell ⟨w.heap.size + 1, d, none⟩ u) :=
  ⟨h.1.set d u, h.2.1.far (p := ⟨w.heap.size + 1, d, none⟩) (by have := h.2.2; simp only; omega) u, h.2.2⟩
theorem Sx34.below {wy : World} (h : Sx34 w gb C x wx) (hb : Below wx.heap.size wx wy) : Sx34 w gb C x wy := ⟨h.1.below hb, h.2.1.below hb h.2.1.lt, h.2.2⟩
theorem Sx34.bad {n : Int} {L : List Dn} {k fi la : Nat} {o : Bool} (h : Sx34 w gb (sumC n L k fi la o) x wx) (hx : L[k]? = some x) : (x.2.2.2.2.2 = 0 → Sx34 w gb (sumB n L k (k + 1) fi la o) x wx) ∧ (¬ x.2.2.2.2.2 = 0 → Sx34 w gb (sumB n L k (k + 1) fi la o) x (wx.setCell ⟨w.heap.size + 1, 1, none⟩ (.int .i64 (cntI badP L k + 1)))) :=
  ⟨fun hf => sum_good hx hf ▸ h, fun hf => sum_bad hx hf ▸ h.set 1 _⟩
theorem Sx34.proc {n : Int} {L : List Dn} {k fi la : Nat} {o : Bool} (h : Sx34 w gb (sumB n L k (k + 1) fi la o) x wx) (hx : L[k]? = some x) : ((x.2.2.2.1 < 0 ∨ 5 < x.2.2.2.1) → Sx34 w gb (sumC n L (k + 1) fi la o) x wx) ∧ (∀ d : Nat, d < 6 → x.2.2.2.1 = d → Sx34 w gb (sumC n L (k + 1) fi la o) x (wx.setCell ⟨w.heap.size + 1, 2 + d, none⟩ (.int .i64 (cntI (ofP d) L k + 1)))) :=
  ⟨fun hf => sum_out hx hf ▸ h, fun d hd hf => sum_in hd hx hf ▸ h.set (2 + d) _⟩
theorem Sx34.ord {n : Int} {L : List Dn} {k fi la : Nat} {o : Bool} (h : Sx34 w gb (sumC n L k fi la o) x wx) (o' : Bool) : Sx34 w gb (sumC n L k fi la o') x (wx.setCell ⟨w.heap.size + 1, 10, none⟩ (.bool o')) := h.set 10 _
end
/-- Is it still ordered? -/
theorem sum_ordered {L : List Dn} {k : Nat} {x : Dn} (hx : L[k]? = some x) : (k = 0 → ordUp L (k + 1) = ordUp L k) ∧ (∀ y, 0 < k → L[k - 1]? = some y → (cD y x ≤ 0 → ordUp L (k + 1) = ordUp L k) ∧ (¬ cD y x ≤ 0 → ordUp L (k + 1) = false)) := by
  rw [ordUp_succ]
  refine ⟨fun h => by simp [h], fun y h hy => ?_⟩
  have h1 : ordAt L k = decide (cD y x ≤ 0) := by unfold ordAt; rw [hy, hx]
  rw [h1, decide_eq_false (by omega : ¬ k = 0)]
  exact ⟨fun h2 => by simp [h2], fun h2 => by simp [h2]⟩
theorem acmp_dn (x y : Dn) (w : World) : Calls Try.prog 54 #[.agg #[.float .f64 x.1, .int .i64 x.2.1, .int .i64 x.2.2.1, .int .i64 x.2.2.2.1, .int .i64 x.2.2.2.2.1], .agg #[.float .f64 y.1, .int .i64 y.2.1, .int .i64 y.2.2.1, .int .i64 y.2.2.2.1, .int .i64 y.2.2.2.2.1]] w fun e w' => e = .returned (.int .i64 (cD x y)) ∧ Below w.heap.size w w' := actcmp_any _ _ _ _ _ _ _ _ _ _ w
theorem rcmp_dn (x y : Dn) (w : World) : Calls Try.prog 32 #[.agg #[.float .f64 x.1, .int .i64 x.2.1, .int .i64 x.2.2.1, .int .i64 x.2.2.2.1, .int .i64 x.2.2.2.2.1], .agg #[.float .f64 y.1, .int .i64 y.2.1, .int .i64 y.2.2.1, .int .i64 y.2.2.2.1, .int .i64 y.2.2.2.2.1]] w fun e w' => e = .returned (.int .i64 (cD x y)) ∧ Below w.heap.size w w' := cmp08_any _ _ _ _ _ _ _ _ _ _ w
set_option maxHeartbeats 4000000 in
theorem sum34_any (s : Sl Dn) (w : World) (hs : s.At DnB 6 w) (hl : s.L.length ≤ 1000000) : Calls Try.prog 23 #[s.val] w (SumTo w s.L) := by
  obtain ⟨A, c, L⟩ := s
  obtain ⟨hr, hn, hc⟩ := hs
  simp only [Sl.val] at *
  have hl2 : L.length ≤ 9223372036854775807 := by omega
  obtain ⟨hb0, hR, hX⟩ := box2 w (sumC 0 [] 0 0 0 false) (sumC L.length L 0 0 0 true) 29 29
  have HP := hide (fun W (h : Below w.heap.size w W) => (show SumTo w L (.returned (.agg (sumR L))) W from ⟨rfl, h⟩))
  generalize SumTo w L = Post at *
  have HX := hide (show Sm34 w _ _ from ⟨hX, hR, hb0⟩)
  clear hX hR hb0
  go_enter Try.func23, Try.ntmps23
  go_upto_region 2 with fail
  change Code.wp _ _ _ _ (World.alloc (World.alloc w (.cells (sumC 0 [] 0 0 0 false) 29)) (.cells (sumC L.length L 0 0 0 true) 29))
  generalize (World.alloc (World.alloc w _) _) = w0 at *
  go_wp2_with fail
  go_loopw [11] (fun i wr => SmRel w L i wr) (fun i _ => L.length - (intOf i).toNat)
  case atStart => exact ⟨0, Nat.zero_le _, rfl, HX.out⟩
  case round =>
    clear HX
    obtain ⟨k, hk, rfl, hS⟩ := hrel
    by_cases hlt : k < L.length
    · have hx := List.getElem?_eq_getElem hlt
      obtain ⟨a, hA, g0, g1, g2, g3, g4, g5⟩ := (hr.below DnB.keeps hS.2.2) k _ hx
      have hA2 : A = some a := hA
      clear hA
      subst hA2
      have kI : (k : Int) < (L.length : Int) := by omega
      have kJ : (0 : Int) ≤ (k : Int) := by omega
      have hbx := Blk.new wr 39 #[.float .f64 L[k].1, .int .i64 L[k].2.1, .int .i64 L[k].2.2.1, .int .i64 L[k].2.2.2.1, .int .i64 L[k].2.2.2.2.1, .int .i64 L[k].2.2.2.2.2]
      have ha := (Below.refl wr.heap.size wr).alloc (Nat.le_refl _) (.cells #[.float .f64 L[k].1, .int .i64 L[k].2.1, .int .i64 L[k].2.2.1, .int .i64 L[k].2.2.2.1, .int .i64 L[k].2.2.2.2.1, .int .i64 L[k].2.2.2.2.2] 39)
      have hbn : w.heap.size + 1 < wr.heap.size := hS.1.lt
      have HS1 := hide (show Sx34 w wr.heap.size _ L[k] (wr.alloc _) from ⟨hS.below ha, hbx, hbn⟩)
      clear hS ha hbx
      have HBD := hide (fun wx (h : Sx34 w wr.heap.size (sumC L.length L k 0 0 (ordUp L k)) L[k] wx) => h.bad hx)
      have HIN := hide (fun wx (h : Sx34 w wr.heap.size (sumB L.length L k (k + 1) 0 0 (ordUp L k)) L[k] wx) => h.proc hx)
      have HOR := hide (sum_ordered hx)
      have HK := hide hx
      generalize L[k] = x at *
      clear hx
      generalize ordUp L k = o at *
      have b1 := cntI_rng badP L k
      obtain ⟨xt, xs, xn, xd, xp, xf⟩ := x
      simp only at *
      go_upto_region 5 with fail
      generalize wr.heap.size = gb at *
      generalize World.alloc wr _ = w1 at *
      have hA := HS1.out
      have v0 := hA.1.1.cell 0
      have v1 := hA.1.1.cell 1
      have q5 := hA.2.1.cell 5
      have fz := hA.1.1.frozen 1
      unfold sumC at v0 v1
      simp only [List.getElem?_toArray, List.getElem?_cons_zero, List.getElem?_cons_succ] at v0 v1 q5
      clear hA
      go_upto_if 18 with fail
      go_cut [] (fun wx => Sx34 w gb (sumB L.length L k (k + 1) 0 0 o) (xt, xs, xn, xd, xp, xf) wx)
      case first =>
        have HX := hide (HBD.out w1 HS1.out)
        generalize cntI badP L k = C at *
        by_cases hf : xf = 0
        · have hq : (xf != 0) = false := by simp [hf]
          go_wp2_with fail
          go_meet
          exact HX.out.1 hf
        · have hq : (xf != 0) = true := by simp [hf]
          go_wp2_with fail
          go_meet
          exact HX.out.2 hf
      case rest =>
        have HS2 := hide (HIN.out wc hcut)
        have q3 := hcut.2.1.cell 3
        have hfz := fun d => hcut.1.1.frozen d
        have hcd := fun (d : Nat) (hd : d < 6) => (hcut.1.1.cell (2 + d)).trans (sumB_get _ _ _ _ _ _ _ hd)
        simp only [List.getElem?_toArray, List.getElem?_cons_zero, List.getElem?_cons_succ] at q3
        clear v0 v1 q5 fz HS1 HBD hcut g0 g1 g2 g3 g4 g5 HIN b1
        rcases (by omega : (0 ≤ xd ∧ xd ≤ 5) ∨ xd < 0 ∨ 5 < xd) with hf | hf | hf
        case' inl =>
          obtain ⟨d, hd, rfl⟩ : ∃ d : Nat, d < 6 ∧ xd = d := ⟨xd.toNat, by omega, by omega⟩
          have cd := hcd d hd
          have fd := hfz (2 + d)
          have b2 := cntI_rng (ofP d) L k
          have HS3 := hide (HS2.out.2 d hd rfl)
          have d0 : (0 : Int) ≤ (d : Int) := by omega
          have d6 : (d : Int) < 6 := by omega
          generalize cntI (ofP d) L k = C at *
          clear hcd hfz HS2 hf
          go_upto_region 9 with fail
          generalize wc.setCell _ _ = w2 at *
          generalize (d : Int) = xd at *
          clear cd fd b2 d0 d6 q3
        case' inr.inl =>
          have HS3 := hide (HS2.out.1 (.inl hf))
          have hno : ¬ 0 ≤ xd := by omega
          clear hcd hfz HS2 hf
          go_upto_region 9 with fail
          generalize wc = w2 at *
          clear q3 hno
        case' inr.inr =>
          have HS3 := hide (HS2.out.1 (.inr hf))
          have hno : 0 ≤ xd := by omega
          have hno2 : ¬ xd < 6 := by omega
          clear hcd hfz HS2 hf
          go_upto_region 9 with fail
          generalize wc = w2 at *
          clear q3 hno hno2
        all_goals
          have hA := HS3.out
          by_cases h0 : k = 0
          · subst h0
            have HF := hide (HOR.out.1 rfl)
            clear HOR HK hr hA
            go_quiet (fail)
            replace HS3 := hide (show Sx34 w gb _ _ (w2.drewN nq) from HS3.out.below (below_drewN (Below.refl _ _) nq))
            go_wp2_with fail
            go_roundw
            case rel => exact ⟨0 + 1, by omega, by go_num, by rw [HF.out]; exact HS3.out.1⟩
            case measure => simp [intOf]; omega
          · obtain ⟨j, rfl⟩ : ∃ j, k = j + 1 := ⟨k - 1, by omega⟩
            have hy := List.getElem?_eq_getElem (show j < L.length by omega)
            obtain ⟨a', hA', g0, g1, g2, g3, g4, g5⟩ := (hr.below DnB.keeps hA.1.2.2) j _ hy
            obtain rfl : a = a' := Option.some.inj hA'
            have HF := hide (HOR.out.2 _ (by omega) hy)
            generalize L[j] = y at *
            have hcm := fun W => acmp_dn y (xt, xs, xn, xd, xp, xf) W
            generalize cD y (xt, xs, xn, xd, xp, xf) = C at *
            obtain ⟨yt, ys, yn, yd, yp, yf⟩ := y
            simp only at g0 g1 g2 g3 g4 g5 hcm
            have dj : decide ((0 : Int) < (((j + 1 : Nat)) : Int)) = true := decide_eq_true (by omega)
            have jI : (j : Int) < (L.length : Int) := by omega
            have jJ : (0 : Int) ≤ (j : Int) := by omega
            have eJ : (((j + 1 : Nat)) : Int) - 1 = (j : Int) := by omega
            have q0 := hA.2.1.cell 0
            have q1 := hA.2.1.cell 1
            have q2 := hA.2.1.cell 2
            have q3 := hA.2.1.cell 3
            have q4 := hA.2.1.cell 4
            simp only [List.getElem?_toArray, List.getElem?_cons_zero, List.getElem?_cons_succ] at q0 q1 q2 q3 q4
            obtain ⟨p, hO, h0, hne, hI⟩ := bel_hidden w2 w2.drew (Below.refl _ _).drew
            have k0 := fun i : Wo p => keepc (hI i) g0
            have k1 := fun i : Wo p => keepc (hI i) g1
            have k2 := fun i : Wo p => keepc (hI i) g2
            have k3 := fun i : Wo p => keepc (hI i) g3
            have k4 := fun i : Wo p => keepc (hI i) g4
            have j0 := fun i : Wo p => keepc (hI i) q0
            have j1 := fun i : Wo p => keepc (hI i) q1
            have j2 := fun i : Wo p => keepc (hI i) q2
            have j3 := fun i : Wo p => keepc (hI i) q3
            have j4 := fun i : Wo p => keepc (hI i) q4
            have HBI := hide (fun i : Wo p => HS3.out.below (hI i))
            have HP := hide hO
            have H0 := hide h0
            clear hI hO h0 hA hy g0 g1 g2 g3 g4 g5 q0 q1 q2 q3 q4 hr HOR HK HS3
            refine wp_region_quietC (by kernel_rfl) (by kernel_rfl) H0.out ?_
            repeat (go_big_quiet_step (first
              | (go_at_call 54; with_reducible exact Calls.quietC HP.out (hcm _))))
            refine wpQuiet_nil ?_
            intro _ hw'
            obtain ⟨i, rfl⟩ := hw'
            have hi := hide (HBI.out i)
            generalize i.W = W1 at *
            clear k0 k1 k2 k3 k4 j0 j1 j2 j3 j4 HBI HP H0 hne i hcm
            by_cases hC : C ≤ 0
            · have HG := hide (HF.out.1 hC)
              have hC2 : ¬ 0 < C := by omega
              go_wp2_with fail
              go_roundw
              case rel => exact ⟨j + 1 + 1, by omega, by go_num, by rw [HG.out]; exact hi.out.1⟩
              case measure => simp [intOf]; omega
            · have HG := hide (HF.out.2 hC)
              have hC2 : 0 < C := by omega
              have f10 := hi.out.1.1.frozen 10
              have c10 := hi.out.1.1.cell 10
              unfold sumC at c10
              simp only [List.getElem?_toArray, List.getElem?_cons_zero, List.getElem?_cons_succ] at c10
              have hj := hide (hi.out.ord false)
              clear hC
              go_wp2_with fail
              go_roundw
              case rel => exact ⟨j + 1 + 1, by omega, by go_num, by rw [HG.out]; exact hj.out.1⟩
              case measure => simp [intOf]; omega
    · obtain rfl : k = L.length := by omega
      have hx := hS.1
      have hR := hS.2.1
      have HB := hide hS.2.2
      have hge := hS.2.2.size
      have hHB : w.heap.size < wr.heap.size := hS.2.1.lt
      have f0 := hR.frozen 0
      have f1 := hR.frozen 1
      have f2 := hR.frozen 2
      have f3 := hR.frozen 3
      have f4 := hR.frozen 4
      have f5 := hR.frozen 5
      have f6 := hR.frozen 6
      have f7 := hR.frozen 7
      have f8 := hR.frozen 8
      have f9 := hR.frozen 9
      have f10 := hR.frozen 10
      have y8 := hx.frozen 8
      have y9 := hx.frozen 9
      unfold sumC at hx hR
      have x0 := hx.cell 0
      have x1 := hx.cell 1
      have x2 := hx.cell 2
      have x3 := hx.cell 3
      have x4 := hx.cell 4
      have x5 := hx.cell 5
      have x6 := hx.cell 6
      have x7 := hx.cell 7
      have x8 := hx.cell 8
      have x9 := hx.cell 9
      have x10 := hx.cell 10
      simp only [List.getElem?_toArray, List.getElem?_cons_zero, List.getElem?_cons_succ] at x0 x1 x2 x3 x4 x5 x6 x7 x8 x9 x10
      have r0 := hR.cell 0
      have r1 := hR.cell 1
      have r2 := hR.cell 2
      have r3 := hR.cell 3
      have r4 := hR.cell 4
      have r5 := hR.cell 5
      have r6 := hR.cell 6
      have r7 := hR.cell 7
      have r8 := hR.cell 8
      have r9 := hR.cell 9
      have r10 := hR.cell 10
      simp only [List.getElem?_toArray, List.getElem?_cons_zero, List.getElem?_cons_succ] at r0 r1 r2 r3 r4 r5 r6 r7 r8 r9 r10
      clear hR hx
      simp only [cntI_zero] at r1 r2 r3 r4 r5 r6 r7
      by_cases h0 : L.length = 0
      · have HAG := hide (show sumR L = sumC L.length L L.length 0 0 (ordUp L L.length) by
          unfold sumR
          rw [List.length_eq_zero_iff.1 h0]
          rfl)
        have n0 : ¬ 0 < L.length := by omega
        generalize ordUp L L.length = o at *
        clear hS hr h0
        go_wp2_with fail
        refine bodyPost_ret (v := .agg #[.int .i64 L.length, .int .i64 (cntI badP L L.length), .int .i64 (cntI (ofP 0) L L.length), .int .i64 (cntI (ofP 1) L L.length), .int .i64 (cntI (ofP 2) L L.length), .int .i64 (cntI (ofP 3) L L.length), .int .i64 (cntI (ofP 4) L L.length), .int .i64 (cntI (ofP 5) L L.length), .float .f64 0, .float .f64 0, .bool o]) (by simp [results, Try.results23, go_sem, r0, r1, r2, r3, r4, r5, r6, r7, r8, r9, r10]) rfl ?_
        rw [show (.agg #[.int .i64 L.length, .int .i64 (cntI badP L L.length), .int .i64 (cntI (ofP 0) L L.length), .int .i64 (cntI (ofP 1) L L.length), .int .i64 (cntI (ofP 2) L L.length), .int .i64 (cntI (ofP 3) L L.length), .int .i64 (cntI (ofP 4) L L.length), .int .i64 (cntI (ofP 5) L L.length), .float .f64 0, .float .f64 0, .bool o] : Value) = .agg (sumR L) by rw [HAG.out]; rfl]
        exact HP.out _ (below_set11 HB.out _ _ _ _ _ _ _ _ _ _ _)
      · obtain ⟨j, hj⟩ : ∃ j, L.length = j + 1 := ⟨L.length - 1, by omega⟩
        have hx0 := List.getElem?_eq_getElem (show 0 < L.length by omega)
        have hxj := List.getElem?_eq_getElem (show j < L.length by omega)
        obtain ⟨a, hA, g0, gr0⟩ := (hr.below DnB.keeps HB.out) 0 _ hx0
        obtain ⟨a', hA', gj, grj⟩ := (hr.below DnB.keeps HB.out) j _ hxj
        rw [Nat.zero_mul, show a.add 0 = a from if_pos rfl] at g0
        clear gr0 grj
        obtain rfl : a = a' := Option.some.inj (hA.symm.trans hA')
        have hA2 : A = some a := hA
        subst hA2
        have HAG := hide (show sumR L = sumC L.length L L.length L[0].1 L[j].1 (ordUp L L.length) by
          unfold sumR
          rw [firT_at hx0, lasT_at hj hxj])
        obtain ⟨aw, hAw, gw, gwr⟩ := hr j _ hxj
        obtain rfl : a = aw := Option.some.inj hAw
        have gs := fun u => keepc (HB.out.setCell (p := ⟨w.heap.size + 1, 8, none⟩) (by simp only; omega) u) gw
        have gsd := fun u => keepc (HB.out.drew.setCell (p := ⟨w.heap.size + 1, 8, none⟩) (by simp only; omega) u) gw
        clear gw gwr hAw
        have HW2 := hide ((hS.set 8 (.float .f64 L[0].1)).set 9 (.float .f64 L[j].1) |>.below (Below.refl _ _).drew)
        rw [sum_fi, sum_la] at HW2
        generalize L[0].1 = t0 at *
        generalize L[j].1 = tj at *
        have n0 : 0 < L.length := by omega
        have n1 : (0 : Int) < (L.length : Int) := by omega
        have eJ : (L.length : Int) - 1 = (j : Int) := by omega
        have jJ : (0 : Int) ≤ (j : Int) := by omega
        have jI : (j : Int) < (L.length : Int) := by omega
        have wJ : IntKind.i64.wrap (j : Int) = (j : Int) := IntWalk.i64_in _ (by omega)
        generalize ordUp L L.length = o at *
        clear hS hr hx0 hxj hA hA' hj
        go_upto_region 13 with fail
        go_region
        go_upto_region 14 with fail
        generalize World.drew (World.setCell (World.setCell _ _ _) _ _) = W2 at *
        have hx := HW2.out.1
        have hR := HW2.out.2.1
        have HB2 := hide HW2.out.2.2
        unfold sumC at hx hR
        clear x0 x1 x2 x3 x4 x5 x6 x7 x8 x9 x10 r0 r1 r2 r3 r4 r5 r6 r7 r8 r9 r10 f0 f1 f2 f3 f4 f5 f6 f7 f8 f9 f10 y8 y9 g0 gj gs gsd
        have x0 := hx.cell 0
        have x1 := hx.cell 1
        have x2 := hx.cell 2
        have x3 := hx.cell 3
        have x4 := hx.cell 4
        have x5 := hx.cell 5
        have x6 := hx.cell 6
        have x7 := hx.cell 7
        have x8 := hx.cell 8
        have x9 := hx.cell 9
        have x10 := hx.cell 10
        simp only [List.getElem?_toArray, List.getElem?_cons_zero, List.getElem?_cons_succ] at x0 x1 x2 x3 x4 x5 x6 x7 x8 x9 x10
        have r0 := hR.cell 0
        have r1 := hR.cell 1
        have r2 := hR.cell 2
        have r3 := hR.cell 3
        have r4 := hR.cell 4
        have r5 := hR.cell 5
        have r6 := hR.cell 6
        have r7 := hR.cell 7
        have r8 := hR.cell 8
        have r9 := hR.cell 9
        have r10 := hR.cell 10
        simp only [List.getElem?_toArray, List.getElem?_cons_zero, List.getElem?_cons_succ] at r0 r1 r2 r3 r4 r5 r6 r7 r8 r9 r10
        have f0 := hR.frozen 0
        have f1 := hR.frozen 1
        have f2 := hR.frozen 2
        have f3 := hR.frozen 3
        have f4 := hR.frozen 4
        have f5 := hR.frozen 5
        have f6 := hR.frozen 6
        have f7 := hR.frozen 7
        have f8 := hR.frozen 8
        have f9 := hR.frozen 9
        have f10 := hR.frozen 10
        clear hR hx
        simp only [cntI_zero] at r1 r2 r3 r4 r5 r6 r7
        go_wp2_with fail
        refine bodyPost_ret (v := .agg #[.int .i64 L.length, .int .i64 (cntI badP L L.length), .int .i64 (cntI (ofP 0) L L.length), .int .i64 (cntI (ofP 1) L L.length), .int .i64 (cntI (ofP 2) L L.length), .int .i64 (cntI (ofP 3) L L.length), .int .i64 (cntI (ofP 4) L L.length), .int .i64 (cntI (ofP 5) L L.length), .float .f64 t0, .float .f64 tj, .bool o]) (by simp [results, Try.results23, go_sem, r0, r1, r2, r3, r4, r5, r6, r7, r8, r9, r10]) rfl ?_
        rw [show (.agg #[.int .i64 L.length, .int .i64 (cntI badP L L.length), .int .i64 (cntI (ofP 0) L L.length), .int .i64 (cntI (ofP 1) L L.length), .int .i64 (cntI (ofP 2) L L.length), .int .i64 (cntI (ofP 3) L L.length), .int .i64 (cntI (ofP 4) L L.length), .int .i64 (cntI (ofP 5) L L.length), .float .f64 t0, .float .f64 tj, .bool o] : Value) = .agg (sumR L) by rw [HAG.out]; rfl]
        exact HP.out _ (below_set11 HB2.out _ _ _ _ _ _ _ _ _ _ _)
end Go.Proofs.Ytpfcmfannkbipaa
end
