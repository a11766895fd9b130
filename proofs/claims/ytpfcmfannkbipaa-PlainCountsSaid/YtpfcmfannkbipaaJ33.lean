/- Texts of this claim in one. No condition. -/
import Derived.Test.YtpfcmfannkbipaaJ32
section
set_option linter.unusedVariables false
set_option linter.unusedSimpArgs false
set_option maxRecDepth 20000
namespace Go.Proofs.Ytpfcmfannkbipaa
open Go.RowKit Go.Deep

attribute [local go_sem] run_store_float
def cntI (p : Dn → Bool) (L : List Dn) (k : Nat) : Int := (((L.take k).countP p : Nat) : Int)
theorem cntI_zero (p : Dn → Bool) (L : List Dn) : cntI p L 0 = 0 := rfl
theorem cntI_succ {p : Dn → Bool} {L : List Dn} {k : Nat} {x : Dn} (h : L[k]? = some x) : cntI p L (k + 1) = cntI p L k + (if p x = true then 1 else 0) := by
  obtain ⟨h1, rfl⟩ := List.getElem?_eq_some_iff.1 h
  unfold cntI
  rw [List.take_succ_eq_append_getElem h1, List.countP_append, List.countP_singleton]
  split <;> simp
theorem cntI_rng (p : Dn → Bool) (L : List Dn) (k : Nat) : 0 ≤ cntI p L k ∧ cntI p L k ≤ L.length := by
  unfold cntI
  have h1 := List.countP_le_length (p := p) (l := L.take k)
  rw [List.length_take] at h1
  omega
def fltP (d : Int) (x : Dn) : Bool := decide (x.2.2.2.2.2 = d)
def fltC (L : List Dn) (k : Nat) : Array Value := #[.int .i64 (cntI (fltP 0) L k), .int .i64 (cntI (fltP 1) L k), .int .i64 (cntI (fltP 2) L k), .int .i64 (cntI (fltP 3) L k), .int .i64 (cntI (fltP 4) L k), .int .i64 (cntI (fltP 5) L k), .int .i64 (cntI (fltP 6) L k), .int .i64 (cntI (fltP 7) L k)]
theorem flt_step {L : List Dn} {k d : Nat} {x : Dn} (hd : d < 8) (hx : L[k]? = some x) (hf : x.2.2.2.2.2 = d) : (fltC L k).setIfInBounds d (.int .i64 (cntI (fltP d) L k + 1)) = fltC L (k + 1) := by
  have h1 := fun e => cntI_succ (p := fltP e) hx
  have h2 : ∀ e : Int, (if fltP e x = true then (1 : Int) else 0) = if e = d then 1 else 0 := fun e => by unfold fltP; rw [hf]; simp only [decide_eq_true_eq]; congr 1; rw [eq_iff_iff]; exact eq_comm
  unfold fltC
  simp only [h1, h2]
  rcases (by omega : d = 0 ∨ d = 1 ∨ d = 2 ∨ d = 3 ∨ d = 4 ∨ d = 5 ∨ d = 6 ∨ d = 7) with rfl | rfl | rfl | rfl | rfl | rfl | rfl | rfl <;> simp
theorem flt_skip {L : List Dn} {k : Nat} {x : Dn} (hx : L[k]? = some x) (hf : x.2.2.2.2.2 < 0 ∨ 7 < x.2.2.2.2.2) : fltC L (k + 1) = fltC L k := by
  have h1 := fun e => cntI_succ (p := fltP e) hx
  have h2 : ∀ e : Int, 0 ≤ e → e ≤ 7 → (if fltP e x = true then (1 : Int) else 0) = 0 := fun e _ _ => by unfold fltP; rw [if_neg]; simp; omega
  unfold fltC
  simp only [h1]
  rw [h2 0 (by decide) (by decide), h2 1 (by decide) (by decide), h2 2 (by decide) (by decide), h2 3 (by decide) (by decide), h2 4 (by decide) (by decide), h2 5 (by decide) (by decide), h2 6 (by decide) (by decide), h2 7 (by decide) (by decide)]
  simp only [Int.add_zero]
theorem flt_get (L : List Dn) (k : Nat) {d : Nat} (hd : d < 8) : (fltC L k)[d]? = some (.int .i64 (cntI (fltP d) L k)) := by
  rcases (by omega : d = 0 ∨ d = 1 ∨ d = 2 ∨ d = 3 ∨ d = 4 ∨ d = 5 ∨ d = 6 ∨ d = 7) with rfl | rfl | rfl | rfl | rfl | rfl | rfl | rfl <;> rfl
theorem flt_zero (L : List Dn) : fltC L 0 = #[.int .i64 0, .int .i64 0, .int .i64 0, .int .i64 0, .int .i64 0, .int .i64 0, .int .i64 0, .int .i64 0] := rfl
/-- The reference counts way by way. -/
def rfV (L : List Dn) (k i d : Nat) : Int := if d < k then cntI (fltP d) L L.length else if d = k then cntI (fltP d) L i else 0
def rfC (L : List Dn) (k i : Nat) : Array Value := #[.int .i64 (rfV L k i 0), .int .i64 (rfV L k i 1), .int .i64 (rfV L k i 2), .int .i64 (rfV L k i 3), .int .i64 (rfV L k i 4), .int .i64 (rfV L k i 5), .int .i64 (rfV L k i 6), .int .i64 (rfV L k i 7)]
theorem rf_self (L : List Dn) (k i : Nat) : rfV L k i k = cntI (fltP k) L i := by unfold rfV; rw [if_neg (by omega), if_pos rfl]
theorem rf_step {L : List Dn} {k i : Nat} {x : Dn} (hd : k < 8) (hx : L[i]? = some x) (hf : x.2.2.2.2.2 = k) : (rfC L k i).setIfInBounds k (.int .i64 (cntI (fltP k) L i + 1)) = rfC L k (i + 1) := by
  have h1 : cntI (fltP k) L (i + 1) = cntI (fltP k) L i + 1 := by rw [cntI_succ hx, if_pos (by unfold fltP; exact decide_eq_true hf)]
  rw [← h1]
  unfold rfC rfV
  rcases (by omega : k = 0 ∨ k = 1 ∨ k = 2 ∨ k = 3 ∨ k = 4 ∨ k = 5 ∨ k = 6 ∨ k = 7) with rfl | rfl | rfl | rfl | rfl | rfl | rfl | rfl <;> simp
theorem rf_skip {L : List Dn} {k i : Nat} {x : Dn} (hx : L[i]? = some x) (hf : ¬ x.2.2.2.2.2 = k) : rfC L k (i + 1) = rfC L k i := by
  have h1 : cntI (fltP k) L (i + 1) = cntI (fltP k) L i := by rw [cntI_succ hx, if_neg (by unfold fltP; simpa using hf), Int.add_zero]
  have h2 : ∀ d, rfV L k (i + 1) d = rfV L k i d := fun d => by
    unfold rfV
    by_cases h : d < k
    · rw [if_pos h, if_pos h]
    · rw [if_neg h, if_neg h]
      by_cases e : d = k
      · subst e; rw [if_pos rfl, if_pos rfl, h1]
      · rw [if_neg e, if_neg e]
  unfold rfC
  simp only [h2]
theorem rf_next (L : List Dn) (k : Nat) : rfC L (k + 1) 0 = rfC L k L.length := by
  have h2 : ∀ d, rfV L (k + 1) 0 d = rfV L k L.length d := fun d => by
    unfold rfV
    by_cases h : d < k
    · rw [if_pos h, if_pos (by omega)]
    · rw [if_neg h]
      by_cases e : d = k
      · subst e; rw [if_pos rfl, if_pos (by omega)]
      · rw [if_neg e, if_neg (by omega)]
        split <;> rfl
  unfold rfC
  simp only [h2]
theorem rf_end (L : List Dn) (i : Nat) : rfC L 8 i = fltC L L.length := rfl
theorem rf_zero (L : List Dn) : rfC L 0 0 = #[.int .i64 0, .int .i64 0, .int .i64 0, .int .i64 0, .int .i64 0, .int .i64 0, .int .i64 0, .int .i64 0] := rfl
theorem below_set8 {w wr : World} (h : Below w.heap.size w wr) (a b c d e f g i : Value) : Below w.heap.size w ((((((((wr.setCell ⟨w.heap.size, 0, none⟩ a).setCell ⟨w.heap.size, 1, none⟩ b).setCell ⟨w.heap.size, 2, none⟩ c).setCell ⟨w.heap.size, 3, none⟩ d).setCell ⟨w.heap.size, 4, none⟩ e).setCell ⟨w.heap.size, 5, none⟩ f).setCell ⟨w.heap.size, 6, none⟩ g).setCell ⟨w.heap.size, 7, none⟩ i) :=
  (((((((h.setCell (Nat.le_refl _) _).setCell (Nat.le_refl _) _).setCell (Nat.le_refl _) _).setCell (Nat.le_refl _) _).setCell (Nat.le_refl _) _).setCell (Nat.le_refl _) _).setCell (Nat.le_refl _) _).setCell (Nat.le_refl _) _
def FltTo (w : World) (L : List Dn) (e : Ending) (w' : World) : Prop := e = .returned (.agg (fltC L L.length)) ∧ Below w.heap.size w w'
def FltRel (w : World) (g gr : Nat) (L : List Dn) (i : Value) (wr : World) : Prop := ∃ k : Nat, k ≤ L.length ∧ i = .int .i64 k ∧ Blk wr g 47 (fltC L k) ∧ Blk wr gr 47 (fltC L 0) ∧ Below w.heap.size w wr
set_option maxHeartbeats 4000000 in
theorem faults34_any (s : Sl Dn) (w : World) (hs : s.At DnB 6 w) (hl : s.L.length ≤ 1000000) : Calls Try.prog 33 #[s.val] w (FltTo w s.L) := by
  obtain ⟨A, c, L⟩ := s
  obtain ⟨hr, hn, hc⟩ := hs
  simp only [Sl.val] at *
  have hl2 : L.length ≤ 9223372036854775807 := by omega
  obtain ⟨hb0, hR, hX⟩ := box2 w (fltC L 0) (fltC L 0) 47 47
  have HP := hide (fun W (h : Below w.heap.size w W) => (show FltTo w L (.returned (.agg (fltC L L.length))) W from ⟨rfl, h⟩))
  generalize FltTo w L = Post at *
  have HX := hide hX
  have HR := hide hR
  have HB := hide hb0
  clear hX hR hb0
  go_enter Try.func33, Try.ntmps33
  go_upto_region 2 with fail
  change Code.wp _ _ _ _ (World.alloc (World.alloc w (.cells (fltC L 0) 47)) (.cells (fltC L 0) 47))
  generalize (World.alloc (World.alloc w _) _) = w0 at *
  go_wp2_with fail
  go_loopw [8] (fun i wr => FltRel w (w.heap.size + 1) w.heap.size L i wr) (fun i _ => L.length - (intOf i).toNat)
  case atStart => exact ⟨0, Nat.zero_le _, rfl, HX.out, HR.out, HB.out⟩
  case round =>
    clear HX HR HB
    obtain ⟨k, hk, rfl, hX, hR, hbr⟩ := hrel
    by_cases hlt : k < L.length
    · have hx := List.getElem?_eq_getElem hlt
      obtain ⟨a, hA, g0, g1, g2, g3, g4, g5⟩ := (hr.below DnB.keeps hbr) k _ hx
      have hA2 : A = some a := hA
      clear hA
      subst hA2
      have kI : (k : Int) < (L.length : Int) := by omega
      have kJ : (0 : Int) ≤ (k : Int) := by omega
      have HST := hide (fun (d : Nat) (hd : d < 8) hf => flt_step (d := d) hd hx hf)
      have HSK := hide (fun hf => flt_skip hx hf)
      generalize L[k] = x at *
      have ha := (Below.refl wr.heap.size wr).alloc (Nat.le_refl _) (.cells #[.float .f64 x.1, .int .i64 x.2.1, .int .i64 x.2.2.1, .int .i64 x.2.2.2.1, .int .i64 x.2.2.2.2.1, .int .i64 x.2.2.2.2.2] 39)
      have HBR := hide (below_after hbr ha)
      have hX1 := hX.below ha hX.lt
      have HX1 := hide hX1
      have HR1 := hide (hR.below ha hR.lt)
      have hge := hbr.size
      have hfr := fun d => hX1.frozen d
      by_cases hin : 0 ≤ x.2.2.2.2.2 ∧ x.2.2.2.2.2 ≤ 7
      · obtain ⟨d, hd, hf⟩ : ∃ d : Nat, d < 8 ∧ x.2.2.2.2.2 = d := ⟨x.2.2.2.2.2.toNat, by omega, by omega⟩
        have hcd := hX1.cell d
        have hrg := cntI_rng (fltP d) L k
        have HS := hide (HST.out d hd hf)
        obtain ⟨xt, xs, xn, xd, xp, xf⟩ := x
        simp only at *
        clear hx hr ha hbr hX hR HST HSK hin hX1
        rw [flt_get L k hd] at hcd
        subst hf
        generalize cntI (fltP d) L k = C at *
        have d0 : (0 : Int) ≤ (d : Int) := by omega
        have d7 : (d : Int) ≤ 7 := by omega
        have d8 : (d : Int) < 8 := by omega
        have hfd := hfr d
        clear hfr
        go_wp2_with fail
        go_roundw
        case rel =>
          refine ⟨k + 1, by omega, by go_num, ?_, HR1.out.far (p := ⟨w.heap.size + 1, _, none⟩) (by simp only; omega) _, HBR.out.setCell (by simp only; omega) _⟩
          rw [← HS.out]
          exact HX1.out.set_ _ _
        case measure => simp [intOf]; omega
      · have HS := hide (HSK.out (by omega))
        have hno : ¬ 0 ≤ x.2.2.2.2.2 ∨ ¬ x.2.2.2.2.2 ≤ 7 := by omega
        obtain ⟨xt, xs, xn, xd, xp, xf⟩ := x
        simp only at *
        clear hx hr ha hbr hX hR HST HSK hin hX1 hfr
        by_cases h0 : 0 ≤ xf
        · have h7 : ¬ xf ≤ 7 := by omega
          clear hno
          go_wp2_with fail
          go_roundw
          case rel => exact ⟨k + 1, by omega, by go_num, by rw [HS.out]; exact HX1.out, HR1.out, HBR.out⟩
          case measure => simp [intOf]; omega
        · clear hno
          go_wp2_with fail
          go_roundw
          case rel => exact ⟨k + 1, by omega, by go_num, by rw [HS.out]; exact HX1.out, HR1.out, HBR.out⟩
          case measure => simp [intOf]; omega
    · obtain rfl : k = L.length := by omega
      clear hr
      have hge := hbr.size
      have HPF := hide (show ∀ W, Below w.heap.size w W → Post (.returned (.agg (fltC L L.length))) W from HP.out)
      have HB := hide hbr
      unfold fltC at hX hR HPF
      simp only [cntI_zero] at hR
      have x0 := hX.cell 0
      have x1 := hX.cell 1
      have x2 := hX.cell 2
      have x3 := hX.cell 3
      have x4 := hX.cell 4
      have x5 := hX.cell 5
      have x6 := hX.cell 6
      have x7 := hX.cell 7
      simp only [List.getElem?_toArray, List.getElem?_cons_zero, List.getElem?_cons_succ] at x0 x1 x2 x3 x4 x5 x6 x7
      have r0 := hR.cell 0
      have r1 := hR.cell 1
      have r2 := hR.cell 2
      have r3 := hR.cell 3
      have r4 := hR.cell 4
      have r5 := hR.cell 5
      have r6 := hR.cell 6
      have r7 := hR.cell 7
      simp only [List.getElem?_toArray, List.getElem?_cons_zero, List.getElem?_cons_succ] at r0 r1 r2 r3 r4 r5 r6 r7
      have f0 := hR.frozen 0
      have f1 := hR.frozen 1
      have f2 := hR.frozen 2
      have f3 := hR.frozen 3
      have f4 := hR.frozen 4
      have f5 := hR.frozen 5
      have f6 := hR.frozen 6
      have f7 := hR.frozen 7
      clear hX hR hbr HP
      go_wp2_with fail
      refine bodyPost_ret (v := .agg #[.int .i64 (cntI (fltP 0) L L.length), .int .i64 (cntI (fltP 1) L L.length), .int .i64 (cntI (fltP 2) L L.length), .int .i64 (cntI (fltP 3) L L.length), .int .i64 (cntI (fltP 4) L L.length), .int .i64 (cntI (fltP 5) L L.length), .int .i64 (cntI (fltP 6) L L.length), .int .i64 (cntI (fltP 7) L L.length)]) (by simp [results, Try.results33, go_sem, r0, r1, r2, r3, r4, r5, r6, r7]) rfl (HPF.out _ ?_)
      exact below_set8 HB.out _ _ _ _ _ _ _ _
def RfRel (w : World) (L : List Dn) (k : Nat) (i : Value) (wr : World) : Prop := ∃ j : Nat, j ≤ L.length ∧ i = .int .i64 j ∧ Blk wr (w.heap.size + 1) 47 (rfC L k j) ∧ Blk wr w.heap.size 47 (fltC L 0) ∧ Below w.heap.size w wr
theorem rf_get (L : List Dn) (k i : Nat) {d : Nat} (hd : d < 8) : (rfC L k i)[d]? = some (.int .i64 (rfV L k i d)) := by
  rcases (by omega : d = 0 ∨ d = 1 ∨ d = 2 ∨ d = 3 ∨ d = 4 ∨ d = 5 ∨ d = 6 ∨ d = 7) with rfl | rfl | rfl | rfl | rfl | rfl | rfl | rfl <;> rfl
set_option maxHeartbeats 4000000 in
theorem rfaults34_any (s : Sl Dn) (w : World) (hs : s.At DnB 6 w) (hl : s.L.length ≤ 1000000) : Calls Try.prog 34 #[s.val] w (FltTo w s.L) := by
  obtain ⟨A, c, L⟩ := s
  obtain ⟨hr, hn, hc⟩ := hs
  simp only [Sl.val] at *
  have hl2 : L.length ≤ 9223372036854775807 := by omega
  obtain ⟨hb0, hR, hX⟩ := box2 w (fltC L 0) (fltC L 0) 47 47
  have HP := hide (fun W (h : Below w.heap.size w W) => (show FltTo w L (.returned (.agg (fltC L L.length))) W from ⟨rfl, h⟩))
  generalize FltTo w L = Post at *
  have HX := hide hX
  have HR := hide hR
  have HB := hide hb0
  clear hX hR hb0
  go_enter Try.func34, Try.ntmps34
  go_upto_region 2 with fail
  change Code.wp _ _ _ _ (World.alloc (World.alloc w (.cells (fltC L 0) 47)) (.cells (fltC L 0) 47))
  generalize (World.alloc (World.alloc w _) _) = w0 at *
  go_wp2_with fail
  go_loopw [4] (fun i wr => ∃ k : Nat, k ≤ 8 ∧ i = .int .i64 k ∧ RfRel w L k (.int .i64 0) wr) (fun i _ => 8 - (intOf i).toNat)
  case atStart => exact ⟨0, by omega, rfl, 0, Nat.zero_le _, rfl, HX.out, HR.out, HB.out⟩
  case round =>
    clear HX HR HB
    obtain ⟨k, hk, rfl, j0, hj0, e0, hX, hR, hbr⟩ := hrel
    obtain rfl : j0 = 0 := by injection e0 with _ e; omega
    by_cases hlt : k < 8
    · have d0 : (0 : Int) ≤ (k : Int) := by omega
      have d8 : (k : Int) < 8 := by omega
      have d7 : (k : Int) ≤ 7 := by omega
      have HS := hide (show RfRel w L k (.int .i64 0) wr from ⟨0, hj0, e0, hX, hR, hbr⟩)
      clear hX hR hbr e0
      go_wp2_with fail
      go_loopw [5] (fun i wr => RfRel w L k i wr) (fun i _ => L.length - (intOf i).toNat)
      case atStart => exact HS.out
      case round =>
        clear HS
        obtain ⟨j, hj, rfl, hX, hR, hbr⟩ := hrel
        by_cases hlj : j < L.length
        · have hx := List.getElem?_eq_getElem hlj
          obtain ⟨a, hA, g0, g1, g2, g3, g4, g5⟩ := (hr.below DnB.keeps hbr) j _ hx
          have hA2 : A = some a := hA
          clear hA
          subst hA2
          have kI : (j : Int) < (L.length : Int) := by omega
          have kJ : (0 : Int) ≤ (j : Int) := by omega
          have HST := hide (fun hf => rf_step (k := k) hlt hx hf)
          have HSK := hide (fun hf => rf_skip (k := k) hx hf)
          generalize L[j] = x at *
          obtain ⟨b, hb⟩ : ∃ b, (x.2.2.2.2.2 == (k : Int)) = b := ⟨_, rfl⟩
          have hcd := hX.cell k
          rw [rf_get L k j hlt, rf_self] at hcd
          have hrg := cntI_rng (fltP k) L j
          have hfd := hX.frozen k
          have HX := hide hX
          have HR := hide hR
          have HB := hide hbr
          have hge := hbr.size
          cases b with
          | true =>
            have HS := hide (HST.out (by simpa using hb))
            generalize cntI (fltP k) L j = C at *
            obtain ⟨xt, xs, xn, xd, xp, xf⟩ := x
            simp only at *
            clear hX hR hbr hx hr HST HSK
            go_wp2_with fail
            go_roundw
            case rel =>
              refine ⟨j + 1, by omega, by go_num, ?_, HR.out.far (p := ⟨w.heap.size + 1, _, none⟩) (by simp only; omega) _, HB.out.setCell (by simp only; omega) _⟩
              rw [← HS.out]
              exact HX.out.set_ _ _
            case measure => simp [intOf]; omega
          | false =>
            have HS := hide (HSK.out (by simpa using hb))
            obtain ⟨xt, xs, xn, xd, xp, xf⟩ := x
            simp only at *
            clear hX hR hbr hx hr HST HSK hcd
            go_wp2_with fail
            go_roundw
            case rel => exact ⟨j + 1, by omega, by go_num, by rw [HS.out]; exact HX.out, HR.out, HB.out⟩
            case measure => simp [intOf]; omega
        · obtain rfl : j = L.length := by omega
          have HX := hide hX
          have HR := hide hR
          have HB := hide hbr
          clear hX hR hbr hr
          go_wp2_with fail
          go_roundw
          case rel => exact ⟨k + 1, by omega, by go_num, 0, Nat.zero_le _, rfl, by rw [rf_next]; exact HX.out, HR.out, HB.out⟩
          case measure => simp [intOf]; omega
    · obtain rfl : k = 8 := by omega
      rw [rf_end] at hX
      clear hr e0
      have hge := hbr.size
      have HPF := hide (show ∀ W, Below w.heap.size w W → Post (.returned (.agg (fltC L L.length))) W from HP.out)
      have HB := hide hbr
      unfold fltC at hX hR HPF
      simp only [cntI_zero] at hR
      have x0 := hX.cell 0
      have x1 := hX.cell 1
      have x2 := hX.cell 2
      have x3 := hX.cell 3
      have x4 := hX.cell 4
      have x5 := hX.cell 5
      have x6 := hX.cell 6
      have x7 := hX.cell 7
      simp only [List.getElem?_toArray, List.getElem?_cons_zero, List.getElem?_cons_succ] at x0 x1 x2 x3 x4 x5 x6 x7
      have r0 := hR.cell 0
      have r1 := hR.cell 1
      have r2 := hR.cell 2
      have r3 := hR.cell 3
      have r4 := hR.cell 4
      have r5 := hR.cell 5
      have r6 := hR.cell 6
      have r7 := hR.cell 7
      simp only [List.getElem?_toArray, List.getElem?_cons_zero, List.getElem?_cons_succ] at r0 r1 r2 r3 r4 r5 r6 r7
      have f0 := hR.frozen 0
      have f1 := hR.frozen 1
      have f2 := hR.frozen 2
      have f3 := hR.frozen 3
      have f4 := hR.frozen 4
      have f5 := hR.frozen 5
      have f6 := hR.frozen 6
      have f7 := hR.frozen 7
      clear hX hR hbr HP
      go_wp2_with fail
      refine bodyPost_ret (v := .agg #[.int .i64 (cntI (fltP 0) L L.length), .int .i64 (cntI (fltP 1) L L.length), .int .i64 (cntI (fltP 2) L L.length), .int .i64 (cntI (fltP 3) L L.length), .int .i64 (cntI (fltP 4) L L.length), .int .i64 (cntI (fltP 5) L L.length), .int .i64 (cntI (fltP 6) L L.length), .int .i64 (cntI (fltP 7) L L.length)]) (by simp [results, Try.results34, go_sem, r0, r1, r2, r3, r4, r5, r6, r7]) rfl (HPF.out _ ?_)
      exact below_set8 HB.out _ _ _ _ _ _ _ _
end Go.Proofs.Ytpfcmfannkbipaa
end
