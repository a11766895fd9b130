/- The law StampFirst walked: the first of the least ones. -/
import Derived.Test.YtpgbfglfmmohdaaFirst
set_option linter.unusedVariables false
set_option maxRecDepth 20000
namespace Go.Proofs.Ytpgbfglfmmohdaa
open Go.RowKit Go.Deep Go.ChangeShapes Go.WideShapes Go.Joins

theorem firstl_none (w : World) : Calls Try.prog 11 #[.slice none 0 0] w fun e w' => e = .returned (.bool true) ∧ Below w.heap.size w w' := by
  go_enter Try.func11, Try.ntmps11
  go_wp2_with fail
  refine (first_none _).mono ?_
  rintro e w' ⟨rfl, rfl⟩
  go_wp2_with fail
  refine (awake02 _).mono ?_
  rintro e w2 ⟨rfl, hb2⟩
  go_wp2
  go_ret
  exact ⟨rfl, hb2⟩
def LoopRel (w : World) (m : Nat) (i : Value) (wr : World) : Prop := ∃ k : Nat, k ≤ m ∧ i = .int .i64 k ∧ Below w.heap.size w wr

theorem firstl_short (w : World) (a : Addr) (L : List (Nat × Int × Int)) (c : Nat) (hl : L.length ≤ 60) (h : StRow w a L) : Calls Try.prog 11 #[.slice (some a) L.length c] w fun e w' => e = .returned (.bool true) ∧ Below w.heap.size w w' := by
  have hF := first_any w a L c h (by omega)
  have hcut : decide ((60 : Int) < (L.length : Int)) = false := by
    rw [decide_eq_false_iff_not]
    omega
  go_enter Try.func11, Try.ntmps11
  go_wp2_with fail
  refine hF.mono ?_
  clear hF
  rintro e w1 ⟨out, rfl, hinv, hb1⟩
  rcases hinv with ⟨h0, rfl⟩ | ⟨r, rfl, hr, hmin⟩
  · obtain rfl := List.eq_nil_of_length_eq_zero h0
    simp only [List.length_nil]
    go_wp2_with fail
    refine (awake02 _).mono ?_
    rintro e w2 ⟨rfl, hb2⟩
    go_wp2
    go_ret
    exact ⟨rfl, below_after hb1 hb2⟩
  · have hrI : (r : Int) < (L.length : Int) := by omega
    have hd : decide ((r : Int) < 0) = false := by
      rw [decide_eq_false_iff_not]
      omega
    have hd2 : decide ((L.length : Int) ≤ (r : Int)) = false := by
      rw [decide_eq_false_iff_not]
      omega
    have hd3 : decide (L.length ≤ r) = false := by
      rw [decide_eq_false_iff_not]
      omega
    have hz : ((L.length : Int) == 0) = false := by
      rw [beq_eq_false_iff_ne]
      omega
    go_wp2_with fail
    go_loopw [4] (fun i wr => LoopRel w (L.length) i wr) (fun i _ => (L.length) - (intOf i).toNat)
    case atStart => exact ⟨0, Nat.zero_le _, rfl, hb1⟩
    case round =>
      clear hb1
      obtain ⟨k, hk, rfl, hb⟩ := hrel
      by_cases hlt : k < L.length
      · have h' := h.below hb
        have hkL : k < L.length := by omega
        have hrL : r < L.length := by omega
        obtain ⟨x0, x1, x2⟩ := h' k _ (List.getElem?_eq_getElem hkL)
        obtain ⟨y0, y1, y2⟩ := h' r _ (List.getElem?_eq_getElem hrL)
        obtain ⟨m1, m2⟩ := hmin k _ _ hlt (List.getElem?_eq_getElem hkL) (List.getElem?_eq_getElem hrL)
        clear h' hmin
        generalize L[k] = x at *
        generalize L[r] = y at *
        have hb' : Below w.heap.size w wr.drew := hb.drew
        have hkI : (k : Int) < (L.length : Int) := by omega
        have hn0 : decide (cmpS x.1 x.2.1 x.2.2 y.1 y.2.1 y.2.2 < 0) = false := by
          rw [decide_eq_false_iff_not]
          omega
        go_wp2_with fail
        go_region_held3 (fun w' => w'.cell? (a.add (k * 3)) = some (.float .f64 x.1) ∧ w'.cell? ⟨(a.add (k * 3)).block, (a.add (k * 3)).off + 1, none⟩ = some (.int .i64 x.2.1) ∧ w'.cell? ⟨(a.add (k * 3)).block, (a.add (k * 3)).off + 2, none⟩ = some (.int .i64 x.2.2) ∧
            w'.cell? (a.add (r * 3)) = some (.float .f64 y.1) ∧ w'.cell? ⟨(a.add (r * 3)).block, (a.add (r * 3)).off + 1, none⟩ = some (.int .i64 y.2.1) ∧ w'.cell? ⟨(a.add (r * 3)).block, (a.add (r * 3)).off + 2, none⟩ = some (.int .i64 y.2.2))
          (first
            | go_keep
            | (go_split_ands; exact ⟨keep1 hb3 (by assumption), keep1 hb3 (by assumption), keep1 hb3 (by assumption), keep1 hb3 (by assumption), keep1 hb3 (by assumption), keep1 hb3 (by assumption)⟩))
          (first
            | (go_at_call 40; refine (rcompare_any _ _ _ _ _ _ _).mono ?_; rintro e w3 ⟨rfl, hb3⟩; obtain ⟨hc3, hf3⟩ := bcell hb3))
        have hb := below_after hb' hb3
        by_cases hkr : k < r
        · have hne : (cmpS x.1 x.2.1 x.2.2 y.1 y.2.1 y.2.2 == 0) = false := by
            rw [beq_eq_false_iff_ne]
            exact m2 hkr
          go_wp2
          go_roundw
          case rel => exact ⟨k + 1, by omega, by go_num, hb⟩
          case measure => simp [intOf]; omega
        · have hkd : decide ((k : Int) < (r : Int)) = false := by
            rw [decide_eq_false_iff_not]
            omega
          go_wp2
          all_goals first
            | (go_roundw
               case rel => exact ⟨k + 1, by omega, by go_num, hb⟩
               case measure => simp [intOf]; omega)
            | exact ⟨⟨k + 1, by omega, by go_num, hb⟩, by simp [intOf]; omega⟩
      · obtain rfl : k = L.length := by omega
        go_wp2_with fail
        refine (awake02 _).mono ?_
        rintro e w2 ⟨rfl, hb2⟩
        go_wp2
        go_ret
        exact ⟨rfl, below_after hb hb2⟩

theorem firstl_long (w : World) (a : Addr) (L : List (Nat × Int × Int)) (c : Nat) (n : Nat) (hn : (60 : Int) < (n : Int)) (hn2 : 60 < n) (hnc : n ≤ c) (hc : (c : Int) ≤ 9223372036854775807) (hl : L.length = 60) (h : StRow w a L) : Calls Try.prog 11 #[.slice (some a) n c] w fun e w' => e = .returned (.bool true) ∧ Below w.heap.size w w' := by
  have hF := first_any w a L c h (by omega)
  rw [hl] at hF
  go_enter Try.func11, Try.ntmps11
  go_wp2_with fail
  refine hF.mono ?_
  clear hF
  rintro e w1 ⟨out, rfl, hinv, hb1⟩
  rcases hinv with ⟨h0, rfl⟩ | ⟨r, rfl, hr, hmin⟩
  · omega
  · have hrI : (r : Int) < (60 : Int) := by omega
    have hd : decide ((r : Int) < 0) = false := by
      rw [decide_eq_false_iff_not]
      omega
    have hd2 : decide ((60 : Int) ≤ (r : Int)) = false := by
      rw [decide_eq_false_iff_not]
      omega
    have hd3 : decide (60 ≤ r) = false := by
      rw [decide_eq_false_iff_not]
      omega
    have hz : ((60 : Int) == 0) = false := by
      rw [beq_eq_false_iff_ne]
      omega
    go_wp2_with fail
    go_loopw [4] (fun i wr => LoopRel w (60) i wr) (fun i _ => (60) - (intOf i).toNat)
    case atStart => exact ⟨0, Nat.zero_le _, rfl, hb1⟩
    case round =>
      clear hb1
      obtain ⟨k, hk, rfl, hb⟩ := hrel
      by_cases hlt : k < 60
      · have h' := h.below hb
        have hkL : k < L.length := by omega
        have hrL : r < L.length := by omega
        obtain ⟨x0, x1, x2⟩ := h' k _ (List.getElem?_eq_getElem hkL)
        obtain ⟨y0, y1, y2⟩ := h' r _ (List.getElem?_eq_getElem hrL)
        obtain ⟨m1, m2⟩ := hmin k _ _ hlt (List.getElem?_eq_getElem hkL) (List.getElem?_eq_getElem hrL)
        clear h' hmin
        generalize L[k] = x at *
        generalize L[r] = y at *
        have hb' : Below w.heap.size w wr.drew := hb.drew
        have hkI : (k : Int) < (60 : Int) := by omega
        have hn0 : decide (cmpS x.1 x.2.1 x.2.2 y.1 y.2.1 y.2.2 < 0) = false := by
          rw [decide_eq_false_iff_not]
          omega
        go_wp2_with fail
        go_region_held3 (fun w' => w'.cell? (a.add (k * 3)) = some (.float .f64 x.1) ∧ w'.cell? ⟨(a.add (k * 3)).block, (a.add (k * 3)).off + 1, none⟩ = some (.int .i64 x.2.1) ∧ w'.cell? ⟨(a.add (k * 3)).block, (a.add (k * 3)).off + 2, none⟩ = some (.int .i64 x.2.2) ∧
            w'.cell? (a.add (r * 3)) = some (.float .f64 y.1) ∧ w'.cell? ⟨(a.add (r * 3)).block, (a.add (r * 3)).off + 1, none⟩ = some (.int .i64 y.2.1) ∧ w'.cell? ⟨(a.add (r * 3)).block, (a.add (r * 3)).off + 2, none⟩ = some (.int .i64 y.2.2))
          (first
            | go_keep
            | (go_split_ands; exact ⟨keep1 hb3 (by assumption), keep1 hb3 (by assumption), keep1 hb3 (by assumption), keep1 hb3 (by assumption), keep1 hb3 (by assumption), keep1 hb3 (by assumption)⟩))
          (first
            | (go_at_call 40; refine (rcompare_any _ _ _ _ _ _ _).mono ?_; rintro e w3 ⟨rfl, hb3⟩; obtain ⟨hc3, hf3⟩ := bcell hb3))
        have hb := below_after hb' hb3
        by_cases hkr : k < r
        · have hne : (cmpS x.1 x.2.1 x.2.2 y.1 y.2.1 y.2.2 == 0) = false := by
            rw [beq_eq_false_iff_ne]
            exact m2 hkr
          go_wp2
          go_roundw
          case rel => exact ⟨k + 1, by omega, by go_num, hb⟩
          case measure => simp [intOf]; omega
        · have hkd : decide ((k : Int) < (r : Int)) = false := by
            rw [decide_eq_false_iff_not]
            omega
          go_wp2
          all_goals first
            | (go_roundw
               case rel => exact ⟨k + 1, by omega, by go_num, hb⟩
               case measure => simp [intOf]; omega)
            | exact ⟨⟨k + 1, by omega, by go_num, hb⟩, by simp [intOf]; omega⟩
      · obtain rfl : k = 60 := by omega
        go_wp2_with fail
        refine (awake02 _).mono ?_
        rintro e w2 ⟨rfl, hb2⟩
        go_wp2
        go_ret
        exact ⟨rfl, below_after hb hb2⟩

end Go.Proofs.Ytpgbfglfmmohdaa
