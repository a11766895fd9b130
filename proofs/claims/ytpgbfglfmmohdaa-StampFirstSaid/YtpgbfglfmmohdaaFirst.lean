/- The walk of stamp.First, and how its argument is opened. UNDER WAY. -/
import Derived.Test.YtpgbfglfmmohdaaOpen02
import Derived.Test.YtpgbfglfmmohdaaLaw02e
import Derived.Deep.Slices
import Derived.Deep.Fields
import Derived.ChangeSame
set_option linter.unusedVariables false
set_option maxRecDepth 20000
namespace Go.Proofs.Ytpgbfglfmmohdaa
open Go.RowKit Go.Deep Go.ChangeShapes Go.WideShapes Go.Joins

/-- A row of stamps. -/
def StRow (w : World) (a : Addr) (L : List (Nat × Int × Int)) : Prop := ∀ i x, L[i]? = some x → w.cell? (a.add (i * 3)) = some (.float .f64 x.1) ∧ w.cell? ⟨(a.add (i * 3)).block, (a.add (i * 3)).off + 1, none⟩ = some (.int .i64 x.2.1) ∧ w.cell? ⟨(a.add (i * 3)).block, (a.add (i * 3)).off + 2, none⟩ = some (.int .i64 x.2.2)
theorem StRow.below {w w' : World} {a : Addr} {L : List (Nat × Int × Int)} (h : StRow w a L) (hb : Below w.heap.size w w') : StRow w' a L := fun i x hx => ⟨keep1 hb (h i x hx).1, keep1 hb (h i x hx).2.1, keep1 hb (h i x hx).2.2⟩
theorem first_none (w : World) : Calls Try.prog 50 #[.slice none 0 0] w fun e w' => e = .returned (.int .i64 (-1)) ∧ w = w' := by
  go_enter Try.func50, Try.ntmps50
  go_wp2_with fail
  go_loopw [3, 8] (fun o i wr => o = .int .i64 (-1) ∧ i = .int .i64 0 ∧ w = wr) (fun _ _ _ => 0)
  case atStart => exact ⟨rfl, rfl, rfl⟩
  case round =>
    obtain ⟨rfl, rfl, rfl⟩ := hrel
    go_wp2
    go_ret
    exact ⟨rfl, rfl⟩
theorem cmpS_same3 (x : Nat × Int × Int) : cmpS x.1 x.2.1 x.2.2 x.1 x.2.1 x.2.2 = 0 := by
  have := cmpS_ways x.1 x.1 x.2.1 x.2.2 x.2.1 x.2.2
  omega
theorem cmpS_less (z x y : Nat × Int × Int) (h1 : 0 ≤ cmpS z.1 z.2.1 z.2.2 y.1 y.2.1 y.2.2) (h2 : cmpS x.1 x.2.1 x.2.2 y.1 y.2.1 y.2.2 < 0) : 0 < cmpS z.1 z.2.1 z.2.2 x.1 x.2.1 x.2.2 := by
  have a := cmpS_ways z.1 y.1 z.2.1 z.2.2 y.2.1 y.2.2
  have b := cmpS_ways x.1 y.1 x.2.1 x.2.2 y.2.1 y.2.2
  have c := cmpS_ways z.1 x.1 z.2.1 z.2.2 x.2.1 x.2.2
  omega
attribute [local go_sem] run_store_float
def FirstInv (L : List (Nat × Int × Int)) (k : Nat) (out : Int) : Prop :=
  (k = 0 ∧ out = -1) ∨ ∃ r : Nat, out = r ∧ r < k ∧ ∀ (j : Nat) (x y : Nat × Int × Int), j < k → L[j]? = some x → L[r]? = some y → 0 ≤ cmpS x.1 x.2.1 x.2.2 y.1 y.2.1 y.2.2 ∧ (j < r → cmpS x.1 x.2.1 x.2.2 y.1 y.2.1 y.2.2 ≠ 0)
def FirstRel (w : World) (L : List (Nat × Int × Int)) (o i : Value) (wr : World) : Prop :=
  ∃ (k : Nat) (out : Int), k ≤ L.length ∧ i = .int .i64 k ∧ o = .int .i64 out ∧ FirstInv L k out ∧ Below w.heap.size w wr
theorem first_any (w : World) (a : Addr) (L : List (Nat × Int × Int)) (c : Nat) (h : StRow w a L) (hl : L.length ≤ 60) : Calls Try.prog 50 #[.slice (some a) L.length c] w fun e w' => ∃ out : Int, e = .returned (.int .i64 out) ∧ FirstInv L L.length out ∧ Below w.heap.size w w' := by
  go_enter Try.func50, Try.ntmps50
  go_wp2_with fail
  go_loopw [3, 8] (fun o i wr => FirstRel w L o i wr) (fun _ i _ => L.length - (intOf i).toNat)
  case atStart => exact ⟨0, -1, Nat.zero_le _, rfl, rfl, .inl ⟨rfl, rfl⟩, Below.refl _ _⟩
  case round =>
    obtain ⟨k, out, hk, rfl, rfl, hinv, hb⟩ := hrel
    by_cases hlt : k < L.length
    · have h' := h.below hb
      obtain ⟨r0, r1, r2⟩ := h' k _ (List.getElem?_eq_getElem hlt)
      generalize hx : L[k] = x at *
      rcases hinv with ⟨h0, rfl⟩ | ⟨r, rfl, hrk, hmin⟩
      · have H0 := hide h0
        clear h0
        go_wp2_with fail
        have hb := hb.alloc hb.size (.cells #[.float .f64 x.1, .int .i64 x.2.1, .int .i64 x.2.2] 42)
        have hA : StAt (wr.alloc (.cells #[.float .f64 x.1, .int .i64 x.2.1, .int .i64 x.2.2] 42)) wr.heap.size x.1 x.2.1 x.2.2 := Blk.new wr _ _
        clear r0 r1 r2 h'
        generalize (wr.alloc (.cells #[.float .f64 x.1, .int .i64 x.2.1, .int .i64 x.2.2] 42)) = w1 at *
        obtain ⟨c0, c1, c2⟩ := hA.cells
        go_quiet (fail)
        go_wp2
        go_roundw
        case rel =>
          refine ⟨k + 1, k, by omega, by go_num, rfl, .inr ⟨k, rfl, by omega, fun j z y hj hz hy => ?_⟩, below_drewN hb _⟩
          have hk0 := H0.out
          obtain rfl : j = k := by omega
          rw [hz] at hy
          obtain rfl : z = y := by simpa using hy
          exact ⟨by rw [cmpS_same3]; exact Int.le_refl _, fun h => absurd h (by omega)⟩
        case measure => simp [intOf]; omega
      · have hy := h' r _ (List.getElem?_eq_getElem (by omega))
        generalize hy' : L[r] = y at *
        obtain ⟨y0, y1, y2⟩ := hy
        go_wp2_with fail
        have hk1 : Below wr.heap.size wr (wr.alloc (.cells #[.float .f64 x.1, .int .i64 x.2.1, .int .i64 x.2.2] 42)) := (Below.refl _ _).alloc (Nat.le_refl _) _
        have hb := hb.alloc hb.size (.cells #[.float .f64 x.1, .int .i64 x.2.1, .int .i64 x.2.2] 42)
        have hA : StAt (wr.alloc (.cells #[.float .f64 x.1, .int .i64 x.2.1, .int .i64 x.2.2] 42)) wr.heap.size x.1 x.2.1 x.2.2 := Blk.new wr _ _
        have y0 := keep1 hk1 y0
        have y1 := keep1 hk1 y1
        have y2 := keep1 hk1 y2
        clear r0 r1 r2 h' hk1
        generalize (wr.alloc (.cells #[.float .f64 x.1, .int .i64 x.2.1, .int .i64 x.2.2] 42)) = w1 at *
        obtain ⟨c0, c1, c2⟩ := hA.cells
        have hb' : Below w.heap.size w w1.drew := hb.drew
        have hd : decide ((r : Int) < 0) = false := by
          rw [decide_eq_false_iff_not]
          omega
        have hrL : r < L.length := by omega
        have hrI : (r : Int) < (L.length : Int) := by omega
        go_region_held3 (fun w' => w'.cell? ⟨wr.heap.size, 0, none⟩ = some (.float .f64 x.1) ∧ w'.cell? ⟨wr.heap.size, 1, none⟩ = some (.int .i64 x.2.1) ∧ w'.cell? ⟨wr.heap.size, 2, none⟩ = some (.int .i64 x.2.2) ∧
            w'.cell? (a.add (r * 3)) = some (.float .f64 y.1) ∧ w'.cell? ⟨(a.add (r * 3)).block, (a.add (r * 3)).off + 1, none⟩ = some (.int .i64 y.2.1) ∧ w'.cell? ⟨(a.add (r * 3)).block, (a.add (r * 3)).off + 2, none⟩ = some (.int .i64 y.2.2))
          (first
            | go_keep
            | (go_split_ands; exact ⟨keep1 hb3 (by assumption), keep1 hb3 (by assumption), keep1 hb3 (by assumption), keep1 hb3 (by assumption), keep1 hb3 (by assumption), keep1 hb3 (by assumption)⟩))
          (first
            | (go_at_call 39; refine (compare_any _ _ _ _ _ _ _).mono ?_; rintro e w3 ⟨rfl, hb3⟩; obtain ⟨hc3, hf3⟩ := bcell hb3))
        have hb := below_after hb' hb3
        by_cases hneg : cmpS x.1 x.2.1 x.2.2 y.1 y.2.1 y.2.2 < 0
        · go_wp2
          go_roundw
          case rel =>
            refine ⟨k + 1, k, by omega, by go_num, rfl, .inr ⟨k, rfl, by omega, fun j z v hj hz hv => ?_⟩, hb⟩
            have e : v = x := by
              rw [List.getElem?_eq_getElem hlt, hx] at hv
              simpa using hv.symm
            subst e
            by_cases hjk : j < k
            · have := cmpS_less z v y (hmin j z y hjk hz (by rw [List.getElem?_eq_getElem (by omega), hy'])).1 hneg
              exact ⟨by omega, fun _ => by omega⟩
            · obtain rfl : j = k := by omega
              rw [hz] at hv
              obtain rfl : z = v := by simpa using hv
              exact ⟨by rw [cmpS_same3]; exact Int.le_refl _, fun h => absurd h (by omega)⟩
          case measure => simp [intOf]; omega
        · go_wp2
          go_roundw
          case rel =>
            refine ⟨k + 1, r, by omega, by go_num, rfl, .inr ⟨r, rfl, by omega, fun j z v hj hz hv => ?_⟩, hb⟩
            by_cases hjk : j < k
            · exact hmin j z v hjk hz hv
            · obtain rfl : j = k := by omega
              have e1 : z = x := by
                rw [List.getElem?_eq_getElem hlt, hx] at hz
                simpa using hz.symm
              have e2 : v = y := by
                rw [List.getElem?_eq_getElem (by omega), hy'] at hv
                simpa using hv.symm
              subst e1 e2
              exact ⟨by omega, fun h => absurd h (by omega)⟩
          case measure => simp [intOf]; omega
    · obtain rfl : k = L.length := by omega
      go_wp2
      go_ret
      exact ⟨_, rfl, hinv, hb⟩
end Go.Proofs.Ytpgbfglfmmohdaa
