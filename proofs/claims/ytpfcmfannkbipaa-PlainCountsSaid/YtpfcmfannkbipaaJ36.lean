/- Texts of this claim in one. No condition. -/
import Derived.Test.YtpfcmfannkbipaaJ34
section
set_option linter.unusedVariables false
set_option linter.unusedSimpArgs false
set_option maxRecDepth 20000
namespace Go.Proofs.Ytpfcmfannkbipaa
open Go.RowKit Go.Deep

attribute [local go_sem] run_store_float
theorem less34_any (x y : Dn) (w : World) : Calls Try.prog 69 #[dnV x, dnV y] w fun e w' => e = .returned (.bool (decide (cD x y < 0))) ∧ Below w.heap.size w w' := by
  have hc := fun W => acmp_dn x y W
  generalize cD x y = C at *
  obtain ⟨x0, x1, x2, x3, x4, x5⟩ := x
  obtain ⟨y0, y1, y2, y3, y4, y5⟩ := y
  obtain ⟨hb, hX, hY⟩ := box2 w #[.float .f64 x0, .int .i64 x1, .int .i64 x2, .int .i64 x3, .int .i64 x4, .int .i64 x5] #[.float .f64 y0, .int .i64 y1, .int .i64 y2, .int .i64 y3, .int .i64 y4, .int .i64 y5] 39 39
  unfold dnV
  simp only at *
  have x0 := hX.cell 0
  have x1 := hX.cell 1
  have x2 := hX.cell 2
  have x3 := hX.cell 3
  have x4 := hX.cell 4
  have x5 := hX.cell 5
  simp only [List.getElem?_toArray, List.getElem?_cons_zero, List.getElem?_cons_succ] at x0 x1 x2 x3 x4 x5
  have y0 := hY.cell 0
  have y1 := hY.cell 1
  have y2 := hY.cell 2
  have y3 := hY.cell 3
  have y4 := hY.cell 4
  have y5 := hY.cell 5
  simp only [List.getElem?_toArray, List.getElem?_cons_zero, List.getElem?_cons_succ] at y0 y1 y2 y3 y4 y5
  have HB := hide hb
  clear hb hX hY
  go_enter Try.func69, Try.ntmps69
  go_upto_region 1 with fail
  generalize (World.alloc (World.alloc w _) _) = w1 at *
  go_wp2_with fail
  refine (hc _).mono ?_
  rintro e w' ⟨rfl, hb⟩
  have HB2 := hide (below_after HB.out hb)
  clear hb
  go_wp2_with fail
  go_ret
  exact ⟨rfl, HB2.out⟩
theorem below_set6 {B : Nat} {w wr : World} (h : Below B w wr) {p : Nat} (hp : B ≤ p) (a b c d e f : Value) : Below B w ((((((wr.setCell ⟨p, 0, none⟩ a).setCell ⟨p, 1, none⟩ b).setCell ⟨p, 2, none⟩ c).setCell ⟨p, 3, none⟩ d).setCell ⟨p, 4, none⟩ e).setCell ⟨p, 5, none⟩ f) :=
  (((((h.setCell hp _).setCell hp _).setCell hp _).setCell hp _).setCell hp _).setCell hp _
/-- What is left of each list. -/
def lefts (L : List (Sl Dn)) (ks : List Nat) : List (List Dn) := List.zipWith (fun s k => s.L.drop k) L ks
theorem lefts_len {L : List (Sl Dn)} {ks : List Nat} (h : ks.length = L.length) : (lefts L ks).length = L.length := by unfold lefts; simp [h]
theorem lefts_at {L : List (Sl Dn)} {ks : List Nat} {i : Nat} {s : Sl Dn} {k : Nat} (hs : L[i]? = some s) (hk : ks[i]? = some k) : (lefts L ks)[i]? = some (s.L.drop k) := by
  unfold lefts
  rw [List.getElem?_zipWith, hs, hk]
theorem lefts_set {L : List (Sl Dn)} {ks : List Nat} {j : Nat} {s : Sl Dn} {k : Nat} (h : ks.length = L.length) (hs : L[j]? = some s) (hk : ks[j]? = some k) : lefts L (ks.set j (k + 1)) = Mrg.takeAt (lefts L ks) j := by
  have hM := lefts_at hs hk
  unfold Mrg.takeAt
  rw [List.getD_eq_getElem?_getD, hM]
  apply List.ext_getElem?
  intro i
  rw [List.getElem?_set]
  have hjl := (List.getElem?_eq_some_iff.1 hk).1
  by_cases e : j = i
  · subst e
    rw [if_pos rfl, if_pos (by rw [lefts_len h]; omega), lefts_at hs (k := k + 1) (by rw [List.getElem?_set, if_pos rfl, if_pos hjl])]
    simp
  · rw [if_neg e]
    unfold lefts
    rw [List.getElem?_zipWith, List.getElem?_zipWith, List.getElem?_set_ne e]
structure Rw34 (w0 : World) (g ga : Nat) (l : Sl (Sl Dn)) (ks : List Nat) (w : World) : Prop where
  bel : Below w0.heap.size w0 w
  box : Blk w g 146 #[l.val, .slice (some ⟨ga, 0, none⟩) l.L.length l.L.length]
  at_ : Blk w ga 3 (ks.map (fun k => Value.int .i64 ((k : Nat) : Int))).toArray
  len : ks.length = l.L.length
  rows : l.At (SlAt DnB 6) 1 w0
  le : ∀ (i : Nat) (s : Sl Dn) (k : Nat), l.L[i]? = some s → ks[i]? = some k → k ≤ s.L.length
  ge : w0.heap.size ≤ g ∧ w0.heap.size ≤ ga ∧ g ≠ ga
section
variable {w0 w w' : World} {g ga : Nat} {l : Sl (Sl Dn)} {ks : List Nat}
theorem Rw34.below (h : Rw34 w0 g ga l ks w) (hb : Below w.heap.size w w') : Rw34 w0 g ga l ks w' := ⟨below_after h.bel hb, h.box.below hb h.box.lt, h.at_.below hb h.at_.lt, h.len, h.rows, h.le, h.ge⟩
theorem Rw34.cell {i k : Nat} (h : Rw34 w0 g ga l ks w) (hk : ks[i]? = some k) : w.cell? ⟨ga, i, none⟩ = some (.int .i64 (k : Int)) := by
  rw [h.at_.cell i, List.getElem?_toArray, List.getElem?_map, hk]
  rfl
theorem Rw34.row {i : Nat} {s : Sl Dn} (h : Rw34 w0 g ga l ks w) (hs : l.L[i]? = some s) : ∃ a, l.A = some a ∧ w.cell? (a.add i) = some s.val ∧ s.At DnB 6 w := by
  obtain ⟨a, ha, hc, hA⟩ := h.rows.1 i s hs
  rw [Nat.mul_one] at hc
  exact ⟨a, ha, keepc h.bel hc, hA.below DnB.keeps h.bel⟩
theorem Rw34.step {i k : Nat} {s : Sl Dn} (h : Rw34 w0 g ga l ks w) (hs : l.L[i]? = some s) (hk : ks[i]? = some k) (hlt : k < s.L.length) : Rw34 w0 g ga l (ks.set i (k + 1)) (w.setCell ⟨ga, i, none⟩ (.int .i64 ((k : Int) + 1))) := by
  refine ⟨h.bel.setCell (p := ⟨ga, i, none⟩) h.ge.2.1 _, h.box.far (p := ⟨ga, i, none⟩) h.ge.2.2 _, ?_, by rw [List.length_set]; exact h.len, h.rows, fun j t m ht hm => ?_, h.ge⟩
  · have := h.at_.set_ i (.int .i64 ((k : Int) + 1))
    rw [List.setIfInBounds_toArray] at this
    rw [List.map_set]
    exact this
  · rw [List.getElem?_set] at hm
    by_cases e : i = j
    · subst e
      rw [hs] at ht
      cases ht
      rw [if_pos rfl] at hm
      split at hm
      · cases hm; omega
      · cases hm
    · rw [if_neg e] at hm
      exact h.le j t m ht hm
end
set_option maxHeartbeats 1000000 in
theorem mkrows34_any (l : Sl (Sl Dn)) (w : World) (h : l.At (SlAt DnB 6) 1 w) (hl : l.L.length ≤ 1000000) : Calls Try.prog 67 #[l.val] w fun e w' => ∃ g ga, e = .returned (.pointer (some ⟨g, 0, none⟩)) ∧ Rw34 w g ga l (List.replicate l.L.length 0) w' ∧ Below w.heap.size w w' := by
  have hmk := run_make_row' (P := Try.prog) 59 3 (.int .i64 0) 8 Try.underlying59 (by kernel_rfl) rfl .i64 .i64 l.L.length (by omega) (by omega)
  obtain ⟨hb, hA, hB⟩ := box2 w (madeCells #[.int .i64 0] l.L.length) #[l.val, .slice (some ⟨w.heap.size, 0, none⟩) l.L.length l.L.length] 3 146
  have HEND := hide (show ∃ g ga, Ending.returned (.pointer (some ⟨w.heap.size + 1, 0, none⟩)) = .returned (.pointer (some ⟨g, 0, none⟩)) ∧ Rw34 w g ga l (List.replicate l.L.length 0) _ ∧ Below w.heap.size w _ from ⟨w.heap.size + 1, w.heap.size, rfl, ⟨hb, hB, by
    have e : madeCells #[.int .i64 0] l.L.length = ((List.replicate l.L.length 0).map (fun k => Value.int .i64 ((k : Nat) : Int))).toArray := by
      unfold madeCells
      apply Array.ext (by simp)
      intro i h1 h2
      simp [Nat.mod_one]
    rw [← e]; exact hA, by simp, h, fun i s k hs hk => by
      have hk := List.mem_of_getElem? hk
      have := List.eq_of_mem_replicate hk
      omega, by omega⟩, hb⟩)
  obtain ⟨lA, lc, ll⟩ := l
  simp only [Sl.val] at *
  clear hb hA hB h
  go_enter Try.func67, Try.ntmps67
  go_wp2_with fail
  go_ret
  exact HEND.out
set_option maxHeartbeats 1000000 in
theorem head34_any {w0 w : World} {g ga gb : Nat} {l : Sl (Sl Dn)} {ks : List Nat} (h : Rw34 w0 g ga l ks w) (hb : w.cell? ⟨gb, 0, none⟩ = some (.pointer (some ⟨g, 0, none⟩))) {i k : Nat} {s : Sl Dn} {x : Dn} (hs : l.L[i]? = some s) (hk : ks[i]? = some k) (hx : s.L[k]? = some x) :
    Calls Try.prog 95 #[.int .i64 i, .pointer (some ⟨gb, 0, none⟩)] w fun e w' => e = .returned (dnV x) ∧ Below w.heap.size w w' := by
  have ha := (Below.refl w.heap.size w).alloc (Nat.le_refl _) (.cells #[.float .f64 0, .int .i64 0, .int .i64 0, .int .i64 0, .int .i64 0, .int .i64 0] 39)
  have hR := Blk.new w 39 #[.float .f64 0, .int .i64 0, .int .i64 0, .int .i64 0, .int .i64 0, .int .i64 0]
  obtain ⟨a, hA, c0, hS⟩ := h.row hs
  obtain ⟨b, hB, d0, d1, d2, d3, d4, d5⟩ := hS.1 k x hx
  have b0 := h.box.cell 0
  have b1 := h.box.cell 1
  have t0 := h.cell hk
  simp only [List.getElem?_toArray, List.getElem?_cons_zero, List.getElem?_cons_succ] at b0 b1
  have hi := (List.getElem?_eq_some_iff.1 hs).1
  have hkl := (List.getElem?_eq_some_iff.1 hx).1
  have hsc := hS.2
  have hlc := h.rows.2
  have HC := hide (fun X (hX : Below w.heap.size w X) => (show X.cell? ⟨gb, 0, none⟩ = some (.pointer (some ⟨g, 0, none⟩)) ∧ X.cell? ⟨g, 0, none⟩ = some l.val ∧ X.cell? ⟨g, 1, none⟩ = some (.slice (some ⟨ga, 0, none⟩) l.L.length l.L.length) ∧ X.cell? ⟨ga, i, none⟩ = some (.int .i64 (k : Int)) ∧ X.cell? (a.add i) = some s.val ∧ X.cell? (b.add (k * 6)) = some (.float .f64 x.1) ∧
    X.cell? ⟨(b.add (k * 6)).block, (b.add (k * 6)).off + 1, none⟩ = some (.int .i64 x.2.1) ∧ X.cell? ⟨(b.add (k * 6)).block, (b.add (k * 6)).off + 2, none⟩ = some (.int .i64 x.2.2.1) ∧ X.cell? ⟨(b.add (k * 6)).block, (b.add (k * 6)).off + 3, none⟩ = some (.int .i64 x.2.2.2.1) ∧ X.cell? ⟨(b.add (k * 6)).block, (b.add (k * 6)).off + 4, none⟩ = some (.int .i64 x.2.2.2.2.1) ∧ X.cell? ⟨(b.add (k * 6)).block, (b.add (k * 6)).off + 5, none⟩ = some (.int .i64 x.2.2.2.2.2)
    from ⟨keepc hX hb, keepc hX b0, keepc hX b1, keepc hX t0, keepc hX c0, keepc hX d0, keepc hX d1, keepc hX d2, keepc hX d3, keepc hX d4, keepc hX d5⟩))
  have iI : (i : Int) < (l.L.length : Int) := by omega
  have kI : (k : Int) < (s.L.length : Int) := by omega
  have iJ : (0 : Int) ≤ (i : Int) := by omega
  have kJ : (0 : Int) ≤ (k : Int) := by omega
  have HA := hide ha
  have HR := hide hR
  obtain ⟨lA, lc, ll⟩ := l
  obtain ⟨sA, sc, sl⟩ := s
  simp only [Sl.val] at *
  subst hA hB
  clear h hb b0 b1 t0 c0 d0 d1 d2 d3 d4 d5 hS hs hk hx ha hR
  obtain ⟨xt, xs, xn, xd, xp, xf⟩ := x
  unfold dnV
  simp only at *
  generalize sl.length = sn at *
  generalize ll.length = ln at *
  go_enter Try.func95, Try.ntmps95
  go_upto_region 1 with fail
  refine wp_region_orders (fun X => X.cell? ⟨gb, 0, none⟩ = some (.pointer (some ⟨g, 0, none⟩)) ∧ X.cell? ⟨g, 0, none⟩ = some (.slice (some a) ln lc) ∧ X.cell? ⟨g, 1, none⟩ = some (.slice (some ⟨ga, 0, none⟩) ln ln) ∧ X.cell? ⟨ga, i, none⟩ = some (.int .i64 (k : Int)) ∧ X.cell? (a.add i) = some (.slice (some b) sn sc) ∧ X.cell? (b.add (k * 6)) = some (.float .f64 xt) ∧
    X.cell? ⟨(b.add (k * 6)).block, (b.add (k * 6)).off + 1, none⟩ = some (.int .i64 xs) ∧ X.cell? ⟨(b.add (k * 6)).block, (b.add (k * 6)).off + 2, none⟩ = some (.int .i64 xn) ∧ X.cell? ⟨(b.add (k * 6)).block, (b.add (k * 6)).off + 3, none⟩ = some (.int .i64 xd) ∧ X.cell? ⟨(b.add (k * 6)).block, (b.add (k * 6)).off + 4, none⟩ = some (.int .i64 xp) ∧ X.cell? ⟨(b.add (k * 6)).block, (b.add (k * 6)).off + 5, none⟩ = some (.int .i64 xf))
    [0, 1, 2, 3, 4, 5, 6, 7, 8, 9, 10, 11, 12, 13, 14, 15] 16 0 [[]] (by kernel_rfl) (by kernel_rfl) (HC.out _ HA.out.drew) ?_
  simp only [List.filterMap_cons, List.filterMap_nil, List.getElem?_cons_succ, List.getElem?_cons_zero, List.drop_succ_cons, List.drop_zero]
  repeat (refine head_step ?_ (by rfl) ?_ (fun _ _ _ h => h) ?_; rotate_left; (intro w' hs; obtain ⟨z0, z1, z2, z3, z4, z5, z6, z7, z8, z9, z10⟩ := hs; go_simp; (try with_reducible rfl)); (try simp only [Act.put, List.setIfInBounds_toArray, List.set_cons_zero, List.set_cons_succ]))
  refine head_nil ?_
  intro o ho
  simp only [List.mem_cons, List.not_mem_nil, or_false] at ho
  subst ho
  refine mid_nil ?_
  have hR2 := HR.out.drew
  have HB2 := hide HA.out.drew
  generalize World.drew (World.alloc w _) = w2 at *
  have r0 := hR2.cell 0
  have r1 := hR2.cell 1
  have r2 := hR2.cell 2
  have r3 := hR2.cell 3
  have r4 := hR2.cell 4
  have r5 := hR2.cell 5
  simp only [List.getElem?_toArray, List.getElem?_cons_zero, List.getElem?_cons_succ] at r0 r1 r2 r3 r4 r5
  have f0 := hR2.frozen 0
  have f1 := hR2.frozen 1
  have f2 := hR2.frozen 2
  have f3 := hR2.frozen 3
  have f4 := hR2.frozen 4
  have f5 := hR2.frozen 5
  clear hR2 HC HA HR
  go_wp2_with fail
  refine bodyPost_ret (v := .agg #[.float .f64 xt, .int .i64 xs, .int .i64 xn, .int .i64 xd, .int .i64 xp, .int .i64 xf]) (by simp [results, Try.results95, go_sem, r0, r1, r2, r3, r4, r5]) rfl ⟨rfl, below_set6 HB2.out (Nat.le_refl _) _ _ _ _ _ _⟩
/-- What the best comes to. -/
def bestI : Option Nat → Int
  | none => -1
  | some j => (j : Int)
theorem best_skip {M : List (List Dn)} {k : Nat} (h : M[k]? = some []) : Mrg.bestUp cD M (k + 1) = Mrg.bestUp cD M k := by
  conv => lhs; unfold Mrg.bestUp
  rw [h]
theorem best_first {M : List (List Dn)} {k : Nat} {x : Dn} {r : List Dn} (h : M[k]? = some (x :: r)) (hb : Mrg.bestUp cD M k = none) : Mrg.bestUp cD M (k + 1) = some k := by
  conv => lhs; unfold Mrg.bestUp
  rw [h]
  simp only
  rw [hb]
theorem best_other {M : List (List Dn)} {k j : Nat} {x y : Dn} {r t : List Dn} (h : M[k]? = some (x :: r)) (hb : Mrg.bestUp cD M k = some j) (hj : M[j]? = some (y :: t)) : (cD x y < 0 → Mrg.bestUp cD M (k + 1) = some k) ∧ (¬ cD x y < 0 → Mrg.bestUp cD M (k + 1) = some j) := by
  have e : Mrg.bestUp cD M (k + 1) = if cD x y < 0 then some k else some j := by
    conv => lhs; unfold Mrg.bestUp
    rw [h]
    simp only
    rw [hb]
    simp only
    rw [hj]
  rw [e]
  exact ⟨fun h => if_pos h, fun h => if_neg h⟩
def NxTo (w0 w : World) (g ga : Nat) (l : Sl (Sl Dn)) (ks : List Nat) (e : Ending) (w' : World) : Prop := match Mrg.bestUp cD (lefts l.L ks) l.L.length with
  | none => e = .returned (.tuple #[dnV (0, 0, 0, 0, 0, 0), .bool false]) ∧ Rw34 w0 g ga l ks w' ∧ w.grownBy w' (some ga)
  | some j => ∃ (s : Sl Dn) (k : Nat) (x : Dn), l.L[j]? = some s ∧ ks[j]? = some k ∧ s.L[k]? = some x ∧ e = .returned (.tuple #[dnV x, .bool true]) ∧ Rw34 w0 g ga l (ks.set j (k + 1)) w' ∧ w.grownBy w' (some ga)
theorem Rw34.far {w0 w : World} {g ga : Nat} {l : Sl (Sl Dn)} {ks : List Nat} (h : Rw34 w0 g ga l ks w) {p : Addr} (hp : w0.heap.size ≤ p.block) (h1 : p.block ≠ g) (h2 : p.block ≠ ga) (u : Value) : Rw34 w0 g ga l ks (w.setCell p u) :=
  ⟨h.bel.setCell hp u, h.box.far (Ne.symm h1) u, h.at_.far (Ne.symm h2) u, h.len, h.rows, h.le, h.ge⟩
theorem Rw34.far6 {w0 w : World} {g ga : Nat} {l : Sl (Sl Dn)} {ks : List Nat} (h : Rw34 w0 g ga l ks w) {p : Nat} (hp : w0.heap.size ≤ p) (h1 : p ≠ g) (h2 : p ≠ ga) (a b c d e f : Value) : Rw34 w0 g ga l ks ((((((w.setCell ⟨p, 0, none⟩ a).setCell ⟨p, 1, none⟩ b).setCell ⟨p, 2, none⟩ c).setCell ⟨p, 3, none⟩ d).setCell ⟨p, 4, none⟩ e).setCell ⟨p, 5, none⟩ f) :=
  (((((h.far (p := ⟨p, 0, none⟩) hp h1 h2 _).far (p := ⟨p, 1, none⟩) hp h1 h2 _).far (p := ⟨p, 2, none⟩) hp h1 h2 _).far (p := ⟨p, 3, none⟩) hp h1 h2 _).far (p := ⟨p, 4, none⟩) hp h1 h2 _).far (p := ⟨p, 5, none⟩) hp h1 h2 _
theorem only_set6 {w W : World} {ga : Nat} (h : w.grownBy W (some ga)) {p : Nat} (hp : w.heap.size ≤ p) (a b c d e f : Value) : w.grownBy ((((((W.setCell ⟨p, 0, none⟩ a).setCell ⟨p, 1, none⟩ b).setCell ⟨p, 2, none⟩ c).setCell ⟨p, 3, none⟩ d).setCell ⟨p, 4, none⟩ e).setCell ⟨p, 5, none⟩ f) (some ga) :=
  only_setCell (only_setCell (only_setCell (only_setCell (only_setCell (only_setCell h (p := ⟨p, 0, none⟩) (.inr hp) _) (p := ⟨p, 1, none⟩) (.inr hp) _) (p := ⟨p, 2, none⟩) (.inr hp) _) (p := ⟨p, 3, none⟩) (.inr hp) _) (p := ⟨p, 4, none⟩) (.inr hp) _) (p := ⟨p, 5, none⟩) (.inr hp) _
structure Nx34 (w0 w : World) (g ga : Nat) (l : Sl (Sl Dn)) (ks : List Nat) (wr : World) : Prop where
  rw_ : Rw34 w0 g ga l ks wr
  bel : Below w.heap.size w wr
  cap : Blk wr w.heap.size 104 #[.pointer (some ⟨g, 0, none⟩)]
  res : Blk wr (w.heap.size + 1) 39 #[.float .f64 0, .int .i64 0, .int .i64 0, .int .i64 0, .int .i64 0, .int .i64 0]
theorem Nx34.below {w0 w : World} {g ga : Nat} {l : Sl (Sl Dn)} {ks : List Nat} {wr wr' : World} (h : Nx34 w0 w g ga l ks wr) (hb : Below wr.heap.size wr wr') : Nx34 w0 w g ga l ks wr' := ⟨h.rw_.below hb, below_after h.bel hb, h.cap.below hb h.cap.lt, h.res.below hb h.res.lt⟩
def NxRel (w0 w : World) (g ga : Nat) (l : Sl (Sl Dn)) (ks : List Nat) (b i : Value) (wr : World) : Prop := ∃ k : Nat, k ≤ l.L.length ∧ i = .int .i64 k ∧ b = .int .i64 (bestI (Mrg.bestUp cD (lefts l.L ks) k)) ∧ Nx34 w0 w g ga l ks wr
set_option maxHeartbeats 8000000 in
theorem next34_any {w0 w : World} {g ga : Nat} {l : Sl (Sl Dn)} {ks : List Nat} (h : Rw34 w0 g ga l ks w) : Calls Try.prog 68 #[.pointer (some ⟨g, 0, none⟩), .func (.func 69) #[] #[]] w (NxTo w0 w g ga l ks) := by
  have hmf : ∀ (fn : Fn) (first cap : Array Value) (w : World), (Instr.makeFunc fn first cap).run Try.prog w = .ok (.func fn first cap) w := fun _ _ _ _ => rfl
  obtain ⟨hb0, hC, hR⟩ := box2 w #[.pointer (some ⟨g, 0, none⟩)] #[.float .f64 0, .int .i64 0, .int .i64 0, .int .i64 0, .int .i64 0, .int .i64 0] 104 39
  have HS := hide (show Nx34 w0 w g ga l ks _ from ⟨h.below hb0, hb0, hC, hR⟩)
  have hlc := h.rows.2
  have HLK := hide h.len
  have HGL := hide (show g < w.heap.size ∧ ga < w.heap.size from ⟨h.box.lt, h.at_.lt⟩)
  have HW0 := hide h.bel.size
  have HAT := hide (fun (wr : World) (hS : Nx34 w0 w g ga l ks wr) {i : Nat} (hi : i < l.L.length) => (show ∃ s k, l.L[i]? = some s ∧ ks[i]? = some k from ⟨_, _, List.getElem?_eq_getElem hi, List.getElem?_eq_getElem (by rw [h.len]; exact hi)⟩))
  have b0 := fun (wr : World) (hS : Nx34 w0 w g ga l ks wr) => hS.rw_.box.cell 0
  have HB0 := hide b0
  obtain ⟨Post, hPost⟩ : ∃ P : Ending → World → Prop, P = NxTo w0 w g ga l ks := ⟨_, rfl⟩
  rw [← hPost]
  have HPO := hide hPost
  clear hPost hb0 hC hR h b0
  go_enter Try.func68, Try.ntmps68
  go_upto_region 3 with fail
  generalize (World.alloc (World.alloc w _) _) = w1 at *
  have hS := HS.out
  have c0 := hS.cap.cell 0
  have d0 := hS.rw_.box.cell 0
  simp only [List.getElem?_toArray, List.getElem?_cons_zero, List.getElem?_cons_succ] at c0 d0
  unfold Sl.val at d0
  clear hS
  go_wp2_with fail
  go_loopw [6, 17] (fun b i wr => NxRel w0 w g ga l ks b i wr) (fun _ i _ => l.L.length - (intOf i).toNat)
  case atStart => exact ⟨0, Nat.zero_le _, rfl, rfl, HS.out⟩
  case round =>
    clear c0 d0 HS
    obtain ⟨i, hi, rfl, rfl, hS⟩ := hrel
    by_cases hlt : i < l.L.length
    · obtain ⟨sq, k, hs, hk⟩ := HAT.out wr hS hlt
      have hle := hS.rw_.le i sq k hs hk
      obtain ⟨a, hA, c4, hSA⟩ := hS.rw_.row hs
      have c3 := hS.rw_.cell hk
      have c0 := hS.cap.cell 0
      have c1 := hS.rw_.box.cell 0
      have c2 := hS.rw_.box.cell 1
      simp only [List.getElem?_toArray, List.getElem?_cons_zero, List.getElem?_cons_succ] at c0 c1 c2
      have hM := lefts_at hs hk
      have iI : (i : Int) < (l.L.length : Int) := by omega
      have iJ : (0 : Int) ≤ (i : Int) := by omega
      have kJ : (0 : Int) ≤ (k : Int) := by omega
      have hsc := hSA.2
      have hlc2 := hS.rw_.rows.2
      have HH := fun (W : World) (hb : Below wr.heap.size wr W) x hx => head34_any (hS.below hb).rw_ ((hS.below hb).cap.cell 0) hs hk (x := x) hx
      have HHJ := hide (fun (W : World) (hb : Below wr.heap.size wr W) (j : Nat) s' k' x' h1 h2 h3 => head34_any (hS.below hb).rw_ ((hS.below hb).cap.cell 0) (i := j) (s := s') (k := k') (x := x') h1 h2 h3)
      have HH := hide HH
      obtain ⟨p, hO, h0, hne, hI⟩ := bel_hidden wr wr.drew (Below.refl _ _).drew
      have HBI := hide (fun z : Wo p => hS.below (hI z))
      have HIN := hide hI
      have z0 := fun z : Wo p => keepc (hI z) c0
      have z1 := fun z : Wo p => keepc (hI z) c1
      have z2 := fun z : Wo p => keepc (hI z) c2
      have z3 := fun z : Wo p => keepc (hI z) c3
      have z4 := fun z : Wo p => keepc (hI z) c4
      have HP := hide hO
      have H0 := hide h0
      have HSS := hide hS
      have HHS := hide hs
      have HHK := hide hk
      have HSA := hide hSA
      clear hI hO h0 hS c0 c1 c2 c3 c4 hs hk hSA
      unfold Sl.val at z1 z4
      rw [hA] at z1
      by_cases hkl : k < sq.L.length
      · have hx := List.getElem?_eq_getElem hkl
        have hdr : sq.L.drop k = sq.L[k] :: sq.L.drop (k + 1) := List.drop_eq_getElem_cons hkl
        rw [hdr] at hM
        have HX := hide hx
        generalize sq.L[k] = x at *
        generalize sq.L.drop (k + 1) = r at *
        have dk : decide ((k : Int) < (sq.L.length : Int)) = true := decide_eq_true (by omega)
        have dk2 : decide (k < sq.L.length) = true := decide_eq_true hkl
        clear hx hdr
        cases hB : Mrg.bestUp cD (lefts l.L ks) i with
        | none =>
          have HB := hide (best_first hM hB)
          clear hM hB HH HHJ
          simp only [bestI]
          go_upto_region 6 with fail
          refine wp_region_quietC (by kernel_rfl) (by kernel_rfl) H0.out ?_
          repeat (go_big_quiet_step (fail))
          refine wpQuiet_nil ?_
          intro _ hw'
          obtain ⟨z, rfl⟩ := hw'
          have hi2 := hide (HBI.out z)
          generalize z.W = W1 at *
          clear z0 z1 z2 z3 z4 HBI HP H0 hne HIN z HSS
          go_wp2_with fail
          go_roundw
          case rel => exact ⟨i + 1, by omega, by go_num, by rw [HB.out]; rfl, hi2.out⟩
          case measure => simp [intOf]; omega
        | some j =>
          have hbs := Mrg.bestUp_some hB
          obtain ⟨hji, y, t, hMj⟩ := hbs
          have HB := hide (best_other hM hB hMj)
          obtain ⟨sj, kj, hsj, hkj⟩ := HAT.out wr HSS.out (show j < l.L.length by omega)
          have hMj2 := lefts_at hsj hkj
          have hy : sj.L[kj]? = some y := by
            have e : sj.L.drop kj = y :: t := Option.some.inj (hMj2.symm.trans hMj)
            have := congrArg (fun q : List Dn => q[0]?) e
            simpa using this
          have h1 := fun z : Wo p => HH.out z.W (HIN.out z) x HX.out
          have h2 := fun z : Wo p => HHJ.out z.W (HIN.out z) j sj kj y hsj hkj hy
          have h3 := fun W => less34_any x y W
          have jJ : (0 : Int) ≤ (j : Int) := by omega
          have dj : decide ((j : Int) < 0) = false := decide_eq_false (by omega)
          generalize cD x y = C at *
          clear hM hB HH HHJ hMj hMj2 hy hsj hkj
          simp only [bestI]
          go_upto_region 6 with fail
          refine wp_region_quietC (by kernel_rfl) (by kernel_rfl) H0.out ?_
          repeat (go_big_quiet_step (first
            | (go_at_call 95; with_reducible exact Calls.quietC HP.out (h1 _))
            | (go_at_call 95; with_reducible exact Calls.quietC HP.out (h2 _))
            | (go_at_call 69; with_reducible exact Calls.quietC HP.out (h3 _))))
          refine wpQuiet_nil ?_
          intro _ hw'
          obtain ⟨z, rfl⟩ := hw'
          have hi2 := hide (HBI.out z)
          generalize z.W = W1 at *
          clear z0 z1 z2 z3 z4 HBI HP H0 hne HIN z HSS h1 h2 h3 dj
          by_cases hC : C < 0
          · have HG := hide (HB.out.1 hC)
            go_wp2_with fail
            go_roundw
            case rel => exact ⟨i + 1, by omega, by go_num, by rw [HG.out]; rfl, hi2.out⟩
            case measure => simp [intOf]; omega
          · have HG := hide (HB.out.2 hC)
            go_wp2_with fail
            go_roundw
            case rel => exact ⟨i + 1, by omega, by go_num, by rw [HG.out]; rfl, hi2.out⟩
            case measure => simp [intOf]; omega
      · have hdr : sq.L.drop k = [] := List.drop_eq_nil_of_le (by omega)
        rw [hdr] at hM
        have HB := hide (best_skip hM)
        have dk : decide ((k : Int) < (sq.L.length : Int)) = false := decide_eq_false (by omega)
        have dk2 : decide (k < sq.L.length) = false := decide_eq_false hkl
        clear hM hdr HH HHJ
        generalize Mrg.bestUp cD (lefts l.L ks) i = B at *
        go_upto_region 6 with fail
        refine wp_region_quietC (by kernel_rfl) (by kernel_rfl) H0.out ?_
        repeat (go_big_quiet_step (fail))
        refine wpQuiet_nil ?_
        intro _ hw'
        obtain ⟨z, rfl⟩ := hw'
        have hi2 := hide (HBI.out z)
        generalize z.W = W1 at *
        clear z0 z1 z2 z3 z4 HBI HP H0 hne HIN z HSS
        go_wp2_with fail
        go_roundw
        case rel => exact ⟨i + 1, by omega, by go_num, by rw [HB.out], hi2.out⟩
        case measure => simp [intOf]; omega
    · obtain rfl : i = l.L.length := by omega
      have c0 := hS.cap.cell 0
      have hgl : g < w.heap.size ∧ ga < w.heap.size := HGL.out
      cases hB : Mrg.bestUp cD (lefts l.L ks) l.L.length with
      | none =>
        have ha := (Below.refl wr.heap.size wr).alloc (Nat.le_refl _) (.cells #[.float .f64 0, .int .i64 0, .int .i64 0, .int .i64 0, .int .i64 0, .int .i64 0] 39)
        have hS2 := hS.below ha
        have hN := Blk.new wr 39 #[.float .f64 0, .int .i64 0, .int .i64 0, .int .i64 0, .int .i64 0, .int .i64 0]
        have hRE := hS2.res
        have n0 := hN.cell 0
        have n1 := hN.cell 1
        have n2 := hN.cell 2
        have n3 := hN.cell 3
        have n4 := hN.cell 4
        have n5 := hN.cell 5
        simp only [List.getElem?_toArray, List.getElem?_cons_zero, List.getElem?_cons_succ] at n0 n1 n2 n3 n4 n5
        have r0 := hRE.cell 0
        have r1 := hRE.cell 1
        have r2 := hRE.cell 2
        have r3 := hRE.cell 3
        have r4 := hRE.cell 4
        have r5 := hRE.cell 5
        simp only [List.getElem?_toArray, List.getElem?_cons_zero, List.getElem?_cons_succ] at r0 r1 r2 r3 r4 r5
        have f0 := hS2.res.frozen 0
        have f1 := hS2.res.frozen 1
        have f2 := hS2.res.frozen 2
        have f3 := hS2.res.frozen 3
        have f4 := hS2.res.frozen 4
        have f5 := hS2.res.frozen 5
        have hge := hS2.bel.size
        have hlt2 := hS.res.lt
        have HEND := hide (fun a b c d e f => (show Post (.returned (.tuple #[dnV (0, 0, 0, 0, 0, 0), .bool false])) _ by
          rw [HPO.out]
          unfold NxTo
          rw [hB]
          exact ⟨rfl, hS2.rw_.far6 (p := w.heap.size + 1) (by have := HW0.out; omega) (by omega) (by omega) a b c d e f, only_set6 (only_of_below hS2.bel _) (p := w.heap.size + 1) (by omega) a b c d e f⟩))
        clear hS hS2 ha hN hRE hB HAT hlc
        simp only [bestI]
        go_upto_region 10 with fail
        generalize World.alloc wr _ = w2 at *
        go_wp2_with fail
        refine bodyPost_ret (v := .tuple #[dnV (0, 0, 0, 0, 0, 0), .bool false]) (by simp [results, Try.results68, go_sem, r0, r1, r2, r3, r4, r5]) rfl (HEND.out _ _ _ _ _ _)
      | some j =>
        obtain ⟨hji, y, t, hMj⟩ := Mrg.bestUp_some hB
        obtain ⟨sj, kj, hsj, hkj⟩ := HAT.out wr hS hji
        have hMj2 := lefts_at hsj hkj
        have hy : sj.L[kj]? = some y := by
          have e : sj.L.drop kj = y :: t := Option.some.inj (hMj2.symm.trans hMj)
          have := congrArg (fun q : List Dn => q[0]?) e
          simpa using this
        have hkl := (List.getElem?_eq_some_iff.1 hy).1
        have hl63 := (hS.rw_.row hsj)
        have hk63 : sj.L.length ≤ 9223372036854775807 := by obtain ⟨_, _, _, h⟩ := hl63; have := h.2; omega
        have ha := (Below.refl wr.heap.size wr).alloc (Nat.le_refl _) (.cells #[.float .f64 0, .int .i64 0, .int .i64 0, .int .i64 0, .int .i64 0, .int .i64 0] 39)
        have hS2 := hS.below ha
        have jJ : (0 : Int) ≤ (j : Int) := by omega
        have jI : (j : Int) < (l.L.length : Int) := by omega
        have jn : ¬ (j : Int) < 0 := by omega
        have kJ : (0 : Int) ≤ (kj : Int) := by omega
        have wK : IntKind.i64.wrap ((kj : Int) + 1) = (kj : Int) + 1 := IntWalk.i64_in _ (by omega)
        have HH := hide (head34_any hS2.rw_ (hS2.cap.cell 0) hsj hkj hy)
        have HS2 := hide hS2
        have HEND := hide (fun (W : World) (hS3 : Nx34 w0 w g ga l ks W) a b c d e f => (show Post (.returned (.tuple #[dnV y, .bool true])) _ by
          rw [HPO.out]
          unfold NxTo
          rw [hB]
          have hge := hS3.bel.size
          exact ⟨sj, kj, y, hsj, hkj, hy, rfl, (hS3.rw_.step hsj hkj hkl).far6 (p := w.heap.size + 1) (by have := HW0.out; omega) (by omega) (by omega) a b c d e f, only_set6 (only_setCell (only_of_below hS3.bel _) (p := ⟨ga, j, none⟩) (.inl rfl) _) (p := w.heap.size + 1) (by omega) a b c d e f⟩))
        have HKJ := hide hkj
        clear hS hS2 ha hB HAT hlc hMj hMj2 hy hsj hkj hl63 hkl hk63 c0
        simp only [bestI]
        go_upto_region 10 with fail
        generalize World.alloc wr _ = w2 at *
        go_wp2_with fail
        refine HH.out.mono ?_
        rintro e w3 ⟨rfl, hb3⟩
        have ha := (Below.refl w3.heap.size w3).alloc (Nat.le_refl _) (.cells #[.float .f64 y.1, .int .i64 y.2.1, .int .i64 y.2.2.1, .int .i64 y.2.2.2.1, .int .i64 y.2.2.2.2.1, .int .i64 y.2.2.2.2.2] 39)
        have hN := Blk.new w3 39 #[.float .f64 y.1, .int .i64 y.2.1, .int .i64 y.2.2.1, .int .i64 y.2.2.2.1, .int .i64 y.2.2.2.2.1, .int .i64 y.2.2.2.2.2]
        have HS3 := hide ((HS2.out.below hb3).below ha)
        have hn3 := (HS2.out.below hb3).res.lt
        obtain ⟨yt, ys, yn, yd, yp, yf⟩ := y
        unfold dnV at HEND ⊢
        simp only at hN ha HS3 HEND ⊢
        clear hb3 ha HS2 HH
        have c0 := HS3.out.cap.cell 0
        have c1 := HS3.out.rw_.box.cell 1
        have c2 := HS3.out.rw_.cell HKJ.out
        have fa := HS3.out.rw_.at_.frozen j
        have hRE := HS3.out.res
        simp only [List.getElem?_toArray, List.getElem?_cons_zero, List.getElem?_cons_succ] at c0 c1
        have n0 := hN.cell 0
        have n1 := hN.cell 1
        have n2 := hN.cell 2
        have n3 := hN.cell 3
        have n4 := hN.cell 4
        have n5 := hN.cell 5
        simp only [List.getElem?_toArray, List.getElem?_cons_zero, List.getElem?_cons_succ] at n0 n1 n2 n3 n4 n5
        have r0 := hRE.cell 0
        have r1 := hRE.cell 1
        have r2 := hRE.cell 2
        have r3 := hRE.cell 3
        have r4 := hRE.cell 4
        have r5 := hRE.cell 5
        simp only [List.getElem?_toArray, List.getElem?_cons_zero, List.getElem?_cons_succ] at r0 r1 r2 r3 r4 r5
        have hna : w3.heap.size ≠ ga := by omega
        have hra : w.heap.size + 1 ≠ ga := by omega
        have f0 := hRE.frozen 0
        have f1 := hRE.frozen 1
        have f2 := hRE.frozen 2
        have f3 := hRE.frozen 3
        have f4 := hRE.frozen 4
        have f5 := hRE.frozen 5
        clear hN hRE HKJ
        have HE := hide (HEND.out _ HS3.out)
        clear HEND
        go_upto_region 13 with fail
        generalize World.alloc w3 _ = w4 at *
        go_wp2_with fail
        refine bodyPost_ret (v := .tuple #[.agg #[.float .f64 yt, .int .i64 ys, .int .i64 yn, .int .i64 yd, .int .i64 yp, .int .i64 yf], .bool true]) (by simp [results, Try.results68, go_sem, r0, r1, r2, r3, r4, r5]) rfl (HE.out _ _ _ _ _ _)
end Go.Proofs.Ytpfcmfannkbipaa
end
