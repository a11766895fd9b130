/- The walks of rec's GetEvent and Of. -/
import Derived.Test.YtpgbfglfmmohdaaRdr7
set_option linter.unusedVariables false
set_option maxRecDepth 20000
namespace Go.Proofs.Ytpgbfglfmmohdaa
open Go.RowKit Go.Deep

attribute [local go_sem] run_store_float
/-! What the reader tells from k on. -/
def geT (s : ByteArray) (k : Nat) : Nat := timeN s k
def geS (s : ByteArray) (k : Nat) : Int := wrap64 (byteN s (wordK s k) - 1)
def geN (s : ByteArray) (k : Nat) : Int := wordN s (byteK s (wordK s k))
def geD (s : ByteArray) (k : Nat) : Int := byteN s (wordK s (byteK s (wordK s k)))
def geP (s : ByteArray) (k : Nat) : Int := wordN s (byteK s (wordK s (byteK s (wordK s k))))
def geK (s : ByteArray) (k : Nat) : Nat := wordK s (byteK s (wordK s (byteK s (wordK s k))))
def geSh (s : ByteArray) (k : Nat) (sh : Bool) : Bool := wordS s (byteK s (wordK s (byteK s (wordK s k)))) (byteS s (wordK s (byteK s (wordK s k))) (wordS s (byteK s (wordK s k)) (byteS s (wordK s k) (wordS s k sh))))
def ofP (s : ByteArray) (k : Nat) : Int := wordN s (wordK s (byteK s (wordK s k)))
def ofK (s : ByteArray) (k : Nat) : Nat := wordK s (wordK s (byteK s (wordK s k)))
def ofSh (s : ByteArray) (k : Nat) (sh : Bool) : Bool := wordS s (wordK s (byteK s (wordK s k))) (wordS s (byteK s (wordK s k)) (byteS s (wordK s k) (wordS s k sh)))
theorem geK_le {s : ByteArray} {k : Nat} (h : k ≤ s.size) : geK s k ≤ s.size := wordK_le (byteK_le (wordK_le (byteK_le (wordK_le h))))
theorem ofK_le {s : ByteArray} {k : Nat} (h : k ≤ s.size) : ofK s k ≤ s.size := wordK_le (wordK_le (byteK_le (wordK_le h)))
theorem event_any (s : ByteArray) (k : Nat) (sh : Bool) (g : Nat) (w : World) (h : RdAt w g s k sh) (hk : k ≤ s.size) (hm : s.size ≤ 9223372036854775807) :
    Calls Try.prog 100 #[.pointer (some ⟨g, 0, none⟩), .func (.func 101) #[.pointer (some ⟨g, 0, none⟩)] #[]] w fun e w' => e = .returned (.agg #[.float .f64 (geT s k), .int .i64 (geS s k), .int .i64 (geN s k), .int .i64 (geD s k), .int .i64 (geP s k)]) ∧ RdTo w w' g s (geK s k : Nat) (geSh s k sh) := event_raw s k sh g w #[] h hk hm
theorem eventof_any (s : ByteArray) (k : Nat) (sh : Bool) (g d : Nat) (D : Int) (w : World) (h : RdAt w g s k sh) (hv : Blk w d 3 #[.int .i64 D]) (hne : d ≠ g) (hk : k ≤ s.size) (hm : s.size ≤ 9223372036854775807) :
    Calls Try.prog 100 #[.pointer (some ⟨g, 0, none⟩), .func (.func 104) #[] #[.pointer (some ⟨d, 0, none⟩)]] w fun e w' => e = .returned (.agg #[.float .f64 (geT s k), .int .i64 (geS s k), .int .i64 (geN s k), .int .i64 D, .int .i64 (ofP s k)]) ∧ RdTo w w' g s (ofK s k : Nat) (ofSh s k sh) := event_of s k sh g d D w h hv hne hk hm
def orZ (e : Int) (cs : Array Value) (z : Array Value) : Value := .agg (if e = 0 then cs else z)
def evC (t : Nat) (a b c d : Int) : Array Value := #[.float .f64 t, .int .i64 a, .int .i64 b, .int .i64 c, .int .i64 d]
def gevE (s : ByteArray) : Int := endE s (geK s 0 : Nat) (geSh s 0 false) (rightE (geT s 0) (geS s 0) (geN s 0) (geD s 0))
def gevV (s : ByteArray) : Value := orZ (gevE s) (evC (geT s 0) (geS s 0) (geN s 0) (geD s 0) (geP s 0)) evZ
theorem RdTo.below_ {w w1 W0 : World} {g : Nat} {s : ByteArray} {k : Int} {sh : Bool} (h : RdTo W0 w1 g s k sh) (hb : Below w.heap.size w W0) (hg : w.heap.size ≤ g) : Below w.heap.size w w1 :=
  hb.grown h.2 hb.size (fun k hk => by injection hk with hk; omega)
theorem getevent_any (s : ByteArray) (w : World) (hm : s.size ≤ 9223372036854775807) : Calls Try.prog 66 #[.string s] w fun e w' => e = .returned (.tuple #[gevV s, .int .i64 (gevE s)]) ∧ Below w.heap.size w w' := by
  have hz : ∀ o, (w.alloc o).heap.size = w.heap.size + 1 := fun o => Array.size_push ..
  have hR := (Blk.new w 70 evZ).alloc (.cells #[.string s, .int .i64 0, .bool false] 119)
  have hG := Blk.new (w.alloc (.cells evZ 70)) 119 #[.string s, .int .i64 0, .bool false]
  have hb : Below w.heap.size w ((w.alloc (.cells evZ 70)).alloc (.cells #[.string s, .int .i64 0, .bool false] 119)) := Below.alloc (Below.alloc (Below.refl _ _) (Nat.le_refl _) _) (by rw [hz]; omega) _
  rw [hz] at hG
  clear hz
  have hrd := RdAt.of_blk hG
  have hev := hide fun W h => event_any s 0 false (w.heap.size + 1) W h (Nat.zero_le _) hm
  unfold evZ at hR hrd hb
  clear hG
  go_enter Try.func66, Try.ntmps66
  go_wp2_with fail
  generalize (w.alloc _).alloc _ = W0 at *
  refine (hev.out _ hrd).mono ?_
  rintro e w1 ⟨rfl, h1⟩
  have hR1 := h1.blk hR (by omega)
  have hb1 := h1.below_ hb (by omega)
  have rd1 := h1.1
  clear h1 hR hb
  go_wp2_with fail
  have hX1 := Blk.new w1 70 #[.float .f64 (geT s 0), .int .i64 (geS s 0), .int .i64 (geN s 0), .int .i64 (geD s 0), .int .i64 (geP s 0)]
  have hR2 := hR1.alloc (.cells #[.float .f64 (geT s 0), .int .i64 (geS s 0), .int .i64 (geN s 0), .int .i64 (geD s 0), .int .i64 (geP s 0)] 70)
  have rd2 := rd1.below ((Below.refl _ _).alloc (Nat.le_refl _) (.cells #[.float .f64 (geT s 0), .int .i64 (geS s 0), .int .i64 (geN s 0), .int .i64 (geD s 0), .int .i64 (geP s 0)] 70))
  have hb2 := hb1.alloc hb1.size (.cells #[.float .f64 (geT s 0), .int .i64 (geS s 0), .int .i64 (geN s 0), .int .i64 (geD s 0), .int .i64 (geP s 0)] 70)
  have hne : w.heap.size ≠ w1.heap.size := Nat.ne_of_lt hR1.lt
  generalize w1.alloc (.cells #[.float .f64 (geT s 0), .int .i64 (geS s 0), .int .i64 (geN s 0), .int .i64 (geD s 0), .int .i64 (geP s 0)] 70) = w2 at *
  generalize w1.heap.size = x at *
  clear hR1 hb1 rd1
  refine (right_any _ _ _ _ _ _).mono ?_
  rintro e w3 ⟨rfl, hb3⟩
  have hR3 := hR2.below hb3 hR2.lt
  have hX3 := hX1.below hb3 hX1.lt
  have rd3 := rd2.below hb3
  have hB3 := below_after hb2 hb3
  clear hR2 hX1 rd2 hb2 hb3
  go_wp2_with fail
  refine (end_any _ _ _ _ _ _ rd3).mono ?_
  rintro e w4 ⟨rfl, m, rfl⟩
  have hR4 := hR3.drewN m
  have hX4 := hX3.drewN m
  have hb4 := below_drewN hB3 m
  clear hR3 hX3 rd3 hB3
  generalize w3.drewN m = W4 at *
  have x0 := hX4.cell 0
  have x1 := hX4.cell 1
  have x2 := hX4.cell 2
  have x3 := hX4.cell 3
  have x4 := hX4.cell 4
  have r0 := hR4.cell 0
  have r1 := hR4.cell 1
  have r2 := hR4.cell 2
  have r3 := hR4.cell 3
  have r4 := hR4.cell 4
  have f0 := hR4.frozen 0
  have f1 := hR4.frozen 1
  have f2 := hR4.frozen 2
  have f3 := hR4.frozen 3
  have f4 := hR4.frozen 4
  simp only [List.getElem?_toArray, List.getElem?_cons_zero, List.getElem?_cons_succ] at x0 x1 x2 x3 x4 r0 r1 r2 r3 r4
  obtain ⟨E, hEq⟩ : ∃ E, gevE s = E := ⟨_, rfl⟩
  have HV : Hid (Ending.returned (.tuple #[orZ E #[.float .f64 (geT s 0), .int .i64 (geS s 0), .int .i64 (geN s 0), .int .i64 (geD s 0), .int .i64 (geP s 0)] #[.float .f64 0, .int .i64 0, .int .i64 0, .int .i64 0, .int .i64 0], .int .i64 E]) = .returned (.tuple #[gevV s, .int .i64 (gevE s)])) := by
    rw [← hEq]
    exact rfl
  have HE : endE s (geK s 0 : Nat) (geSh s 0 false) (rightE (geT s 0) (geS s 0) (geN s 0) (geD s 0)) = E := hEq
  simp only [HE]
  clear HE hEq
  by_cases hE : E = 0
  · have HW := hide ((show Ending.returned (.tuple #[.agg #[.float .f64 (geT s 0), .int .i64 (geS s 0), .int .i64 (geN s 0), .int .i64 (geD s 0), .int .i64 (geP s 0)], .int .i64 0]) = .returned (.tuple #[orZ E #[.float .f64 (geT s 0), .int .i64 (geS s 0), .int .i64 (geN s 0), .int .i64 (geD s 0), .int .i64 (geP s 0)] #[.float .f64 0, .int .i64 0, .int .i64 0, .int .i64 0, .int .i64 0], .int .i64 E]) by rw [hE]; unfold orZ; rw [if_pos rfl]).trans HV.out)
    subst hE
    clear HV
    go_wp2_with fail
    have hZ := (((((hR4.set_ 0 (.float .f64 (geT s 0))).set_ 1 (.int .i64 (geS s 0))).set_ 2 (.int .i64 (geN s 0))).set_ 3 (.int .i64 (geD s 0))).set_ 4 (.int .i64 (geP s 0)))
    have bZ := (((((hb4.setCell (p := ⟨w.heap.size, 0, none⟩) (Nat.le_refl _) (.float .f64 (geT s 0))).setCell (p := ⟨w.heap.size, 1, none⟩) (Nat.le_refl _) (.int .i64 (geS s 0))).setCell (p := ⟨w.heap.size, 2, none⟩) (Nat.le_refl _) (.int .i64 (geN s 0))).setCell (p := ⟨w.heap.size, 3, none⟩) (Nat.le_refl _) (.int .i64 (geD s 0))).setCell (p := ⟨w.heap.size, 4, none⟩) (Nat.le_refl _) (.int .i64 (geP s 0)))
    clear x0 x1 x2 x3 x4 f0 f1 f2 f3 f4 r0 r1 r2 r3 r4
    generalize (((((W4.setCell ⟨w.heap.size, 0, none⟩ (.float .f64 (geT s 0))).setCell ⟨w.heap.size, 1, none⟩ (.int .i64 (geS s 0))).setCell ⟨w.heap.size, 2, none⟩ (.int .i64 (geN s 0))).setCell ⟨w.heap.size, 3, none⟩ (.int .i64 (geD s 0))).setCell ⟨w.heap.size, 4, none⟩ (.int .i64 (geP s 0))) = wZ at *
    have q0 := hZ.cell 0
    have q1 := hZ.cell 1
    have q2 := hZ.cell 2
    have q3 := hZ.cell 3
    have q4 := hZ.cell 4
    simp only [List.setIfInBounds_toArray, List.set_cons_zero, List.set_cons_succ, List.getElem?_toArray, List.getElem?_cons_zero, List.getElem?_cons_succ] at q0 q1 q2 q3 q4
    refine bodyPost_ret (v := .tuple #[.agg #[.float .f64 (geT s 0), .int .i64 (geS s 0), .int .i64 (geN s 0), .int .i64 (geD s 0), .int .i64 (geP s 0)], .int .i64 0]) (by simp [results, Try.results66, go_sem, q0, q1, q2, q3, q4]) rfl ⟨HW.out, bZ⟩
  · have hEb : (E != 0) = true := by rw [bne_iff_ne]; exact hE
    have HW := hide ((show Ending.returned (.tuple #[.agg #[.float .f64 0, .int .i64 0, .int .i64 0, .int .i64 0, .int .i64 0], .int .i64 E]) = .returned (.tuple #[orZ E #[.float .f64 (geT s 0), .int .i64 (geS s 0), .int .i64 (geN s 0), .int .i64 (geD s 0), .int .i64 (geP s 0)] #[.float .f64 0, .int .i64 0, .int .i64 0, .int .i64 0, .int .i64 0], .int .i64 E]) by unfold orZ; rw [if_neg hE]).trans HV.out)
    clear HV
    go_wp2_with fail
    have hZ := (((((hR4.set_ 0 (.float .f64 0)).set_ 1 (.int .i64 0)).set_ 2 (.int .i64 0)).set_ 3 (.int .i64 0)).set_ 4 (.int .i64 0))
    have bZ := (((((hb4.setCell (p := ⟨w.heap.size, 0, none⟩) (Nat.le_refl _) (.float .f64 0)).setCell (p := ⟨w.heap.size, 1, none⟩) (Nat.le_refl _) (.int .i64 0)).setCell (p := ⟨w.heap.size, 2, none⟩) (Nat.le_refl _) (.int .i64 0)).setCell (p := ⟨w.heap.size, 3, none⟩) (Nat.le_refl _) (.int .i64 0)).setCell (p := ⟨w.heap.size, 4, none⟩) (Nat.le_refl _) (.int .i64 0))
    clear x0 x1 x2 x3 x4 f0 f1 f2 f3 f4 r0 r1 r2 r3 r4
    generalize (((((W4.setCell ⟨w.heap.size, 0, none⟩ (.float .f64 0)).setCell ⟨w.heap.size, 1, none⟩ (.int .i64 0)).setCell ⟨w.heap.size, 2, none⟩ (.int .i64 0)).setCell ⟨w.heap.size, 3, none⟩ (.int .i64 0)).setCell ⟨w.heap.size, 4, none⟩ (.int .i64 0)) = wZ at *
    have q0 := hZ.cell 0
    have q1 := hZ.cell 1
    have q2 := hZ.cell 2
    have q3 := hZ.cell 3
    have q4 := hZ.cell 4
    simp only [List.setIfInBounds_toArray, List.set_cons_zero, List.set_cons_succ, List.getElem?_toArray, List.getElem?_cons_zero, List.getElem?_cons_succ] at q0 q1 q2 q3 q4
    refine bodyPost_ret (v := .tuple #[.agg #[.float .f64 0, .int .i64 0, .int .i64 0, .int .i64 0, .int .i64 0], .int .i64 E]) (by simp [results, Try.results66, go_sem, q0, q1, q2, q3, q4]) rfl ⟨HW.out, bZ⟩
end Go.Proofs.Ytpgbfglfmmohdaa
