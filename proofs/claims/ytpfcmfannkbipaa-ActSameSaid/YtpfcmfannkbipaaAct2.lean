/- The walks of act's may and Copy. No condition. -/
import Derived.Test.YtpfcmfannkbipaaActPl
import Derived.Test.YtpfcmfannkbipaaAllocs
import Derived.Test.YtpfcmfannkbipaaOwn
set_option linter.unusedVariables false
set_option maxRecDepth 20000
namespace Go.Proofs.Ytpfcmfannkbipaa
open Go.RowKit Go.Deep

attribute [local go_sem] run_store_float
/-- What a call is handed lies in boxes of its own. -/
theorem box3 (w : World) (a b c : Array Value) (ta tb tc : TypeId) : Below w.heap.size w (((w.alloc (.cells a ta)).alloc (.cells b tb)).alloc (.cells c tc)) ∧
    Blk (((w.alloc (.cells a ta)).alloc (.cells b tb)).alloc (.cells c tc)) w.heap.size ta a ∧ Blk (((w.alloc (.cells a ta)).alloc (.cells b tb)).alloc (.cells c tc)) (w.heap.size + 1) tb b ∧
    Blk (((w.alloc (.cells a ta)).alloc (.cells b tb)).alloc (.cells c tc)) (w.heap.size + 1 + 1) tc c :=
  ⟨allocs_below [(a, ta), (b, tb), (c, tc)] w, allocs_blk [(a, ta), (b, tb), (c, tc)] w 0 _ rfl, allocs_blk [(a, ta), (b, tb), (c, tc)] w 1 _ rfl, allocs_blk [(a, ta), (b, tb), (c, tc)] w 2 _ rfl⟩
theorem box2 (w : World) (a b : Array Value) (ta tb : TypeId) : Below w.heap.size w ((w.alloc (.cells a ta)).alloc (.cells b tb)) ∧
    Blk ((w.alloc (.cells a ta)).alloc (.cells b tb)) w.heap.size ta a ∧ Blk ((w.alloc (.cells a ta)).alloc (.cells b tb)) (w.heap.size + 1) tb b :=
  ⟨allocs_below [(a, ta), (b, tb)] w, allocs_blk [(a, ta), (b, tb)] w 0 _ rfl, allocs_blk [(a, ta), (b, tb)] w 1 _ rfl⟩
theorem mayB_ways (m : Mdl) (lp : Int) (s : StP) (e : Ev) :
    (lp < 0 ∧ mayB m lp s e = false) ∨ (0 ≤ lp ∧ (m.ll.L.length : Int) ≤ lp ∧ mayB m lp s e = false) ∨
    (0 ≤ lp ∧ lp < (m.ll.L.length : Int) ∧ isNan e.1 ∧ mayB m lp s e = false) ∨
    (0 ≤ lp ∧ lp < (m.ll.L.length : Int) ∧ ¬ isNan e.1 ∧ 8 < s.1.length ∧ mayB m lp s e = false) ∨
    (0 ≤ lp ∧ lp < (m.ll.L.length : Int) ∧ ¬ isNan e.1 ∧ s.1.length ≤ 8 ∧ cntB s.2.1 = false ∧ mayB m lp s e = false) ∨
    (0 ≤ lp ∧ lp < (m.ll.L.length : Int) ∧ ¬ isNan e.1 ∧ s.1.length ≤ 8 ∧ cntB s.2.1 = true ∧ mayB m lp s e = cntB s.2.2) := by
  unfold mayB
  by_cases h1 : lp < 0
  · exact .inl ⟨h1, by rw [decide_eq_false (by omega)]; rfl⟩
  by_cases h2 : (m.ll.L.length : Int) ≤ lp
  · exact .inr (.inl ⟨by omega, h2, by rw [decide_eq_false (by omega)]; rfl⟩)
  by_cases h3 : isNan e.1
  · exact .inr (.inr (.inl ⟨by omega, by omega, h3, by rw [decide_eq_false (fun h => h.2.2.1 h3)]; rfl⟩))
  by_cases h4 : 8 < s.1.length
  · exact .inr (.inr (.inr (.inl ⟨by omega, by omega, h3, h4, by rw [decide_eq_false (by omega)]; rfl⟩)))
  have h0 : decide (0 ≤ lp ∧ lp < (m.ll.L.length : Int) ∧ ¬ isNan e.1 ∧ s.1.length ≤ 8) = true := decide_eq_true ⟨by omega, by omega, h3, by omega⟩
  rw [h0]
  cases h5 : cntB s.2.1
  · exact .inr (.inr (.inr (.inr (.inl ⟨by omega, by omega, h3, by omega, rfl, rfl⟩))))
  · exact .inr (.inr (.inr (.inr (.inr ⟨by omega, by omega, h3, by omega, rfl, by simp⟩))))
set_option maxHeartbeats 2000000 in
theorem may8_any (m : Mdl) (lp : Int) (s : St) (e : Ev) (w : World) (hm : m.At w) (hs : s.At w) :
    Calls Try.prog 76 #[m.val, .int .i64 lp, s.val, .agg #[.float .f64 e.1, .int .i64 e.2.1, .int .i64 e.2.2.1, .int .i64 e.2.2.2.1, .int .i64 e.2.2.2.2]] w fun x w' => x = .returned (.int .i64 (hE m lp s.pl e)) ∧ Below w.heap.size w w' := by
  have hR := hide (show hE m lp s.pl e = if chkB m = true then (if mayB m lp s.pl e = true then 0 else 2) else 15 from rfl)
  have hC := hide (show chkE m = if chkB m = true then 0 else 15 from rfl)
  have hW := mayB_ways m lp s.pl e
  have hck := fun W (h : m.At W) => check_any m W h
  have hck0 := hck
  clear hck
  generalize hE m lp s.pl e = E at *
  generalize chkE m = C at *
  generalize chkB m = B at *
  generalize mayB m lp s.pl e = MB at *
  have hck := hck0
  clear hck0
  have hN := fun W => isnan_any e.1 W
  have hc1 := fun W => count_any s.sent W
  have hc2 := fun W => count_any s.dice W
  obtain ⟨hb0, hX, hS, hV⟩ := box3 w #[.int .i64 m.seed, .float .f64 m.fin, m.dl.val, m.pl.val, m.ll.val, m.il.val] #[s.wd.val, .int .i64 s.sent, .int .i64 s.dice] #[.float .f64 e.1, .int .i64 e.2.1, .int .i64 e.2.2.1, .int .i64 e.2.2.2.1, .int .i64 e.2.2.2.2] 58 61 37
  have hm0 := hm.below hb0
  have l1 : m.ll.L.length ≤ m.ll.c ∧ m.ll.c ≤ 9223372036854775807 := hm.2.2.2.2.1.2
  have l2 : s.wd.L.length ≤ s.wd.c ∧ s.wd.c ≤ 9223372036854775807 := hs.1.2
  obtain ⟨t, src, n, dst, pay⟩ := e
  obtain ⟨seed, fin, ⟨dA, dc, dl⟩, ⟨pA, pc, pl⟩, ⟨lA, lc, ll⟩, ⟨iA, ic, il⟩⟩ := m
  obtain ⟨⟨sA, sc, sl⟩, sent, dice⟩ := s
  simp only [Sl.val, Mdl.val, St.val, St.pl] at *
  have q1 : ll.length ≤ 9223372036854775807 := by omega
  have q2 : sl.length ≤ 9223372036854775807 := by omega
  clear l1 l2 hm hs
  have hck0 := hck _ hm0
  clear hck hm0
  cases B
  · obtain rfl : C = 15 := hC.out
    obtain rfl : E = 15 := hR.out
    clear hW hN hc1 hc2 hR hC
    go_enter Try.func76, Try.ntmps76
    go_upto_region 1 with fail
    generalize (World.alloc (World.alloc (World.alloc w _) _) _) = w0 at *
    have x0 := hX.cell 0
    have x1 := hX.cell 1
    have x2 := hX.cell 2
    have x3 := hX.cell 3
    have x4 := hX.cell 4
    have x5 := hX.cell 5
    simp only [List.getElem?_toArray, List.getElem?_cons_zero, List.getElem?_cons_succ] at x0 x1 x2 x3 x4 x5
    go_wp2_with fail
    refine hck0.mono ?_
    rintro e w1 ⟨rfl, hb1⟩
    clear hck0
    go_wp2
    go_ret
    exact ⟨rfl, below_after hb0 hb1⟩
  · obtain rfl : C = 0 := hC.out
    have hE2 := hide (hR.out.trans (if_pos rfl))
    clear hR hC
    have hE0 : ∀ b, MB = b → E = if b = true then 0 else 2 := fun b h => by rw [← h]; exact hE2.out
    have HE := hide hE0
    clear hE0 hE2
    go_enter Try.func76, Try.ntmps76
    go_upto_region 1 with fail
    generalize (World.alloc (World.alloc (World.alloc w _) _) _) = w0 at *
    have x0 := hX.cell 0
    have x1 := hX.cell 1
    have x2 := hX.cell 2
    have x3 := hX.cell 3
    have x4 := hX.cell 4
    have x5 := hX.cell 5
    simp only [List.getElem?_toArray, List.getElem?_cons_zero, List.getElem?_cons_succ] at x0 x1 x2 x3 x4 x5
    go_wp2_with fail
    refine hck0.mono ?_
    rintro e w1 ⟨rfl, hb1⟩
    clear hck0
    clear x0 x1 x2 x3 x4 x5
    replace hX := hX.below hb1 hX.lt
    replace hS := hS.below hb1 hS.lt
    replace hV := hV.below hb1 hV.lt
    replace hb0 := below_after hb0 hb1
    clear hb1
    generalize w0.heap.size = z0 at *
    have x0 := hX.cell 0
    have x1 := hX.cell 1
    have x2 := hX.cell 2
    have x3 := hX.cell 3
    have x4 := hX.cell 4
    have x5 := hX.cell 5
    simp only [List.getElem?_toArray, List.getElem?_cons_zero, List.getElem?_cons_succ] at x0 x1 x2 x3 x4 x5
    have s0 := hS.cell 0
    have s1 := hS.cell 1
    have s2 := hS.cell 2
    simp only [List.getElem?_toArray, List.getElem?_cons_zero, List.getElem?_cons_succ] at s0 s1 s2
    have v0 := hV.cell 0
    have v1 := hV.cell 1
    have v2 := hV.cell 2
    have v3 := hV.cell 3
    have v4 := hV.cell 4
    simp only [List.getElem?_toArray, List.getElem?_cons_zero, List.getElem?_cons_succ] at v0 v1 v2 v3 v4
    clear hX hS hV
    rcases hW with ⟨k1, k9⟩ | ⟨k1, k2, k9⟩ | ⟨k1, k2, k3, k9⟩ | ⟨k1, k2, k3, k4, k9⟩ | ⟨k1, k2, k3, k4, k5, k9⟩ | ⟨k1, k2, k3, k4, k5, k9⟩
    · obtain rfl : E = 2 := HE.out _ k9
      have d1 : decide (lp < 0) = true := decide_eq_true k1
      clear HE k9 hN hc1 hc2 k1
      go_wp2_with fail
      go_ret
      exact ⟨rfl, hb0⟩
    · obtain rfl : E = 2 := HE.out _ k9
      have d1 : decide (lp < 0) = false := decide_eq_false (by omega)
      have d2 : decide ((ll.length : Int) ≤ lp) = true := decide_eq_true k2
      clear HE k9 hN hc1 hc2 k1 k2
      go_wp2_with fail
      go_ret
      exact ⟨rfl, hb0⟩
    · obtain rfl : E = 2 := HE.out _ k9
      have d1 : decide (lp < 0) = false := decide_eq_false (by omega)
      have d2 : decide ((ll.length : Int) ≤ lp) = false := decide_eq_false (by omega)
      rw [decide_eq_true k3] at hN
      clear HE k9 hc1 hc2 k1 k2 k3
      go_wp2_with fail
      refine (hN _).mono ?_
      rintro e w2 ⟨rfl, rfl⟩
      go_wp2_with fail
      go_ret
      exact ⟨rfl, hb0⟩
    · obtain rfl : E = 2 := HE.out _ k9
      have d1 : decide (lp < 0) = false := decide_eq_false (by omega)
      have d2 : decide ((ll.length : Int) ≤ lp) = false := decide_eq_false (by omega)
      have d3 : decide (8 < (sl.length : Int)) = true := decide_eq_true (by omega)
      rw [decide_eq_false k3] at hN
      clear HE k9 hc1 hc2 k1 k2 k3 k4
      go_wp2_with fail
      refine (hN _).mono ?_
      rintro e w2 ⟨rfl, rfl⟩
      go_wp2_with fail
      go_ret
      exact ⟨rfl, hb0⟩
    · obtain rfl : E = 2 := HE.out _ k9
      have d1 : decide (lp < 0) = false := decide_eq_false (by omega)
      have d2 : decide ((ll.length : Int) ≤ lp) = false := decide_eq_false (by omega)
      have d3 : decide (8 < (sl.length : Int)) = false := decide_eq_false (by omega)
      rw [decide_eq_false k3] at hN
      rw [k5] at hc1
      clear HE k9 hc2 k1 k2 k3 k4 k5
      go_wp2_with fail
      refine (hN _).mono ?_
      rintro e w2 ⟨rfl, rfl⟩
      go_wp2_with fail
      refine (hc1 _).mono ?_
      rintro e w2 ⟨rfl, rfl⟩
      go_wp2_with fail
      go_ret
      exact ⟨rfl, hb0⟩
    · have hEE := HE.out _ k9
      have d1 : decide (lp < 0) = false := decide_eq_false (by omega)
      have d2 : decide ((ll.length : Int) ≤ lp) = false := decide_eq_false (by omega)
      have d3 : decide (8 < (sl.length : Int)) = false := decide_eq_false (by omega)
      rw [decide_eq_false k3] at hN
      rw [k5] at hc1
      clear HE k9 k1 k2 k3 k4 k5
      generalize cntB dice = bd at *
      cases bd
      · obtain rfl : E = 2 := hEE
        go_wp2_with fail
        refine (hN _).mono ?_
        rintro e w2 ⟨rfl, rfl⟩
        go_wp2_with fail
        refine (hc1 _).mono ?_
        rintro e w2 ⟨rfl, rfl⟩
        go_wp2_with fail
        refine (hc2 _).mono ?_
        rintro e w2 ⟨rfl, rfl⟩
        go_wp2_with fail
        go_ret
        exact ⟨rfl, hb0⟩
      · obtain rfl : E = 0 := hEE
        go_wp2_with fail
        refine (hN _).mono ?_
        rintro e w2 ⟨rfl, rfl⟩
        go_wp2_with fail
        refine (hc1 _).mono ?_
        rintro e w2 ⟨rfl, rfl⟩
        go_wp2_with fail
        refine (hc2 _).mono ?_
        rintro e w2 ⟨rfl, rfl⟩
        go_wp2_with fail
        go_ret
        exact ⟨rfl, hb0⟩
end Go.Proofs.Ytpfcmfannkbipaa
