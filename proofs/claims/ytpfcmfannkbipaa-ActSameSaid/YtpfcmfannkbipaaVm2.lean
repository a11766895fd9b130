/- The walk of the machine's send. No condition but what holds of every run. -/
import Derived.Test.YtpfcmfannkbipaaVm1
import Derived.Test.YtpfcmfannkbipaaStill
set_option linter.unusedVariables false
set_option linter.unusedSimpArgs false
set_option maxRecDepth 20000
namespace Go.Proofs.Ytpfcmfannkbipaa
open Go.RowKit Go.Deep

theorem send_dst (rb : Option Nat) (w0 w : World) (B b db : Nat) (pv wv sv : Value) (W lps : Int) (s : VS) (x y z : Nat) (d : Int) (h : RunS rb w0 w B b db pv wv sv W lps s) (h8 : s.g.length = 8) (hx : x < 8)
    (hd : s.reg x = d) (hbad : d < 0 ∨ lps ≤ d) :
    Calls Try.prog 124 #[.pointer (some ⟨b, 0, none⟩), .agg #[.int .i64 12, .int .i64 x, .int .i64 y, .int .i64 z]] w fun e w' =>
      e = .panicked (faultP 6) ∧ RunS rb w0 w' B b db pv wv sv W lps s := by
  have hbx := Blk.new w 142 #[.int .i64 12, .int .i64 x, .int .i64 y, .int .i64 z]
  replace h := h.alloc (.cells #[.int .i64 12, .int .i64 x, .int .i64 y, .int .i64 z] 142)
  have H := hide h
  have H8 := hide h8
  have HB := hide hbx
  have HD := hide hd
  clear h h8 hbx hd
  go_enter Try.func124, Try.ntmps124
  go_upto_region 1 with fail
  generalize w.alloc _ = w1 at *
  generalize w.heap.size = bx at *
  have q1 := HB.out.cell 1
  have cx := H.out.regC H8.out hx
  rw [HD.out] at cx
  simp only [List.getElem?_toArray, List.getElem?_cons_zero, List.getElem?_cons_succ] at q1
  go_quiet (fail)
  replace H := hide (H.out.drewN nq)
  clear q1 cx HB HD
  generalize w1.drewN nq = w2 at *
  clear nq
  obtain ⟨_, _, c10, _⟩ := H.out.tails H8.out
  rcases hbad with hbad | hbad
  · have d0 : decide (0 ≤ d) = false := decide_eq_false (by omega)
    go_wp2_with (go_at_call 122; refine (need_no _ _).mono ?_; rintro e w' ⟨rfl, rfl⟩)
    exact ⟨rfl, rfl, H.out⟩
  · by_cases h0 : 0 ≤ d
    · have d0 : decide (d < lps) = false := decide_eq_false (by omega)
      go_wp2_with (go_at_call 122; refine (need_no _ _).mono ?_; rintro e w' ⟨rfl, rfl⟩)
      exact ⟨rfl, rfl, H.out⟩
    · have d0 : decide (0 ≤ d) = false := decide_eq_false (by omega)
      go_wp2_with (go_at_call 122; refine (need_no _ _).mono ?_; rintro e w' ⟨rfl, rfl⟩)
      exact ⟨rfl, rfl, H.out⟩
theorem send_full (rb : Option Nat) (w0 w : World) (B b db : Nat) (pv wv : Value) (W lps : Int) (s : VS) (x y z n c : Nat) (A : Option Addr) (d : Int) (h : RunS rb w0 w B b db pv wv (.slice A n c) W lps s) (h8 : s.g.length = 8) (hx : x < 8)
    (hd : s.reg x = d) (hok : 0 ≤ d ∧ d < lps) (hn : 4 ≤ n) :
    Calls Try.prog 124 #[.pointer (some ⟨b, 0, none⟩), .agg #[.int .i64 12, .int .i64 x, .int .i64 y, .int .i64 z]] w fun e w' =>
      e = .panicked (faultP 5) ∧ RunS rb w0 w' B b db pv wv (.slice A n c) W lps s := by
  have hbx := Blk.new w 142 #[.int .i64 12, .int .i64 x, .int .i64 y, .int .i64 z]
  replace h := h.alloc (.cells #[.int .i64 12, .int .i64 x, .int .i64 y, .int .i64 z] 142)
  have H := hide h
  have H8 := hide h8
  have HB := hide hbx
  have HD := hide hd
  clear h h8 hbx hd
  go_enter Try.func124, Try.ntmps124
  go_upto_region 1 with fail
  generalize w.alloc _ = w1 at *
  generalize w.heap.size = bx at *
  have q1 := HB.out.cell 1
  have cx := H.out.regC H8.out hx
  rw [HD.out] at cx
  simp only [List.getElem?_toArray, List.getElem?_cons_zero, List.getElem?_cons_succ] at q1
  go_quiet (fail)
  replace H := hide (H.out.drewN nq)
  clear q1 cx HB HD
  generalize w1.drewN nq = w2 at *
  clear nq
  obtain ⟨_, _, c10, _, c12, _⟩ := H.out.tails H8.out
  have d0 : decide ((n : Int) < 4) = false := decide_eq_false (by omega)
  obtain ⟨h0, h1⟩ := hok
  go_wp2_with fail
  refine (need_ok _ _).mono ?_
  rintro e w' ⟨rfl, rfl⟩
  go_wp2_with fail
  refine (need_no _ _).mono ?_
  rintro e w' ⟨rfl, rfl⟩
  exact ⟨rfl, rfl, H.out⟩
set_option maxHeartbeats 4000000 in
theorem send_ok (rb : Option Nat) (w0 w : World) (B b db : Nat) (pv wv : Value) (W lps : Int) (s : VS) (x y z n c : Nat) (A : Option Addr) (d u v : Int) (h : RunS rb w0 w B b db pv wv (.slice A n c) W lps s) (h8 : s.g.length = 8) (hx : x < 8) (hy : y < 8) (hz : z < 8)
    (hd : s.reg x = d) (hu : s.reg y = u) (hv : s.reg z = v) (hok : 0 ≤ d ∧ d < lps) (hn : n < 4) (hl : s.s.length ≤ 4) :
    Calls Try.prog 124 #[.pointer (some ⟨b, 0, none⟩), .agg #[.int .i64 12, .int .i64 x, .int .i64 y, .int .i64 z]] w fun e w' =>
      e = .returned (.tuple #[]) ∧ ∃ A' c', RunS rb w0 w' B b db pv wv (.slice A' (s.s.length + 1) c') W lps { s with s := s.s ++ [(d, u, v)] } := by
  have hbx := Blk.new w 142 #[.int .i64 12, .int .i64 x, .int .i64 y, .int .i64 z]
  replace h := h.alloc (.cells #[.int .i64 12, .int .i64 x, .int .i64 y, .int .i64 z] 142)
  have H := hide h
  have H8 := hide h8
  have HB := hide hbx
  have HD := hide hd
  have HU := hide hu
  have HV := hide hv
  have HL := hide hl
  clear h h8 hbx hd hu hv hl
  go_enter Try.func124, Try.ntmps124
  go_upto_region 1 with fail
  generalize w.alloc _ = w1 at *
  generalize w.heap.size = bx at *
  have q1 := HB.out.cell 1
  have cx := H.out.regC H8.out hx
  rw [HD.out] at cx
  simp only [List.getElem?_toArray, List.getElem?_cons_zero, List.getElem?_cons_succ] at q1
  go_quiet (fail)
  replace H := hide (H.out.drewN nq)
  replace HB := hide (HB.out.drewN nq)
  clear q1 cx HD
  generalize w1.drewN nq = w2 at *
  clear nq
  obtain ⟨_, _, c10, _, c12, _⟩ := H.out.tails H8.out
  have d0 : decide ((n : Int) < 4) = true := decide_eq_true (by omega)
  obtain ⟨h0, h1⟩ := hok
  go_wp2_with fail
  refine (need_ok _ _).mono ?_
  rintro e w' ⟨rfl, rfl⟩
  go_wp2_with fail
  refine (need_ok _ _).mono ?_
  rintro e w' ⟨rfl, rfl⟩
  go_wp2_with fail
  clear c10 d0 c12
  obtain ⟨sA, sc, w5, hrun, a12, f12, hS, hcell⟩ : ∃ sA sc w1, (Builtin.append_ #[113, 113] 113 #[.slice A n c, .slice (some ⟨w2.drew.heap.size, 0, none⟩) 1 1]).run Try.prog (w2.drew.alloc (.cells #[.int .i64 d, .int .i64 u, .int .i64 v] 130)) = .ok (.slice sA (s.s.length + 1) sc) w1 ∧
      w1.cell? ⟨b, 12, none⟩ = some (.slice A n c) ∧ w1.frozen? ⟨b, 12, none⟩ = false ∧ RunS rb w0 (w1.setCell ⟨b, 12, none⟩ (.slice sA (s.s.length + 1) sc)) B b db pv wv (.slice sA (s.s.length + 1) sc) W lps { s with s := s.s ++ [(d, u, v)] } ∧
      (w1.cell? ⟨bx, 2, none⟩ = some (.int .i64 y) ∧ w1.cell? ⟨bx, 3, none⟩ = some (.int .i64 z) ∧ w1.cell? ⟨b, 1 + y, none⟩ = some (.int .i64 u) ∧ w1.cell? ⟨b, 1 + z, none⟩ = some (.int .i64 v)) := by
    obtain ⟨sA, sc, w5, h1, h2, h3, h4, h5⟩ := H.out.drew.send H8.out HL.out (d, u, v) 113
    have k1 := h5 _ _ _ HB.out.drew (by decide)
    have k2 := h5 _ _ _ H.out.drew.blk (by decide)
    exact ⟨sA, sc, w5, h1, h2, h3, h4, k1.cell 2, k1.cell 3, (k2.cell _).trans ((rc_reg H8.out hy).trans (by rw [HU.out])), (k2.cell _).trans ((rc_reg H8.out hz).trans (by rw [HV.out]))⟩
  obtain ⟨a0, a1, a2, a3⟩ := hcell
  have Zc : ∀ g i o, g < w2.heap.size → (w2.drew.alloc o).cell? ⟨g, i, none⟩ = w2.cell? ⟨g, i, none⟩ := fun g i o hg => World.cell?_alloc_lt w2.drew o _ hg
  have cc : w2.cell? ⟨b, 12, none⟩ = some (.slice A n c) ∧ w2.cell? ⟨bx, 2, none⟩ = some (.int .i64 y) ∧ w2.cell? ⟨bx, 3, none⟩ = some (.int .i64 z) ∧ w2.cell? ⟨b, 1 + y, none⟩ = some (.int .i64 u) ∧ w2.cell? ⟨b, 1 + z, none⟩ = some (.int .i64 v) :=
    ⟨(H.out.tails H8.out).2.2.2.2.1, HB.out.cell 2, HB.out.cell 3, (H.out.regC H8.out hy).trans (by rw [HU.out]), (H.out.regC H8.out hz).trans (by rw [HV.out])⟩
  have cd : ∀ o, (w2.drew.alloc o).cell? ⟨b, 12, none⟩ = some (.slice A n c) ∧ (w2.drew.alloc o).cell? ⟨bx, 2, none⟩ = some (.int .i64 y) ∧ (w2.drew.alloc o).cell? ⟨bx, 3, none⟩ = some (.int .i64 z) ∧ (w2.drew.alloc o).cell? ⟨b, 1 + y, none⟩ = some (.int .i64 u) ∧ (w2.drew.alloc o).cell? ⟨b, 1 + z, none⟩ = some (.int .i64 v) :=
    fun o => ⟨(Zc _ _ _ H.out.blk.lt).trans cc.1, (Zc _ _ _ HB.out.lt).trans cc.2.1, (Zc _ _ _ HB.out.lt).trans cc.2.2.1, (Zc _ _ _ H.out.blk.lt).trans cc.2.2.2.1, (Zc _ _ _ H.out.blk.lt).trans cc.2.2.2.2⟩
  obtain ⟨e0, e1, e2, e3, e4⟩ := cc
  have CD := hide cd
  have HS := hide hS
  have yI0 : (0 : Int) ≤ (y : Int) := by omega
  have yI1 : (y : Int) < 8 := by omega
  have zI0 : (0 : Int) ≤ (z : Int) := by omega
  have zI1 : (z : Int) < 8 := by omega
  clear Zc cd hS H H8 HB HU HV HL
  clear a0 a1 a2 a3 hn
  refine wp_region_reads (fun w' => w'.cell? ⟨b, 12, none⟩ = some (.slice A n c) ∧ w'.cell? ⟨bx, 2, none⟩ = some (.int .i64 y) ∧ w'.cell? ⟨bx, 3, none⟩ = some (.int .i64 z) ∧ w'.cell? ⟨b, 1 + y, none⟩ = some (.int .i64 u) ∧ w'.cell? ⟨b, 1 + z, none⟩ = some (.int .i64 v))
    (.pointer (some ⟨b, 0, none⟩)) 20 1 (by kernel_rfl) (by kernel_rfl) (Or.inl ⟨by rfl, fun w => by rfl⟩) (fun _ _ _ h => h) ⟨e0, e1, e2, e3, e4⟩ ?_
  clear e0 e1 e2 e3 e4
  simp only [Act.put, List.setIfInBounds_toArray, List.set_cons_zero, List.set_cons_succ, List.take_succ_cons, List.take_zero, List.drop_succ_cons, List.drop_zero]
  repeat (refine head_step ?_ (by rfl) ?_ (fun _ _ _ h => h) ?_; rotate_left; (intro w' hs; obtain ⟨e0, e1, e2, e3, e4⟩ := hs; go_simp; (try with_reducible rfl)); (try simp only [Act.put, List.setIfInBounds_toArray, List.set_cons_zero, List.set_cons_succ]))
  refine head_nil ?_
  refine mid_step _ (w2.drew.alloc (.cells #[.int .i64 d, .int .i64 u, .int .i64 v] 130)) (by rfl) (by go_simp; rfl) (CD.out _) ?_
  refine mid_nil ?_
  simp only [Act.put, List.setIfInBounds_toArray, List.set_cons_zero, List.set_cons_succ]
  clear CD
  go_wp2_with (at_builtin; refine wpList_of_append rfl _ w5 (.tmp 34) (.tmp 51) 113 _ _ _ rfl rfl rfl hrun ?_)
  go_end0
  exact ⟨rfl, _, _, HS.out⟩
end Go.Proofs.Ytpfcmfannkbipaa
