/- The walk of R08's delay; how a row of events grows; how times stand, as floats. No condition but sizes. -/
import Derived.Test.YtpfcmfannkbipaaAct6
set_option linter.unusedVariables false
set_option linter.unusedSimpArgs false
set_option maxRecDepth 20000
namespace Go.Proofs.Ytpfcmfannkbipaa
open Go.RowKit Go.Deep

attribute [local go_sem] run_store_float
theorem norm_num (t : Nat) : ¬ isNan (normF t) := by
  unfold normF
  split
  · exact zero_num
  · rename_i h
    exact fun hn => h (.inl hn)
theorem later_num (t d : Nat) : ¬ isNan (laterF t d) := by
  unfold laterF
  split
  · exact zero_num
  · exact norm_num _
theorem le_ways (a b : Nat) (ha : ¬ isNan a) (hb : ¬ isNan b) :
    (timesI a b ≤ 0 ∧ FloatKind.f64.format.order a b = some .lt) ∨ (timesI a b ≤ 0 ∧ FloatKind.f64.format.order a b = some .eq) ∨ (¬ timesI a b ≤ 0 ∧ FloatKind.f64.format.order a b = some .gt) := by
  rw [timesI_num ha hb]
  rcases Int.lt_trichotomy (skey a) (skey b) with h | h | h
  · exact .inl ⟨by rw [ordI_lt h]; decide, fo_lt a b ha hb h⟩
  · exact .inr (.inl ⟨by rw [ordI_eq h]; decide, fo_eq a b ha hb h⟩)
  · exact .inr (.inr ⟨by rw [ordI_gt h]; decide, fo_gt a b ha hb h⟩)
/-- One more event behind a row of the call's own. -/
theorem ev_add {wc wr : World} {v : Value} {L : List Ev} (hown : OwnR 37 5 encEv wr wc.heap.size v L) (hb : Below wc.heap.size wc wr) (x : Ev) (hL : L.length ≤ 1000) (ty : TypeId) :
    ∃ (q : Sl Ev) (w2 : World), (Builtin.append_ #[65, 65] ty #[v, .slice (some ⟨wr.heap.size, 0, none⟩) 1 1]).run Try.prog (wr.alloc (.cells #[.float .f64 x.1, .int .i64 x.2.1, .int .i64 x.2.2.1, .int .i64 x.2.2.2.1, .int .i64 x.2.2.2.2] 37)) = .ok q.val w2 ∧
      q.L = L ++ [x] ∧ OwnR 37 5 encEv w2 wc.heap.size q.val (L ++ [x]) ∧ Below wc.heap.size wc w2 := by
  obtain ⟨v2, w2, hrun2, hown2, hext2⟩ := run_append_one (P := Try.prog) 37 65 ty 5 40 (.agg #[.float .f64 0, .int .i64 0, .int .i64 0, .int .i64 0, .int .i64 0]) encEv (by decide) (fun _ => rfl) one_ev Try.underlying65 inf_ev rfl wr wc.heap.size v L x _ rfl hown (by omega) (by omega) hb.size
  obtain ⟨q, rfl, hqL, _, _⟩ := hown2.form
  exact ⟨q, w2, hrun2, hqL, hown2, hb.trans ((Below.refl wc.heap.size wr).grown hext2.1 hb.size fun k hk => hown.base k hk)⟩
set_option maxHeartbeats 1000000 in
theorem rdelay_any (m : Mdl) (n : Int) (w : World) (hm : m.At w) (h1 : 1 ≤ m.dl.L.length) (h2 : m.dl.L.length ≤ 1000) :
    Calls Try.prog 82 #[m.val, .int .i64 n] w fun e w' => e = .returned (.float .f64 (dly m.dl.L n)) ∧ Below w.heap.size w w' := by
  obtain ⟨r, j, j1, j2, j3, j4, j5, j6, j7, j8⟩ := delay_at n m.dl.L.length h1 h2
  have hdly : dly m.dl.L n = m.dl.L.getD j.toNat 0 := by unfold dly; rw [j8]
  have hjl : j.toNat < m.dl.L.length := by omega
  have hget : m.dl.L[j.toNat]? = some (m.dl.L.getD j.toNat 0) := by rw [List.getD_eq_getElem?_getD, List.getElem?_eq_getElem hjl]; rfl
  have hX := Blk.new w 58 #[.int .i64 m.seed, .float .f64 m.fin, m.dl.val, m.pl.val, m.ll.val, m.il.val]
  have hb : Below w.heap.size w (w.alloc (.cells #[.int .i64 m.seed, .float .f64 m.fin, m.dl.val, m.pl.val, m.ll.val, m.il.val] 58)) := (Below.refl _ _).alloc (Nat.le_refl _) _
  obtain ⟨a, ha, hc, _⟩ := (hm.2.2.1.below FlAt.keeps hb).1 j.toNat _ hget
  rw [Nat.mul_one] at hc
  rw [hdly]
  have hn2 : m.dl.L.length ≤ m.dl.c ∧ m.dl.c ≤ 9223372036854775807 := hm.2.2.1.2
  clear hdly hget hm j8 j4
  obtain ⟨seed, fin, ⟨dA, dc, dl⟩, pl, ll, il⟩ := m
  simp only [Mdl.val, Sl.val] at *
  subst ha
  generalize dl.getD j.toNat 0 = D at *
  have q1 : dl.length ≤ 9223372036854775807 := by omega
  have hlen : (dl.length : Int) ≠ 0 := by omega
  have hlen2 : ((dl.length : Int) == 0) = false := by rw [beq_eq_false_iff_ne]; exact hlen
  have hr : (0 ≤ r ∧ j = r) ∨ (r < 0 ∧ j = r + dl.length) := by
    by_cases h : 0 ≤ r
    · have : (r + (dl.length : Int)) % (dl.length : Int) = r := by rw [Int.add_emod_right, Int.emod_eq_of_lt h j3]
      exact .inl ⟨h, by omega⟩
    · have : (r + (dl.length : Int)) % (dl.length : Int) = r + dl.length := Int.emod_eq_of_lt (by omega) (by omega)
      exact .inr ⟨by omega, by omega⟩
  clear j5
  rcases hr with ⟨h0, rfl⟩ | ⟨h0, rfl⟩
  · have hl : ¬ j < 0 := by omega
    have x0 := hX.cell 0
    have x1 := hX.cell 1
    have x2 := hX.cell 2
    have x3 := hX.cell 3
    have x4 := hX.cell 4
    have x5 := hX.cell 5
    simp only [List.getElem?_toArray, List.getElem?_cons_zero, List.getElem?_cons_succ] at x0 x1 x2 x3 x4 x5
    have HB := hide hb
    clear hX hb
    go_enter Try.func82, Try.ntmps82
    go_wp2_with fail
    go_ret
    exact ⟨rfl, HB.out⟩
  · have hw1 : IntKind.i64.wrap (r + (dl.length : Int)) = r + (dl.length : Int) := IntWalk.i64_in _ (by omega)
    have x0 := hX.cell 0
    have x1 := hX.cell 1
    have x2 := hX.cell 2
    have x3 := hX.cell 3
    have x4 := hX.cell 4
    have x5 := hX.cell 5
    simp only [List.getElem?_toArray, List.getElem?_cons_zero, List.getElem?_cons_succ] at x0 x1 x2 x3 x4 x5
    have HB := hide hb
    clear hX hb
    go_enter Try.func82, Try.ntmps82
    go_wp2_with fail
    go_ret
    exact ⟨rfl, HB.out⟩
end Go.Proofs.Ytpfcmfannkbipaa
