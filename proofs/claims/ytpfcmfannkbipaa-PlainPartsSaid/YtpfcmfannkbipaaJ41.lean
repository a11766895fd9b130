/- Texts of this claim in one. No condition. -/
import Derived.Test.YtpfcmfannkbipaaJ40
section
set_option linter.unusedVariables false
set_option linter.unusedSimpArgs false
set_option maxRecDepth 20000
namespace Go.Proofs.Ytpfcmfannkbipaa
open Go.RowKit Go.Deep

attribute [local go_sem] run_store_float
theorem own_dn {w : World} {B : Nat} {q : Sl Dn} (h : OwnR 39 6 encDn w B q.val q.L) : TRow 39 DnB 6 w q := TRow.of_own (ok := fun _ _ => True) (by decide) (fun _ => rfl) makes_dnb h (fun _ _ => trivial)
theorem own_sl {w : World} {B : Nat} {R : Sl (Sl Dn)} (h : OwnR 22 1 encSl w B R.val R.L) (hok : ∀ x ∈ R.L, x.At DnB 6 w) : R.At (SlAt DnB 6) 1 w :=
  (TRow.of_own (e := 22) (d := SlAt DnB 6) (size := 1) (s := R) (ok := fun w x => x.At DnB 6 w) (by decide) (fun _ => rfl) (makes_sl DnB 6) h hok).at_
/-- One list more behind a row of lists. -/
theorem sl_add {wc wr : World} {v : Value} {L : List (Sl Dn)} (hown : OwnR 22 1 encSl wr wc.heap.size v L) (hb : Below wc.heap.size wc wr) (x : Sl Dn) (hL : L.length ≤ 1000000) (ty : TypeId) :
    ∃ (q : Sl (Sl Dn)) (w2 : World), (Builtin.append_ #[42, 42] ty #[v, .slice (some ⟨wr.heap.size, 0, none⟩) 1 1]).run Try.prog (wr.alloc (.cells #[x.val] 22)) = .ok q.val w2 ∧
      q.L = L ++ [x] ∧ OwnR 22 1 encSl w2 wc.heap.size q.val (L ++ [x]) ∧ Below wc.heap.size wc w2 ∧ GExt wr w2 v q.val := by
  obtain ⟨v2, w2, hrun2, hown2, hext2⟩ := run_append_one (P := Try.prog) 22 42 ty 1 24 (.slice none 0 0) encSl (by decide) (fun _ => rfl) one_sl34 Try.underlying42 inf_sl34 rfl wr wc.heap.size v L x _ rfl hown (by omega) (by omega) hb.size
  obtain ⟨q, rfl, hqL, _, _⟩ := hown2.form
  exact ⟨q, w2, hrun2, hqL, hown2, hb.trans ((Below.refl wc.heap.size wr).grown hext2.1 hb.size fun k hk => hown.base k hk), hext2⟩
theorem eqL_self (L : List Dn) : eqL sameD L L = true := by
  refine eqL_yes rfl ?_
  rw [List.all_eq_true]
  intro p hp
  obtain ⟨i, hi, e⟩ := List.getElem_of_mem (List.mem_of_mem_take hp)
  rw [List.getElem_zip] at e
  rw [← e]
  exact sameD_self _
theorem total_le : ∀ (M : List (List Dn)), (∀ l ∈ M, l.length ≤ 40) → Mrg.total M ≤ 40 * M.length
  | [], _ => Nat.le_refl _
  | l :: M, h => by
    have h1 := h l (by simp)
    have h2 := total_le M (fun x hx => h x (by simp [hx]))
    unfold Mrg.total at h2 ⊢
    simp only [List.map_cons, List.sum_cons, List.length_cons]
    omega
def PtRel (w : World) (L : List (Sl Dn)) (v i : Value) (wr : World) : Prop := ∃ (k : Nat) (R : Sl (Sl Dn)), k ≤ L.length ∧ k ≤ 6 ∧ v = R.val ∧ i = .int .i64 k ∧ R.L = (L.take k).map fewS ∧ OwnR 22 1 encSl wr w.heap.size R.val R.L ∧ Below w.heap.size w wr
set_option maxHeartbeats 4000000 in
theorem parts34_walk (l : Sl (Sl Dn)) (lp : Int) (w : World) (h : l.At (SlAt DnB 6) 1 w) : Calls Try.prog 6 #[l.val, .int .i64 lp] w fun e w' => e = .returned (.bool true) ∧ Below w.heap.size w w' := by
  obtain ⟨A, c, L⟩ := l
  obtain ⟨hr, hn, hc⟩ := h
  simp only [Sl.val] at *
  have hl2 : L.length ≤ 9223372036854775807 := by omega
  go_enter Try.func6, Try.ntmps6
  go_wp2_with fail
  go_loopw [5, 6] (fun v i wr => PtRel w L v i wr) (fun _ i _ => 6 - (intOf i).toNat)
  case atStart => exact ⟨0, ⟨none, 0, []⟩, Nat.zero_le _, Nat.zero_le _, rfl, rfl, rfl, OwnR.nil, Below.refl _ _⟩
  case round =>
    obtain ⟨k, R, hk, hk6, rfl, rfl, hRL, hown, hb⟩ := hrel
    by_cases hlt : k < L.length ∧ k < 6
    · have hlt1 := hlt.1
      have hlt2 := hlt.2
      have hx := List.getElem?_eq_getElem hlt1
      obtain ⟨a, hA, g0, hs⟩ := hr k _ hx
      rw [Nat.mul_one] at g0
      have hA2 : A = some a := hA
      clear hA
      subst hA2
      have g0 := keepc hb g0
      have hs := hs.below DnB.keeps hb
      generalize hsq : L[k] = sq at *
      have HSQ := hide hsq
      have kI : (k : Int) < (L.length : Int) := by omega
      have kJ : (0 : Int) ≤ (k : Int) := by omega
      have k6 : (k : Int) < 6 := by omega
      have HF := hide (few34_any sq wr hs)
      obtain ⟨R2, w2, hrun, hR2, hown2, hb2, _⟩ := sl_add (wc := w) hown hb (fewS sq) (by rw [hRL, List.length_map, List.length_take]; omega) 42
      have HB2 := hide hb2
      have HO2 := hide (show OwnR 22 1 encSl w2 w.heap.size R2.val R2.L by rw [hR2]; exact hown2)
      have HR2 := hide (show R2.L = (L.take (k + 1)).map fewS by
        rw [hR2, hRL, List.take_succ_eq_append_getElem hlt1, List.map_append, HSQ.out]
        rfl)
      clear hown hb hx hs hRL hR2 hown2 hb2 hr hsq hlt
      unfold Sl.val at g0 HF hrun ⊢
      generalize (fewS sq).A = fA at *
      generalize (fewS sq).L.length = fn at *
      generalize (fewS sq).c = fc at *
      go_wp2_with fail
      refine HF.out.mono ?_
      rintro e w3 ⟨rfl, rfl⟩
      clear g0 HF
      go_wp2_with (at_builtin; go_must (refine wpList_of_append rfl _ w2 _ _ 42 _ _ _ rfl rfl rfl hrun ?_))
      go_roundw
      case rel => exact ⟨k + 1, R2, by omega, by omega, rfl, by go_num, HR2.out, HO2.out, HB2.out⟩
      case measure => simp [intOf]; omega
    · have hat : ∀ x ∈ R.L, x.At DnB 6 wr := by
        intro x hx
        rw [hRL] at hx
        obtain ⟨s, hs, rfl⟩ := List.mem_map.1 hx
        obtain ⟨i, hi⟩ := List.mem_iff_getElem?.1 (List.mem_of_mem_take hs)
        obtain ⟨_, _, _, hA⟩ := hr i s hi
        exact fewS_at (hA.below DnB.keeps hb)
      have h40 : ∀ l ∈ R.L.map (·.L), l.length ≤ 40 := by
        intro x hx
        obtain ⟨s, hs, rfl⟩ := List.mem_map.1 hx
        rw [hRL] at hs
        obtain ⟨s', _, rfl⟩ := List.mem_map.1 hs
        exact fewS_len s'
      have hR6 : R.L.length ≤ 6 := by rw [hRL, List.length_map, List.length_take]; omega
      have htot : Mrg.total (R.L.map (·.L)) ≤ 240 := by
        have := total_le _ h40
        rw [List.length_map] at this
        omega
      have HRA := hide (own_sl hown hat)
      have HB := hide hb
      have hlen : (mrgP (R.L.map (·.L))).length ≤ 240 := by
        have h1 := (Mrg.merge_perm (c := cD) (Mrg.total (R.L.map (·.L))) (R.L.map (·.L)) (Nat.le_refl _)).length_eq
        unfold mrgP
        rw [h1, List.length_flatten]
        exact htot
      clear hown hb hr hRL hat h40
      have hno : ¬ (k : Int) < (L.length : Int) ∨ ¬ (k : Int) < 6 := by omega
      have HM1 := hide (rmerge34_any R wr HRA.out (by omega) (by omega))
      have key : ∀ W, Below wr.heap.size wr W → Calls Try.prog 25 #[R.val] W (DnTo W (mrgP (R.L.map (·.L)))) := fun W hW => merge34_any R W (HRA.out.below (SlAt.keeps DnB.keeps 6) hW) (by omega) (by omega)
      have HKY := hide key
      clear key
      generalize R.val = Rv at *
      generalize mrgP (R.L.map (·.L)) = M at *
      rcases (by omega : ¬ k < L.length ∨ (k < L.length ∧ ¬ k < 6)) with hno1 | ⟨hyes, hno1⟩
      all_goals
        clear hno hlt
        go_wp2_with fail
        refine HM1.out.mono ?_
        rintro e w2 ⟨q, rfl, hq, hoq, hb2⟩
        have HQ := hide hq
        have HA2 := hide (own_dn hoq).at_
        have HB2 := hide hb2
        clear hq hoq hb2
        go_wp2_with fail
        refine (awake34 _).mono ?_
        rintro e w3 ⟨rfl, hb3⟩
        have HA3 := hide (HA2.out.below DnB.keeps hb3)
        have HB3 := hide (below_after HB2.out hb3)
        clear hb3
        go_wp2_with fail
        refine (HKY.out _ HB3.out).mono ?_
        rintro e w4 ⟨q2, rfl, hq2, hoq2, hb4⟩
        have HQ2 := hide hq2
        have HA4 := hide (HA3.out.below DnB.keeps hb4)
        have HA42 := hide (own_dn hoq2).at_
        have HB4 := hide (below_after HB3.out hb4)
        clear hq2 hoq2 hb4
        go_wp2_with fail
        refine (r9same_any q2 q w4 HA42.out HA4.out).mono ?_
        rw [HQ2.out, ← HQ.out, eqL_self]
        rintro e w5 ⟨rfl, hb5⟩
        have HA5 := hide (HA4.out.below DnB.keeps hb5)
        have HB5 := hide (below_after HB4.out hb5)
        clear hb5
        go_wp2_with fail
        refine (of34_any q lp w5 HA5.out (by rw [HQ.out]; omega)).mono ?_
        rintro e w6 ⟨r1, rfl, hr1, hor1, hb6⟩
        have HR1 := hide hr1
        have HA6 := hide (HA5.out.below DnB.keeps hb6)
        have HA61 := hide (own_dn hor1).at_
        have HB6 := hide (below_after HB5.out hb6)
        clear hr1 hor1 hb6
        go_wp2_with fail
        refine (rof34_any q lp w6 HA6.out (by rw [HQ.out]; omega)).mono ?_
        rintro e w7 ⟨r2, rfl, hr2, hor2, hb7⟩
        have HR2 := hide hr2
        have HA71 := hide (HA61.out.below DnB.keeps hb7)
        have HA72 := hide (own_dn hor2).at_
        have HB7 := hide (below_after HB6.out hb7)
        clear hr2 hor2 hb7
        go_wp2_with fail
        refine (r9same_any r1 r2 w7 HA71.out HA72.out).mono ?_
        rw [HR1.out, HR2.out, eqL_self]
        rintro e w8 ⟨rfl, hb8⟩
        have HB8 := hide (below_after HB.out (below_after HB7.out hb8))
        clear hb8
        go_wp2_with fail
        go_ret
        exact ⟨rfl, HB8.out⟩
end Go.Proofs.Ytpfcmfannkbipaa
end
