/- Texts of this claim in one. No condition. -/
import Derived.Test.YtpfcmfannkbipaaJ53
import Derived.Test.YtpfcmfannkbipaaJ41
import Derived.Test.YtpfcmfannkbipaaJ42
section
set_option linter.unusedVariables false
set_option linter.unusedSimpArgs false
set_option maxRecDepth 20000
namespace Go.Proofs.Ytpfcmfannkbipaa
open Go.RowKit Go.Deep Go.Maps

attribute [local go_sem] run_store_float
def U8At : Dec Int := fun w p x => w.cell? p = some (.int .u8 x) ∧ 0 ≤ x ∧ x ≤ 255
theorem U8At.keeps : U8At.keeps := fun _ _ _ _ hb h => ⟨keepc hb h.1, h.2⟩
/-- A list behind a row of the call's own. -/
theorem dn_src (X : World) (B : Nat) (v : Value) (L M : List Dn) (A : Option Addr) (m c : Nat) (hown : OwnR 39 6 encDn X B v L) (hr : Reads X X.heap.size 6 A m (M.flatMap encDn)) (hm : M.length = m) (hs : L.length + M.length ≤ 1000000000) (hB : B ≤ X.heap.size) (ty : TypeId) :
    ∃ (q : Sl Dn) (X' : World), (Builtin.append_ #[22, 22] ty #[v, .slice A m c]).run Try.prog X = .ok q.val X' ∧ q.L = L ++ M ∧ OwnR 39 6 encDn X' B q.val q.L ∧ GExt X X' v q.val := by
  obtain ⟨v', X', hrun, hown', hext⟩ := run_append_src (P := Try.prog) 39 22 ty 6 48 (.agg #[.float .f64 0, .int .i64 0, .int .i64 0, .int .i64 0, .int .i64 0, .int .i64 0]) encDn (by decide) (fun _ => rfl) one_dn Try.underlying22 inf_dn rfl X B X.heap.size v L M A m c hown hr hm (by omega) (by omega) hB
  obtain ⟨q, rfl, hqL, _, _⟩ := hown'.form
  exact ⟨q, X', hrun, hqL, by rw [hqL]; exact hown', hext⟩
theorem run9_len (m : Mdl) : ∀ (n : Nat) (s : Sm9), (run9 m n s).2.2.length ≤ s.2.2.length + n
  | 0, s => Nat.le_refl _
  | n + 1, s => by
    have h1 := run9_len m n (step9 m s)
    have h2 : (step9 m s).2.2.length ≤ s.2.2.length + 1 := by
      cases h : s.2.1 with
      | nil => rw [step9_stop h]; omega
      | cons e r => rw [step9_eq h]; simp
    rw [run9]
    omega
/-- Two simulations of one model, the first run, the second as it began. -/
structure Two9 (m : Mdl) (w wb : World) (la ga ba lb gb bb : Nat) (Sa Sb : Value) (K : Nat) (q : Sl Dn) (wr : World) : Prop where
  pa : Pk9 la ga ba m K (run9 m K (new9 m)) Sa wr
  pb : Pk9 lb gb bb m 0 (new9 m) Sb wr
  qL : q.L = (run9 m K (new9 m)).2.2
  own : OwnR 39 6 encDn wr wb.heap.size q.val q.L
  bel : Below w.heap.size w wr
  sz : wb.heap.size ≤ wr.heap.size
  wsz : w.heap.size ≤ wb.heap.size
section
variable {m : Mdl} {w wb wr w' : World} {la ga ba lb gb bb K : Nat} {Sa Sb : Value} {q : Sl Dn}
theorem Two9.below (h : Two9 m w wb la ga ba lb gb bb Sa Sb K q wr) (hb : Below wr.heap.size wr w') : Two9 m w wb la ga ba lb gb bb Sa Sb K q w' :=
  ⟨h.pa.below hb, h.pb.below hb, h.qL, h.own.below hb, below_after h.bel hb, Nat.le_trans h.sz hb.size, h.wsz⟩
/-- A run of the first, what it hands back laid behind. -/
theorem Two9.round (h : Two9 m w wb la ga ba lb gb bb Sa Sb K q wr) (hda : ∀ k, tchv ga ba Sa k → w.heap.size ≤ k ∧ k < lb) (hdb : ∀ k, tchv gb bb Sb k → lb ≤ k) {d : Nat} {x : Ending} {w1 : World} (hK : K + d ≤ 1000) (hR : Run9pTo wr la ga ba m K d (run9 m K (new9 m)) Sa x w1) (ty : TypeId) :
    ∃ (rA : Option Addr) (rn rc : Nat) (q2 : Sl Dn) (w2 : World), x = .returned (.slice rA rn rc) ∧ (Builtin.append_ #[22, 22] ty #[q.val, .slice rA rn rc]).run Try.prog w1 = .ok q2.val w2 ∧ Two9 m w wb la ga ba lb gb bb Sa Sb (K + d) q2 w2 := by
  obtain ⟨⟨rA, rc, rL⟩, rfl, hrL, hown, hP, hO⟩ := hR
  simp only at hrL
  have hq1 := own_off9 h.pa h.own hO
  have hr := (TRow.of_own (e := 39) (d := DnB) (size := 6) (s := ⟨rA, rc, rL⟩) (ok := fun _ _ => True) (by decide) (fun _ => rfl) makes_dnb hown (fun _ _ => trivial)).at_
  have hlq : q.L.length ≤ 1000 := by
    have := run9_len m K (new9 m)
    have h0 : (new9 m).2.2.length = 0 := rfl
    rw [h.qL]
    omega
  have hlr : rL.length ≤ 1000 := by
    have := run9_len m d (run9 m K (new9 m))
    rw [hrL]
    unfold runL
    rw [List.length_drop]
    omega
  obtain ⟨q2, w2, hrun, hq2, ho2, hg2⟩ := dn_src w1 wb.heap.size q.val q.L rL rA rL.length rc hq1 (RowD.reads (d := DnB) (enc := encDn) (by decide) (fun _ => rfl) lays_dnb hr.1) rfl (by omega) (Nat.le_trans h.sz hO.size) ty
  have hPb1 : Pk9 lb gb bb m 0 (new9 m) Sb w1 := h.pb.off hO (fun k hk ht => by have := hda k ht; have := hdb k hk; omega) fun k t cs hk ht => h.pa.mty hk ht
  have hb1 : Below w.heap.size w w1 := h.bel.trans (hO.below h.bel.size fun k hk => (hda k hk).1)
  have hb2 := hb1.trans (hg2.below hb1.size fun k hk => Nat.le_trans h.wsz (hq1.base k hk))
  refine ⟨rA, rL.length, rc, q2, w2, rfl, hrun, ⟨?_, hPb1.grown9 hq1 hg2, ?_, ho2, hb2, Nat.le_trans h.sz (Nat.le_trans hO.size hg2.1.size), h.wsz⟩⟩
  · rw [run9_add]
    exact hP.grown9 hq1 hg2
  · rw [hq2, h.qL, hrL, run9_add, runL_eq]
end
set_option maxHeartbeats 4000000 in
theorem parts09_walk (m : Mdl) (ps : Sl Int) (w : World) (hm : m.At w) (hps : ps.At U8At 1 w) : Calls Try.prog 16 #[m.val, ps.val] w fun e w' => e = .returned (.bool true) ∧ Below w.heap.size w w' := by
  have hX := Blk.new w 58 #[.int .i64 m.seed, .float .f64 m.fin, m.dl.val, m.pl.val, m.ll.val, m.il.val]
  have hb := (Below.refl w.heap.size w).alloc (Nat.le_refl _) (.cells #[.int .i64 m.seed, .float .f64 m.fin, m.dl.val, m.pl.val, m.ll.val, m.il.val] 58)
  have hM1 := hm.below hb
  have HLI := hide (L08.light_any m _ hM1)
  have HM1 := hide hM1
  have HB := hide hb
  have HX := hide hX
  have HCH := hide (fun W (h : m.At W) => rcheck_any m W h)
  have HNG := hide (fun W (h : m.At W) hc => new9p_any m W h hc)
  have HPS := hide hps
  have hpc := hps.2
  clear hm hb hM1 hps
  simp only [Mdl.val] at HLI HCH HNG ⊢
  generalize m.dl.val = Vd at *
  generalize m.pl.val = Vp at *
  generalize m.ll.val = Vl at *
  generalize m.il.val = Vi at *
  obtain ⟨pA, pc, pl⟩ := ps
  unfold Sl.val
  simp only at hpc ⊢
  generalize L08.lightB m = li at *
  have x0 := hX.cell 0
  have x1 := hX.cell 1
  have x2 := hX.cell 2
  have x3 := hX.cell 3
  have x4 := hX.cell 4
  have x5 := hX.cell 5
  simp only [List.getElem?_toArray, List.getElem?_cons_zero, List.getElem?_cons_succ] at x0 x1 x2 x3 x4 x5
  clear hX
  go_enter Try.func16, Try.ntmps16
  go_upto_region 1 with fail
  generalize World.alloc w _ = w1 at *
  generalize hnb : w.heap.size = nb at *
  go_wp2_with fail
  refine HLI.out.mono ?_
  rintro e w2 ⟨rfl, hb2⟩
  have HM2 := hide (HM1.out.below hb2)
  have hX2 := HX.out.below hb2 HX.out.lt
  have HX2 := hide hX2
  have HB2 := hide (show Below nb w w2 from hnb ▸ below_after (hnb.symm ▸ HB.out) hb2)
  clear x0 x1 x2 x3 x4 x5 hb2 HM1 HX HB HLI
  have HNBE := hide hnb
  clear hnb
  cases li with
  | false =>
    clear HX2 HM2 HCH HNG hX2
    go_wp2_with fail
    refine (awake09 _).mono ?_
    rintro e w3 ⟨rfl, hb3⟩
    have HB3 := hide (below_after (HNBE.out.symm ▸ HB2.out) hb3)
    clear hb3
    go_wp2_with fail
    go_ret
    exact ⟨rfl, HB3.out⟩
  | true =>
    have x0 := hX2.cell 0
    have x1 := hX2.cell 1
    have x2 := hX2.cell 2
    have x3 := hX2.cell 3
    have x4 := hX2.cell 4
    have x5 := hX2.cell 5
    simp only [List.getElem?_toArray, List.getElem?_cons_zero, List.getElem?_cons_succ] at x0 x1 x2 x3 x4 x5
    clear hX2
    have HC2 := hide (HCH.out w2 HM2.out)
    clear HCH
    cases hck : chkB m with
    | false =>
      rw [show chkE m = 15 by unfold chkE; rw [hck]; rfl] at HC2
      clear HNG hck
      go_wp2_with fail
      refine HC2.out.mono ?_
      rintro e w3 ⟨rfl, hb3⟩
      have HB3 := hide (below_after (HNBE.out.symm ▸ HB2.out) hb3)
      clear hb3 HC2 x0 x1 x2 x3 x4 x5
      go_wp2_with fail
      refine (awake09 _).mono ?_
      rintro e w4 ⟨rfl, hb4⟩
      have HB4 := hide (below_after HB3.out hb4)
      clear hb4 HB3
      go_wp2_with fail
      go_ret
      exact ⟨rfl, HB4.out⟩
    | true =>
      rw [show chkE m = 0 by unfold chkE; rw [hck]; rfl] at HC2
      have HCK := hide hck
      clear hck
      go_wp2_with fail
      refine HC2.out.mono ?_
      rintro e w3 ⟨rfl, hb3⟩
      have HM3 := hide (HM2.out.below hb3)
      have hX3 := HX2.out.below hb3 HX2.out.lt
      have HX3 := hide hX3
      have HB3 := hide (below_after (HNBE.out.symm ▸ HB2.out) hb3)
      have HN3 := hide (HNG.out w3 HM3.out HCK.out)
      clear hb3 HC2 x0 x1 x2 x3 x4 x5 HM2 HX2 HB2
      have x0 := hX3.cell 0
      have x1 := hX3.cell 1
      have x2 := hX3.cell 2
      have x3 := hX3.cell 3
      have x4 := hX3.cell 4
      have x5 := hX3.cell 5
      simp only [List.getElem?_toArray, List.getElem?_cons_zero, List.getElem?_cons_succ] at x0 x1 x2 x3 x4 x5
      clear hX3
      go_wp2_with fail
      refine HN3.out.mono ?_
      intro e w4 hN
      obtain ⟨la, ga, ba, Sa, rfl, hla, hPa, hb4⟩ := new9_start HM3.out HCK.out hN
      have HM4 := hide (HM3.out.below hb4)
      have hX4 := HX3.out.below hb4 HX3.out.lt
      have HB4 := hide (below_after HB3.out hb4)
      have HN4 := hide (HNG.out w4 HM4.out HCK.out)
      have HTA := hide (fun k (hk : tchv ga ba Sa k) => And.intro (Nat.le_trans HB3.out.size (Nat.le_trans hla (hPa.tlo hk).1)) (hPa.tlo hk).2)
      have HPA := hide hPa
      clear hN HN3 hb4 hla hPa HX3 HM3 HB3 HNG x0 x1 x2 x3 x4 x5
      have x0 := hX4.cell 0
      have x1 := hX4.cell 1
      have x2 := hX4.cell 2
      have x3 := hX4.cell 3
      have x4 := hX4.cell 4
      have x5 := hX4.cell 5
      simp only [List.getElem?_toArray, List.getElem?_cons_zero, List.getElem?_cons_succ] at x0 x1 x2 x3 x4 x5
      clear hX4
      go_wp2_with fail
      refine HN4.out.mono ?_
      intro e w5 hN
      obtain ⟨lb, gb, bb, Sb, rfl, hlb, hPb, hb5⟩ := new9_start HM4.out HCK.out hN
      have HDA := hide (fun k (hk : tchv ga ba Sa k) => And.intro (HTA.out k hk).1 (Nat.lt_of_lt_of_le (HTA.out k hk).2 hlb))
      have HDB := hide (fun k (hk : tchv gb bb Sb k) => (hPb.tlo hk).1)
      have HB5 := hide (below_after HB4.out hb5)
      have HT := hide (show Two9 m w w5 la ga ba lb gb bb Sa Sb 0 ⟨none, 0, []⟩ w5 from ⟨HPA.out.below hb5, hPb, rfl, OwnR.nil, HB5.out, Nat.le_refl _, HB5.out.size⟩)
      clear hN HN4 hb5 hlb hPb HM4 HB4 HTA HPA HB5 x0 x1 x2 x3 x4 x5
      go_wp2_with fail
      go_loopw [9, 10, 11] (fun l n i wr => ∃ (k K : Nat) (q : Sl Dn), k ≤ pl.length ∧ k ≤ 8 ∧ K ≤ 14 * k ∧ l = q.val ∧ n = .int .i64 K ∧ i = .int .i64 k ∧ Two9 m w w5 la ga ba lb gb bb Sa Sb K q wr) (fun _ _ i _ => 8 - (intOf i).toNat)
      case atStart => exact ⟨0, 0, ⟨none, 0, []⟩, Nat.zero_le _, Nat.zero_le _, Nat.le_refl _, rfl, rfl, rfl, HT.out⟩
      case round =>
        clear HT
        obtain ⟨k, K, q, hk, hk8, hK, rfl, rfl, rfl, hT⟩ := hrel
        by_cases hlt : k < pl.length ∧ k < 8
        · obtain ⟨hlt1, hlt2⟩ := hlt
          have hx := List.getElem?_eq_getElem hlt1
          obtain ⟨a, hA, u0, ux0, ux1⟩ := (HPS.out.1.below U8At.keeps hT.bel) k _ hx
          have hA2 : pA = some a := hA
          clear hA
          subst hA2
          generalize pl[k] = x at *
          rw [Nat.mul_one] at u0
          have kI : (k : Int) < (pl.length : Int) := by omega
          have kJ : (0 : Int) ≤ (k : Int) := by omega
          have k8 : (k : Int) < 8 := by omega
          obtain ⟨d, hd, hd14⟩ : ∃ d : Nat, x % 15 = (d : Int) ∧ d ≤ 14 := ⟨(x % 15).toNat, by omega, by omega⟩
          have HD := hide hd
          have HRN := hide (run9p_any hT.pa d (by omega))
          have HT := hide hT
          clear hT hx hd
          unfold Sl.val
          go_wp2_with fail
          rw [HD.out]
          refine HRN.out.mono ?_
          intro e w6 hR
          obtain ⟨rA, rn, rc, q2, w7, rfl, hrun, hT7⟩ := HT.out.round HDA.out HDB.out (by omega) hR 22
          have HT7 := hide hT7
          unfold Sl.val at hrun
          clear hR hT7 HRN HT u0
          go_wp2_with (at_builtin; go_must (refine wpList_of_append rfl _ w7 _ _ 22 _ _ _ rfl rfl rfl hrun ?_))
          go_roundw
          case rel => exact ⟨k + 1, K + d, q2, by omega, by omega, by omega, rfl, by go_num, by go_num, HT7.out⟩
          case measure => simp [intOf]; omega
        · have HT := hide hT
          have hKb : K ≤ 1000 := by omega
          clear hT
          rcases (by omega : ¬ k < pl.length ∨ (k < pl.length ∧ ¬ k < 8)) with h1 | ⟨h1, h2⟩
          all_goals
            clear hlt
            unfold Sl.val
            go_wp2_with fail
            refine (awake09 _).mono ?_
            rintro e w6 ⟨rfl, hb6⟩
            have hT6 := HT.out.below hb6
            have HRN := hide (run9p_any hT6.pb K (by omega))
            have HT6 := hide hT6
            clear hb6 hT6 HT
            go_wp2_with fail
            refine HRN.out.mono ?_
            rintro e w7 ⟨r, rfl, hrL, hown, hPb, hO⟩
            have hPa : Pk9 la ga ba m K (run9 m K (new9 m)) Sa w7 := HT6.out.pa.off hO (fun k hk ht => by have := (HDA.out k hk).2; have := HDB.out k ht; omega) fun k t cs hk ht => HT6.out.pb.mty hk ht
            have hq7 := own_off9 HT6.out.pb HT6.out.own hO
            have HQA := hide ((TRow.of_own (e := 39) (d := DnB) (size := 6) (s := q) (ok := fun _ _ => True) (by decide) (fun _ => rfl) makes_dnb hq7 (fun _ _ => trivial)).at_)
            have HRA := hide ((TRow.of_own (e := 39) (d := DnB) (size := 6) (s := r) (ok := fun _ _ => True) (by decide) (fun _ => rfl) makes_dnb hown (fun _ _ => trivial)).at_)
            have HRS := hide (r9same_any q r w7 HQA.out HRA.out)
            have hqr : r.L = q.L := by rw [hrL, HT6.out.qL, runL_new]
            rw [hqr, eqL_self] at HRS
            have HB7 := hide (HT6.out.bel.trans (hO.below HT6.out.bel.size fun k hk => by
              have h3 := HDB.out k hk
              have h4 := (HDA.out ga (.inl rfl))
              omega))
            have HPA := hide hPa
            have HPB := hide hPb
            clear hrL hown hPb hO hPa hq7 HQA HRA HT6 HRN hqr
            unfold Sl.val at HRS
            go_wp2_with fail
            refine HRS.out.mono ?_
            rintro e w8 ⟨rfl, hb8⟩
            have HWA := hide (waiting9p_any (HPA.out.below hb8))
            have HWB := hide (waiting9p_any (HPB.out.below hb8))
            have HB8 := hide (below_after HB7.out hb8)
            clear hb8 HRS HPA HPB HB7
            generalize (run9 m K (new9 m)).2.1.length = wn at *
            go_wp2_with fail
            refine HWA.out.mono ?_
            rintro e w9 ⟨rfl, rfl⟩
            go_wp2_with fail
            refine HWB.out.mono ?_
            rintro e w9 ⟨rfl, rfl⟩
            go_wp2_with fail
            go_ret
            exact ⟨rfl, HB8.out⟩
end Go.Proofs.Ytpfcmfannkbipaa
end

section
set_option linter.unusedVariables false
set_option linter.unusedSimpArgs false
set_option maxRecDepth 20000
namespace Go.Proofs.Ytpfcmfannkbipaa
open Go.RowKit Go.Deep Go.ChangeShapes Go.WideShapes Go.Joins
section
variable {H : Type} {enc : TypeId × Value → H} {w : World} {base : Nat} {spare : Nat → Bool} {held : Bool}
theorem reads_u8 : ReadsAs enc Try.prog w base spare held 5 1 U8At := by
  intro A n cs y hc ht
  obtain ⟨_, hcl, hat⟩ := World.cells?_some hc
  match cs, hcl with
  | [c0], _ =>
    obtain ⟨z, e0, _, wz⟩ := DataW.trod_int Try.underlying5 ht
    injection e0 with e0
    subst e0
    exact ⟨z, hat 0 (by decide), bounds_u8 wz⟩
theorem open_u8s {r : Reach} {b0 : Nat} {v : Value} {d : DataW H} {p : List MemPlace} (hv : Value.okWide Try.prog w r b0 90 v) (h : DataW.Trod enc Try.prog w base spare held 90 v d p) :
    ∃ s : Sl Int, v = s.val ∧ s.At U8At 1 w := by
  obtain ⟨a, l, c, rfl⟩ := okWide_slice Try.underlying90 hv
  obtain ⟨f, hf⟩ := h
  exact open_rowD Try.underlying90 (by kernel_rfl) reads_u8 hf
end
end Go.Proofs.Ytpfcmfannkbipaa
end
