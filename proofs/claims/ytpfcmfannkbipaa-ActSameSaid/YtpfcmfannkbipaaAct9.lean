/- The walks of act's Begin and R08's Begin. No condition. -/
import Derived.Test.YtpfcmfannkbipaaAct8
import Derived.Test.YtpfcmfannkbipaaStill
import Derived.Deep.QuietTactic
import Derived.BigQuiet
set_option linter.unusedVariables false
set_option linter.unusedSimpArgs false
set_option maxRecDepth 20000
namespace Go.Proofs.Ytpfcmfannkbipaa
open Go.RowKit Go.Deep

attribute [local go_sem] run_store_float
def begR (m : Mdl) : List Ev := if chkB m = true then begV m.fin 0 m.il.L else []
def BegTo (w : World) (m : Mdl) (e : Ending) (w' : World) : Prop := ∃ q : Sl Ev, e = .returned (.tuple #[q.val, .int .i64 (chkE m)]) ∧ q.L = begR m ∧ OwnR 37 5 encEv w' w.heap.size q.val q.L ∧ Below w.heap.size w w'
def BgRel (wc : World) (fin : Nat) (L : List Init3) (v i : Value) (wr : World) : Prop :=
  ∃ (k : Nat) (q : Sl Ev), k ≤ L.length ∧ v = q.val ∧ i = .int .i64 k ∧ q.L = begV fin 0 (L.take k) ∧ OwnR 37 5 encEv wr wc.heap.size q.val q.L ∧ Below wc.heap.size wc wr
set_option maxHeartbeats 2000000 in
theorem begin8_any (m : Mdl) (w : World) (hm : m.At w) : Calls Try.prog 50 #[m.val] w (BegTo w m) := by
  have hck := fun W (h : Below w.heap.size w W) => check_any m W (hm.below h)
  have hX := Blk.new w 58 #[.int .i64 m.seed, .float .f64 m.fin, m.dl.val, m.pl.val, m.ll.val, m.il.val]
  have hb0 : Below w.heap.size w (w.alloc (.cells #[.int .i64 m.seed, .float .f64 m.fin, m.dl.val, m.pl.val, m.ll.val, m.il.val] 58)) := (Below.refl _ _).alloc (Nat.le_refl _) _
  have n1 : m.il.L.length ≤ m.il.c ∧ m.il.c ≤ 9223372036854775807 := hm.2.2.2.2.2.2
  by_cases hc : chkB m = true
  · have hcE : chkE m = 0 := if_pos hc
    rw [hcE] at hck
    have hP := fun (q : Sl Ev) W (h0 : q.L = begV m.fin 0 m.il.L) (h1 : OwnR 37 5 encEv W w.heap.size q.val q.L) (h2 : Below w.heap.size w W) => (show BegTo w m (.returned (.tuple #[q.val, .int .i64 0])) W from
      ⟨q, by rw [hcE], by unfold begR; rw [if_pos hc]; exact h0, h1, h2⟩)
    have hc7 := (chk_counts hc).2.2.2.2.2.2
    have HR := hide (fun W (h : Below w.heap.size w W) => hm.2.2.2.2.2.1.below InitAt.keeps h)
    generalize BegTo w m = Post at *
    have HP := hide hP
    have HC := hide (hck _ hb0)
    clear hP hm hck hc hcE
    obtain ⟨seed, fin, dl, pl, ll, ⟨iA, ic, il⟩⟩ := m
    simp only [Mdl.val, Sl.val] at *
    have q1 : il.length ≤ 9223372036854775807 := by omega
    have HB := hide hb0
    clear hb0 n1
    have x0 := hX.cell 0
    have x1 := hX.cell 1
    have x2 := hX.cell 2
    have x3 := hX.cell 3
    have x4 := hX.cell 4
    have x5 := hX.cell 5
    simp only [List.getElem?_toArray, List.getElem?_cons_zero, List.getElem?_cons_succ] at x0 x1 x2 x3 x4 x5
    go_enter Try.func50, Try.ntmps50
    go_upto_region 1 with fail
    generalize (World.alloc w _) = w0 at *
    go_wp2_with fail
    refine HC.out.mono ?_
    rintro e wc ⟨rfl, hb1⟩
    clear x0 x1 x2 x3 x4 x5
    replace hX := hX.below hb1 hX.lt
    have HX := hide hX
    have x0 := hX.cell 0
    have x1 := hX.cell 1
    have x2 := hX.cell 2
    have x3 := hX.cell 3
    have x4 := hX.cell 4
    have x5 := hX.cell 5
    simp only [List.getElem?_toArray, List.getElem?_cons_zero, List.getElem?_cons_succ] at x0 x1 x2 x3 x4 x5
    have HB2 := hide (below_after HB.out hb1)
    clear hX hb1 HB HC
    go_wp2_with fail
    clear x0 x1 x2 x3 x4 x5
    go_loopw [4, 15] (fun v i wr => BgRel wc fin il v i wr) (fun _ i _ => il.length - (intOf i).toNat)
    case atStart => exact ⟨0, ⟨none, 0, []⟩, Nat.zero_le _, rfl, rfl, rfl, OwnR.nil, Below.refl _ _⟩
    case round =>
      obtain ⟨k, q, hk, rfl, rfl, hqL, hown, hbr⟩ := hrel
      by_cases hlt : k < il.length
      · have hx := List.getElem?_eq_getElem hlt
        obtain ⟨a, hA, g0, g1, g2, _⟩ := (HR.out wr (below_after HB2.out hbr)) k _ hx
        have hA2 : iA = some a := hA
        clear hA
        subst hA2
        generalize il[k] = x2 at *
        have kI : (k : Int) < (il.length : Int) := by omega
        have kJ : (0 : Int) ≤ (k : Int) := by omega
        have x1 := keepc (hbr.alloc hbr.size (.cells #[.float .f64 x2.1, .int .i64 x2.2.1, .int .i64 x2.2.2] 125)) (HX.out.cell 1)
        have HBF := hide (begV_take (fin := fin) hx)
        have HF := hide (show begF fin k x2 = if timesI (normF x2.1) fin ≤ 0 then [(normF x2.1, -1, (k : Int), x2.2.1, x2.2.2)] else [] from rfl)
        have hno := fun W => norm_any x2.1 W
        generalize normF x2.1 = T at *
        generalize normE x2.1 = U at *
        have hq3 : q.L.length ≤ 1000 := by rw [hqL]; exact Nat.le_trans (begV_len fin (il.take k) 0) (by rw [List.length_take]; omega)
        have ha := (Below.refl wr.heap.size wr).alloc (Nat.le_refl _) (.cells #[.float .f64 x2.1, .int .i64 x2.2.1, .int .i64 x2.2.2] 125)
        obtain ⟨q2, w2, hrun, hq2, hown2, hb3⟩ := ev_add (wc := wc) (hown.below ha) (below_after hbr ha) (T, -1, (k : Int), x2.2.1, x2.2.2) hq3 65
        simp only at hrun hq2 hown2
        rw [show (wr.alloc (.cells #[.float .f64 x2.1, .int .i64 x2.2.1, .int .i64 x2.2.2] 125)).heap.size = wr.heap.size + 1 from Array.size_push ..] at hrun
        have HO := hide (hown.below ha)
        have HBR := hide (below_after hbr ha)
        have HQ := hide hqL
        have HO2 := hide (show OwnR 37 5 encEv w2 wc.heap.size q2.val q2.L from by rw [hq2]; exact hown2)
        have HQ2 := hide hq2
        have HB3 := hide hb3
        clear hown hbr hqL hown2 hq2 hb3 ha hx hq3
        by_cases hT : timesI T fin ≤ 0
        · have HF2 := hide (HF.out.trans (if_pos hT))
          clear HF HO HBR
          go_wp2_with fail
          refine (hno _).mono ?_
          rintro e w3 ⟨rfl, rfl⟩
          go_wp2_with fail
          refine (times_any _ _ _).mono ?_
          rintro e w3 ⟨rfl, rfl⟩
          go_wp2_with (at_builtin; go_must (refine wpList_of_append rfl _ w2 _ _ 65 _ _ _ rfl rfl rfl hrun ?_))
          go_roundw
          case rel => exact ⟨k + 1, q2, by omega, rfl, by go_num, by rw [HQ2.out, HBF.out, HF2.out, HQ.out], HO2.out, HB3.out⟩
          case measure => simp [intOf]; omega
        · have HF2 := hide (HF.out.trans (if_neg hT))
          clear HF HO2 HB3 hrun
          go_wp2_with fail
          refine (hno _).mono ?_
          rintro e w3 ⟨rfl, rfl⟩
          go_wp2_with fail
          refine (times_any _ _ _).mono ?_
          rintro e w3 ⟨rfl, rfl⟩
          go_wp2_with fail
          go_roundw
          case rel => exact ⟨k + 1, q, by omega, rfl, by go_num, by rw [HBF.out, HF2.out, HQ.out, List.append_nil], HO.out, HBR.out⟩
          case measure => simp [intOf]; omega
      · obtain rfl : k = il.length := by omega
        rw [List.take_length] at hqL
        have HH := hide (HP.out q wr hqL (hown.lower HB2.out.size) (below_after HB2.out hbr))
        clear hqL hown hbr
        go_wp2_with fail
        first | exact HH.out | (go_ret2; exact HH.out)
  · have hcE : chkE m = 15 := if_neg hc
    rw [hcE] at hck
    have hP := fun W (h2 : Below w.heap.size w W) => (show BegTo w m (.returned (.tuple #[.slice none 0 0, .int .i64 15])) W from
      ⟨⟨none, 0, []⟩, by rw [hcE]; rfl, by unfold begR; rw [if_neg hc], OwnR.nil, h2⟩)
    generalize BegTo w m = Post at *
    have HP := hide hP
    have HC := hide (hck _ hb0)
    clear hP hm hck hc hcE
    obtain ⟨seed, fin, dl, pl, ll, ⟨iA, ic, il⟩⟩ := m
    simp only [Mdl.val, Sl.val] at *
    have HB := hide hb0
    clear hb0 n1
    have x0 := hX.cell 0
    have x1 := hX.cell 1
    have x2 := hX.cell 2
    have x3 := hX.cell 3
    have x4 := hX.cell 4
    have x5 := hX.cell 5
    simp only [List.getElem?_toArray, List.getElem?_cons_zero, List.getElem?_cons_succ] at x0 x1 x2 x3 x4 x5
    go_enter Try.func50, Try.ntmps50
    go_upto_region 1 with fail
    generalize (World.alloc w _) = w0 at *
    go_wp2_with fail
    refine HC.out.mono ?_
    rintro e wc ⟨rfl, hb1⟩
    clear x0 x1 x2 x3 x4 x5
    have HH := hide (HP.out wc (below_after HB.out hb1))
    clear hX hb1 HC HP HB
    go_wp2_with fail
    first | exact HH.out | (go_ret2; exact HH.out)
end Go.Proofs.Ytpfcmfannkbipaa
