/- Texts of this claim in one. No condition. -/
import Derived.Test.YtpfcmfannkbipaaJ14
import Derived.Test.YtpfcmfannkbipaaJ07
import Derived.Deep.QuietTactic
import Derived.BigQuiet
import Derived.Test.YtpfcmfannkbipaaJ11
section
set_option linter.unusedVariables false
set_option linter.unusedSimpArgs false
set_option maxRecDepth 20000
namespace Go.Proofs.Ytpfcmfannkbipaa
open Go.RowKit Go.Deep

attribute [local go_sem] run_store_float
def begR (m : Mdl) : List Ev := if chkB m = true then begV m.fin 0 m.il.L else []
def BegTo (w : World) (m : Mdl) (e : Ending) (w' : World) : Prop := ∃ q : Sl Ev, e = .returned (.tuple #[q.val, .int .i64 (chkE m)]) ∧ q.L = begR m ∧ OwnR 37 5 encEv w' w.heap.size q.val q.L ∧ Below w.heap.size w w'
def BgRel (wc : World) (fin : Nat) (L : List Init3) (v i : Value) (wr : World) : Prop :=
  ∃ (k : Nat) (q : Sl Ev), k ≤ L.length ∧ v = q.val ∧ i = .int .i64 k ∧ q.L = begV fin 0 (L.take k) ∧ OwnR 37 5 encEv wr wc.heap.size q.val q.L ∧ Below wc.heap.size wc wr
set_option maxHeartbeats 2000000 in
theorem begin8_any (m : Mdl) (w : World) (hm : m.At w) : Calls Try.prog 50 #[m.val] w (BegTo w m) := by
  have hck := fun W (h : Below w.heap.size w W) => check_any m W (hm.below h)
  have hX := Blk.new w 58 #[.int .i64 m.seed, .float .f64 m.fin, m.dl.val, m.pl.val, m.ll.val, m.il.val]
  have hb0 : Below w.heap.size w (w.alloc (.cells #[.int .i64 m.seed, .float .f64 m.fin, m.dl.val, m.pl.val, m.ll.val, m.il.val] 58)) := (Below.refl _ _).alloc (Nat.le_refl _) _
  have n1 : m.il.L.length ≤ m.il.c ∧ m.il.c ≤ 9223372036854775807 := hm.2.2.2.2.2.2
  by_cases hc : chkB m = true
  · have hcE : chkE m = 0 := if_pos hc
    rw [hcE] at hck
    have hP := fun (q : Sl Ev) W (h0 : q.L = begV m.fin 0 m.il.L) (h1 : OwnR 37 5 encEv W w.heap.size q.val q.L) (h2 : Below w.heap.size w W) => (show BegTo w m (.returned (.tuple #[q.val, .int .i64 0])) W from
      ⟨q, by rw [hcE], by unfold begR; rw [if_pos hc]; exact h0, h1, h2⟩)
    have hc7 := (chk_counts hc).2.2.2.2.2.2
    have HR := hide (fun W (h : Below w.heap.size w W) => hm.2.2.2.2.2.1.below InitAt.keeps h)
    generalize BegTo w m = Post at *
    have HP := hide hP
    have HC := hide (hck _ hb0)
    clear hP hm hck hc hcE
    obtain ⟨seed, fin, dl, pl, ll, ⟨iA, ic, il⟩⟩ := m
    simp only [Mdl.val, Sl.val] at *
    have q1 : il.length ≤ 9223372036854775807 := by omega
    have HB := hide hb0
    clear hb0 n1
    have x0 := hX.cell 0
    have x1 := hX.cell 1
    have x2 := hX.cell 2
    have x3 := hX.cell 3
    have x4 := hX.cell 4
    have x5 := hX.cell 5
    simp only [List.getElem?_toArray, List.getElem?_cons_zero, List.getElem?_cons_succ] at x0 x1 x2 x3 x4 x5
    go_enter Try.func50, Try.ntmps50
    go_upto_region 1 with fail
    generalize (World.alloc w _) = w0 at *
    go_wp2_with fail
    refine HC.out.mono ?_
    rintro e wc ⟨rfl, hb1⟩
    clear x0 x1 x2 x3 x4 x5
    replace hX := hX.below hb1 hX.lt
    have HX := hide hX
    have x0 := hX.cell 0
    have x1 := hX.cell 1
    have x2 := hX.cell 2
    have x3 := hX.cell 3
    have x4 := hX.cell 4
    have x5 := hX.cell 5
    simp only [List.getElem?_toArray, List.getElem?_cons_zero, List.getElem?_cons_succ] at x0 x1 x2 x3 x4 x5
    have HB2 := hide (below_after HB.out hb1)
    clear hX hb1 HB HC
    go_wp2_with fail
    clear x0 x1 x2 x3 x4 x5
    go_loopw [4, 15] (fun v i wr => BgRel wc fin il v i wr) (fun _ i _ => il.length - (intOf i).toNat)
    case atStart => exact ⟨0, ⟨none, 0, []⟩, Nat.zero_le _, rfl, rfl, rfl, OwnR.nil, Below.refl _ _⟩
    case round =>
      obtain ⟨k, q, hk, rfl, rfl, hqL, hown, hbr⟩ := hrel
      by_cases hlt : k < il.length
      · have hx := List.getElem?_eq_getElem hlt
        obtain ⟨a, hA, g0, g1, g2, _⟩ := (HR.out wr (below_after HB2.out hbr)) k _ hx
        have hA2 : iA = some a := hA
        clear hA
        subst hA2
        generalize il[k] = x2 at *
        have kI : (k : Int) < (il.length : Int) := by omega
        have kJ : (0 : Int) ≤ (k : Int) := by omega
        have x1 := keepc (hbr.alloc hbr.size (.cells #[.float .f64 x2.1, .int .i64 x2.2.1, .int .i64 x2.2.2] 125)) (HX.out.cell 1)
        have HBF := hide (begV_take (fin := fin) hx)
        have HF := hide (show begF fin k x2 = if timesI (normF x2.1) fin ≤ 0 then [(normF x2.1, -1, (k : Int), x2.2.1, x2.2.2)] else [] from rfl)
        have hno := fun W => norm_any x2.1 W
        generalize normF x2.1 = T at *
        generalize normE x2.1 = U at *
        have hq3 : q.L.length ≤ 1000 := by rw [hqL]; exact Nat.le_trans (begV_len fin (il.take k) 0) (by rw [List.length_take]; omega)
        have ha := (Below.refl wr.heap.size wr).alloc (Nat.le_refl _) (.cells #[.float .f64 x2.1, .int .i64 x2.2.1, .int .i64 x2.2.2] 125)
        obtain ⟨q2, w2, hrun, hq2, hown2, hb3⟩ := ev_add (wc := wc) (hown.below ha) (below_after hbr ha) (T, -1, (k : Int), x2.2.1, x2.2.2) hq3 65
        simp only at hrun hq2 hown2
        rw [show (wr.alloc (.cells #[.float .f64 x2.1, .int .i64 x2.2.1, .int .i64 x2.2.2] 125)).heap.size = wr.heap.size + 1 from Array.size_push ..] at hrun
        have HO := hide (hown.below ha)
        have HBR := hide (below_after hbr ha)
        have HQ := hide hqL
        have HO2 := hide (show OwnR 37 5 encEv w2 wc.heap.size q2.val q2.L from by rw [hq2]; exact hown2)
        have HQ2 := hide hq2
        have HB3 := hide hb3
        clear hown hbr hqL hown2 hq2 hb3 ha hx hq3
        by_cases hT : timesI T fin ≤ 0
        · have HF2 := hide (HF.out.trans (if_pos hT))
          clear HF HO HBR
          go_wp2_with fail
          refine (hno _).mono ?_
          rintro e w3 ⟨rfl, rfl⟩
          go_wp2_with fail
          refine (times_any _ _ _).mono ?_
          rintro e w3 ⟨rfl, rfl⟩
          go_wp2_with (at_builtin; go_must (refine wpList_of_append rfl _ w2 _ _ 65 _ _ _ rfl rfl rfl hrun ?_))
          go_roundw
          case rel => exact ⟨k + 1, q2, by omega, rfl, by go_num, by rw [HQ2.out, HBF.out, HF2.out, HQ.out], HO2.out, HB3.out⟩
          case measure => simp [intOf]; omega
        · have HF2 := hide (HF.out.trans (if_neg hT))
          clear HF HO2 HB3 hrun
          go_wp2_with fail
          refine (hno _).mono ?_
          rintro e w3 ⟨rfl, rfl⟩
          go_wp2_with fail
          refine (times_any _ _ _).mono ?_
          rintro e w3 ⟨rfl, rfl⟩
          go_wp2_with fail
          go_roundw
          case rel => exact ⟨k + 1, q, by omega, rfl, by go_num, by rw [HBF.out, HF2.out, HQ.out, List.append_nil], HO.out, HBR.out⟩
          case measure => simp [intOf]; omega
      · obtain rfl : k = il.length := by omega
        rw [List.take_length] at hqL
        have HH := hide (HP.out q wr hqL (hown.lower HB2.out.size) (below_after HB2.out hbr))
        clear hqL hown hbr
        go_wp2_with fail
        first | exact HH.out | (go_ret2; exact HH.out)
  · have hcE : chkE m = 15 := if_neg hc
    rw [hcE] at hck
    have hP := fun W (h2 : Below w.heap.size w W) => (show BegTo w m (.returned (.tuple #[.slice none 0 0, .int .i64 15])) W from
      ⟨⟨none, 0, []⟩, by rw [hcE]; rfl, by unfold begR; rw [if_neg hc], OwnR.nil, h2⟩)
    generalize BegTo w m = Post at *
    have HP := hide hP
    have HC := hide (hck _ hb0)
    clear hP hm hck hc hcE
    obtain ⟨seed, fin, dl, pl, ll, ⟨iA, ic, il⟩⟩ := m
    simp only [Mdl.val, Sl.val] at *
    have HB := hide hb0
    clear hb0 n1
    have x0 := hX.cell 0
    have x1 := hX.cell 1
    have x2 := hX.cell 2
    have x3 := hX.cell 3
    have x4 := hX.cell 4
    have x5 := hX.cell 5
    simp only [List.getElem?_toArray, List.getElem?_cons_zero, List.getElem?_cons_succ] at x0 x1 x2 x3 x4 x5
    go_enter Try.func50, Try.ntmps50
    go_upto_region 1 with fail
    generalize (World.alloc w _) = w0 at *
    go_wp2_with fail
    refine HC.out.mono ?_
    rintro e wc ⟨rfl, hb1⟩
    clear x0 x1 x2 x3 x4 x5
    have HH := hide (HP.out wc (below_after HB.out hb1))
    clear hX hb1 HC HP HB
    go_wp2_with fail
    first | exact HH.out | (go_ret2; exact HH.out)
end Go.Proofs.Ytpfcmfannkbipaa
end

section
set_option linter.unusedVariables false
set_option linter.unusedSimpArgs false
set_option maxRecDepth 20000
namespace Go.Proofs.Ytpfcmfannkbipaa
open Go.RowKit Go.Deep

attribute [local go_sem] run_store_float
/-- 'append([]E{}, s...)': a copy in memory of its own. -/
theorem app_new {P : Program} {α : Type} {d : Dec α} (e T ty : TypeId) (size bytes : Nat) (z : Value) (enc : α → List Value) (hsz : 0 < size) (hlen : ∀ x, (enc x).length = size) (hone : ∀ x, ∀ u ∈ enc x, u.oneCell' = true)
    (hT : P.underlying T = some (.slice e)) (hinf : (P.info? e).map (fun i => (i.zero, i.size, i.bytes)) = some (some z, size, bytes)) (hz : z.cells.size = size) (hl : Lays d enc)
    (w : World) (s : Sl α) (hs : s.At d size w) (hb : s.L.length * bytes ≤ 140737488355328) (h6 : s.L.length ≤ 9223372036854775807) :
    ∃ v' w', (Builtin.append_ #[T, T] ty #[.slice (some ⟨w.heap.size, 0, none⟩) 0 0, .slice s.A s.L.length s.c]).run P (w.alloc (.cells #[] e)) = .ok v' w' ∧ OwnR e size enc w' w.heap.size v' s.L ∧ Below w.heap.size w w' := by
  have hown : OwnR e size enc (w.alloc (.cells #[] e)) w.heap.size (.slice (some ⟨w.heap.size, 0, none⟩) 0 0) ([] : List α) :=
    ⟨by simp, .inr ⟨w.heap.size, 0, #[], rfl, Nat.le_refl _, Blk.new w e #[], Nat.le_refl _, Nat.zero_le _, by simp, by simp⟩⟩
  have hz1 : (w.alloc (.cells #[] e)).heap.size = w.heap.size + 1 := Array.size_push ..
  have hr := (RowD.reads hsz hlen hl hs.1).alloc (Nat.le_refl _) (.cells #[] e)
  obtain ⟨v', w', hrun, h2, h3⟩ := run_append_src (P := P) e T ty size bytes z enc hsz hlen hone hT hinf hz (w.alloc (.cells #[] e)) w.heap.size w.heap.size _ [] s.L s.A s.L.length s.c hown hr rfl (by simpa using hb) (by simpa using h6) (by rw [hz1]; omega)
  refine ⟨v', w', hrun, h2, ?_⟩
  have h4 : Below w.heap.size (w.alloc (.cells #[] e)) w' := h3.below (by rw [hz1]; omega) (fun k hk => Nat.le_of_eq (Option.some.inj hk))
  exact ((Below.refl w.heap.size w).alloc (Nat.le_refl _) _).trans h4
def RBegTo (w : World) (m : Mdl) (e : Ending) (w' : World) : Prop := ∃ q : Sl Ev, e = .returned q.val ∧ q.L = begV m.fin 0 m.il.L ∧ OwnR 37 5 encEv w' w.heap.size q.val q.L ∧ Below w.heap.size w w'
set_option maxHeartbeats 2000000 in
theorem rbegin_any (m : Mdl) (w : World) (hm : m.At w) (hc : chkB m = true) : Calls Try.prog 52 #[m.val] w (RBegTo w m) := by
  have hX := Blk.new w 58 #[.int .i64 m.seed, .float .f64 m.fin, m.dl.val, m.pl.val, m.ll.val, m.il.val]
  have hb0 : Below w.heap.size w (w.alloc (.cells #[.int .i64 m.seed, .float .f64 m.fin, m.dl.val, m.pl.val, m.ll.val, m.il.val] 58)) := (Below.refl _ _).alloc (Nat.le_refl _) _
  have n1 : m.il.L.length ≤ m.il.c ∧ m.il.c ≤ 9223372036854775807 := hm.2.2.2.2.2.2
  have hP := fun (q : Sl Ev) W (h0 : q.L = begV m.fin 0 m.il.L) (h1 : OwnR 37 5 encEv W w.heap.size q.val q.L) (h2 : Below w.heap.size w W) => (show RBegTo w m (.returned q.val) W from ⟨q, rfl, h0, h1, h2⟩)
  have hc7 := (chk_counts hc).2.2.2.2.2.2
  have HNF := hide (chk_parts hc).2.1
  have HR := hide (fun W (h : Below w.heap.size w W) => hm.2.2.2.2.2.1.below InitAt.keeps h)
  generalize RBegTo w m = Post at *
  have HP := hide hP
  clear hP hm hc
  obtain ⟨seed, fin, dl, pl, ll, ⟨iA, ic, il⟩⟩ := m
  simp only [Mdl.val, Sl.val] at *
  have q1 : il.length ≤ 9223372036854775807 := by omega
  have HX := hide hX
  have HB2 := hide hb0
  clear hb0 n1
  have x0 := hX.cell 0
  have x1 := hX.cell 1
  have x2 := hX.cell 2
  have x3 := hX.cell 3
  have x4 := hX.cell 4
  have x5 := hX.cell 5
  simp only [List.getElem?_toArray, List.getElem?_cons_zero, List.getElem?_cons_succ] at x0 x1 x2 x3 x4 x5
  clear hX
  go_enter Try.func52, Try.ntmps52
  go_upto_region 1 with fail
  generalize World.alloc w _ = wc at *
  go_wp2_with fail
  clear x0 x1 x2 x3 x4 x5
  go_loopw [3, 4] (fun v i wr => BgRel wc fin il v i wr) (fun _ i _ => il.length - (intOf i).toNat)
  case atStart => exact ⟨0, ⟨none, 0, []⟩, Nat.zero_le _, rfl, rfl, rfl, OwnR.nil, Below.refl _ _⟩
  case round =>
    obtain ⟨k, q, hk, rfl, rfl, hqL, hown, hbr⟩ := hrel
    have x5 := keepc hbr (HX.out.cell 5)
    by_cases hlt : k < il.length
    · have hx := List.getElem?_eq_getElem hlt
      obtain ⟨a, hA, g0, g1, g2, _⟩ := (HR.out wr (below_after HB2.out hbr)) k _ hx
      have hA2 : iA = some a := hA
      clear hA
      subst hA2
      generalize il[k] = x2 at *
      have kI : (k : Int) < (il.length : Int) := by omega
      have kJ : (0 : Int) ≤ (k : Int) := by omega
      have x1 := keepc hbr (HX.out.cell 1)
      have HBF := hide (begV_take (fin := fin) hx)
      have HF := hide (show begF fin k x2 = if timesI (normF x2.1) fin ≤ 0 then [(normF x2.1, -1, (k : Int), x2.2.1, x2.2.2)] else [] from rfl)
      have hno := fun W => rnorm_any x2.1 W
      have hTn := norm_num x2.1
      generalize normF x2.1 = T at *
      generalize normE x2.1 = U at *
      have HWW := le_ways T fin hTn HNF.out
      have hq3 : q.L.length ≤ 1000 := by rw [hqL]; exact Nat.le_trans (begV_len fin (il.take k) 0) (by rw [List.length_take]; omega)
      obtain ⟨q2, w2, hrun, hq2, hown2, hb3⟩ := ev_add (wc := wc) (wr := wr.drew) (hown.below (Below.refl _ _).drew) hbr.drew (T, -1, (k : Int), x2.2.1, x2.2.2) hq3 65
      simp only at hrun hq2 hown2
      rw [show wr.drew.heap.size = wr.heap.size from rfl] at hrun
      have HO2 := hide (show OwnR 37 5 encEv w2 wc.heap.size q2.val q2.L from by rw [hq2]; exact hown2)
      have HQ2 := hide hq2
      have HB3 := hide hb3
      have HO := hide hown
      have HBR := hide hbr
      have HQ := hide hqL
      have CD := hide (fun o => And.intro (keepc ((Below.refl wr.drew.heap.size wr.drew).alloc (Nat.le_refl _) o) x5) (And.intro (keepc ((Below.refl wr.drew.heap.size wr.drew).alloc (Nat.le_refl _) o) g1) (keepc ((Below.refl wr.drew.heap.size wr.drew).alloc (Nat.le_refl _) o) g2)))
      clear hown hbr hqL hown2 hq2 hb3 hx hq3 hTn
      go_wp2_with fail
      refine (hno _).mono ?_
      rintro e w3 ⟨rfl, rfl⟩
      have hWW := HWW
      clear hno HWW
      rcases hWW with ⟨z1, z2⟩ | ⟨z1, z2⟩ | ⟨z1, z2⟩
      case' inr.inr =>
        have HF2 := hide (HF.out.trans (if_neg (Int.not_le.2 z1)))
        clear HF HO2 HB3 hrun z1
        go_wp2_with fail
        go_roundw
        case rel => exact ⟨k + 1, q, by omega, rfl, by go_num, by rw [HBF.out, HF2.out, HQ.out, List.append_nil], HO.out, HBR.out⟩
        case measure => simp [intOf]; omega
      all_goals
        have HF2 := hide (HF.out.trans (if_pos z1))
        clear HF HO HBR z1
        go_upto_region 7 with fail
        clear z2 g0 x1
        refine wp_region_reads (fun w' => w'.cell? ⟨w.heap.size, 5, none⟩ = some (.slice (some a) il.length ic) ∧ w'.cell? ⟨(a.add (k * 3)).block, (a.add (k * 3)).off + 1, none⟩ = some (.int .i64 x2.2.1) ∧ w'.cell? ⟨(a.add (k * 3)).block, (a.add (k * 3)).off + 2, none⟩ = some (.int .i64 x2.2.2))
          (.slice q.A q.L.length q.c) 16 1 (by kernel_rfl) (by kernel_rfl) (Or.inl ⟨by rfl, fun w => by rfl⟩) (fun _ _ _ h => h) ⟨x5, g1, g2⟩ ?_
        simp only [Act.put, List.setIfInBounds_toArray, List.set_cons_zero, List.set_cons_succ, List.take_succ_cons, List.take_zero, List.drop_succ_cons, List.drop_zero]
        repeat (refine head_step ?_ (by rfl) ?_ (fun _ _ _ h => h) ?_; rotate_left; (intro w' hs; obtain ⟨zs, zg, zh⟩ := hs; go_simp; (try with_reducible rfl)); (try simp only [Act.put, List.setIfInBounds_toArray, List.set_cons_zero, List.set_cons_succ]))
        refine head_nil ?_
        clear x5 g1 g2
        refine mid_step _ (wr.drew.alloc (.cells #[.float .f64 T, .int .i64 (-1), .int .i64 k, .int .i64 x2.2.1, .int .i64 x2.2.2] 37)) (by rfl) (by go_simp; rfl) (CD.out _) ?_
        refine mid_nil ?_
        simp only [Act.put, List.setIfInBounds_toArray, List.set_cons_zero, List.set_cons_succ]
        clear CD
        go_wp2_with (at_builtin; refine wpList_of_append rfl _ w2 (.tmp 28) (.tmp 45) 65 _ _ _ rfl rfl rfl hrun ?_)
        go_roundw
        case rel => exact ⟨k + 1, q2, by omega, rfl, by go_num, by rw [HQ2.out, HBF.out, HF2.out, HQ.out], HO2.out, HB3.out⟩
        case measure => simp [intOf]; omega
    · obtain rfl : k = il.length := by omega
      rw [List.take_length] at hqL
      have HH := hide (HP.out q wr hqL (hown.lower HB2.out.size) (below_after HB2.out hbr))
      clear hqL hown hbr
      go_wp2_with fail
      first | exact HH.out | (go_ret; exact HH.out)
end Go.Proofs.Ytpfcmfannkbipaa
end

section
set_option linter.unusedVariables false
set_option linter.unusedSimpArgs false
set_option maxRecDepth 20000
namespace Go.Proofs.Ytpfcmfannkbipaa
open Go.RowKit Go.Deep

theorem quot_any (b c : Int) (w : World) (h0 : c ≠ 0) (hb : I64 b) : Calls Try.prog 137 #[.int .i64 b, .int .i64 c] w fun e w' => e = .returned (.tuple #[.int .i64 (quoI b c), .int .i64 (remI b c)]) ∧ ∃ k, w' = w.drewN k := by
  by_cases h1 : c = -1
  · subst h1
    have e1 : quoI b (-1) = wrap64 (-b) := by unfold quoI; rw [Int.tdiv_neg, Int.tdiv_one]
    have e2 : remI b (-1) = 0 := by unfold remI; rw [Int.tmod_neg, Int.tmod_one]
    rw [e1, e2]
    clear e1 e2
    go_enter Try.func137, Try.ntmps137
    go_wp2_with fail
    go_ret2
    exact ⟨rfl, 0, rfl⟩
  · have e1 : (c == -1) = false := by rw [beq_eq_false_iff_ne]; exact h1
    have e2 : remI b c = wrap64 (b - wrap64 (quoI b c * c)) := by
      unfold remI quoI
      have h := Int.mul_tdiv_add_tmod b c
      have hm := tmod_i64 (c := c) hb
      rw [Int.mul_comm] at h
      have h3 : wrap64 (b - wrap64 (wrap64 (b.tdiv c) * c)) = wrap64 (b.tmod c) := by
        have k1 : (b - wrap64 (wrap64 (b.tdiv c) * c)) % 18446744073709551616 = b.tmod c % 18446744073709551616 := by
          have w1 : ∀ n : Int, wrap64 n % 18446744073709551616 = n % 18446744073709551616 := fun n => by unfold wrap64; omega
          rw [Int.sub_emod, w1, Int.mul_emod, w1, ← Int.mul_emod, ← Int.sub_emod]
          congr 1
          omega
        generalize b - wrap64 (wrap64 (b.tdiv c) * c) = X at k1 ⊢
        generalize b.tmod c = Y at k1 ⊢
        unfold wrap64
        omega
      rw [h3]
      generalize b.tmod c = Y at hm ⊢
      unfold wrap64
      omega
    have HE := hide e2
    clear e2
    unfold quoI at HE
    go_enter Try.func137, Try.ntmps137
    go_wp2_with fail
    go_quiet (fail)
    go_wp2_with fail
    go_ret2
    exact ⟨by rw [HE.out]; rfl, _, rfl⟩
/-- What computes, and its fault. -/
theorem two_any (op b c : Int) (w : World) (hop : 3 ≤ op ∧ op ≤ 8) (hb : I64 b) : Calls Try.prog 130 #[.int .i64 op, .int .i64 b, .int .i64 c] w fun e w' => e = .returned (.tuple #[.int .i64 (if twoF op c = 0 then twoI op b c else 0), .int .i64 (twoF op c)]) ∧ ∃ k, w' = w.drewN k := by
  have hcs : op = 3 ∨ op = 4 ∨ op = 5 ∨ op = 6 ∨ op = 7 ∨ op = 8 := by omega
  clear hop
  rcases hcs with rfl | rfl | rfl | rfl | rfl | rfl
  · go_enter Try.func130, Try.ntmps130
    go_wp2_with fail
    go_ret2
    exact ⟨rfl, 0, rfl⟩
  · go_enter Try.func130, Try.ntmps130
    go_wp2_with fail
    go_ret2
    exact ⟨rfl, 0, rfl⟩
  · go_enter Try.func130, Try.ntmps130
    go_wp2_with fail
    go_ret2
    exact ⟨rfl, 0, rfl⟩
  · by_cases hc : c = 0
    · subst hc
      go_enter Try.func130, Try.ntmps130
      go_wp2_with fail
      go_ret2
      exact ⟨rfl, 0, rfl⟩
    · have e1 : twoF 6 c = 0 := if_neg (fun h => hc h.2)
      have hcb : (c == 0) = false := by rw [beq_eq_false_iff_ne]; exact hc
      rw [e1, if_pos rfl]
      have Q := hide (quot_any b c w hc hb)
      clear e1 hc hb
      go_enter Try.func130, Try.ntmps130
      go_wp2_with fail
      refine Q.out.mono ?_
      rintro e w1 ⟨rfl, k, rfl⟩
      go_wp2_with fail
      go_ret2
      exact ⟨rfl, k, rfl⟩
  · by_cases hc : c = 0
    · subst hc
      go_enter Try.func130, Try.ntmps130
      go_wp2_with fail
      go_ret2
      exact ⟨rfl, 0, rfl⟩
    · have e1 : twoF 7 c = 0 := if_neg (fun h => hc h.2)
      have hcb : (c == 0) = false := by rw [beq_eq_false_iff_ne]; exact hc
      rw [e1, if_pos rfl]
      have Q := hide (quot_any b c w hc hb)
      clear e1 hc hb
      go_enter Try.func130, Try.ntmps130
      go_wp2_with fail
      refine Q.out.mono ?_
      rintro e w1 ⟨rfl, k, rfl⟩
      go_wp2_with fail
      go_ret2
      exact ⟨rfl, k, rfl⟩
  · by_cases hlt : b < c
    · have e8 := hide (show twoI 8 b c = 1 from if_pos hlt)
      have e9 : twoF 8 c = 0 := rfl
      rw [e9, if_pos rfl, e8.out]
      clear e9 e8
      go_enter Try.func130, Try.ntmps130
      go_wp2_with fail
      go_ret2
      exact ⟨rfl, 0, rfl⟩
    · have e8 := hide (show twoI 8 b c = 0 from if_neg hlt)
      have e9 : twoF 8 c = 0 := rfl
      rw [e9, if_pos rfl, e8.out]
      clear e9 e8
      go_enter Try.func130, Try.ntmps130
      go_wp2_with fail
      go_ret2
      exact ⟨rfl, 0, rfl⟩

/-! The reference's run in memory. -/
/-- A row stays, when a block of another type is written. -/
theorem OwnR.keepT {α : Type} {e t : TypeId} {size B g : Nat} {enc : α → List Value} {w w' : World} {v : Value} {L : List α} {cs : Array Value} (ho : OwnR e size enc w B v L) (h : Blk w g t cs) (hne : t ≠ e) (hw : w.grownBy w' (some g)) : OwnR e size enc w' B v L := by
  refine World.ownsRow.kept ho hw (.inr fun k => ?_)
  obtain ⟨cur, hc⟩ := ho.typ k
  unfold Blk at h
  rw [h] at hc
  injection hc with hc
  injection hc with _ hc
  exact hne hc
def rcells (gb : Nat) (wv sv : Value) (s : VS) (f : Int) : Array Value := #[.slice (some ⟨gb, 0, none⟩) 8 8, wv, sv, .int .i64 s.d, .int .i64 s.at_, .int .i64 s.n, .int .i64 f]
def gcells (s : VS) : Array Value := (s.g.map (Value.int .i64)).toArray
structure RefS (w0 w : World) (b gb : Nat) (wv sv : Value) (s : VS) (f : Int) : Prop where
  bel : Below w0.heap.size w0 w
  blk : Blk w b 160 (rcells gb wv sv s f)
  grow : Blk w gb 3 (gcells s)
  wrd : OwnR 3 1 encInt w w0.heap.size wv s.w
  snt : OwnR 130 3 encSnt w w0.heap.size sv s.s
  wne : wv.ownBlock ≠ some gb
  lo : w0.heap.size ≤ b
  log : w0.heap.size ≤ gb
section
variable {w0 w w' : World} {b gb : Nat} {wv sv : Value} {s : VS} {f : Int}
theorem RefS.ne (h : RefS w0 w b gb wv sv s f) : b ≠ gb := h.blk.neT h.grow (by decide)
theorem RefS.below (h : RefS w0 w b gb wv sv s f) (hb : Below w.heap.size w w') : RefS w0 w' b gb wv sv s f :=
  ⟨below_after h.bel hb, h.blk.below hb h.blk.lt, h.grow.below hb h.grow.lt, h.wrd.below hb, h.snt.below hb, h.wne, h.lo, h.log⟩
theorem RefS.drew (h : RefS w0 w b gb wv sv s f) : RefS w0 w.drew b gb wv sv s f := h.below (Below.refl _ _).drew
theorem RefS.drewN (h : RefS w0 w b gb wv sv s f) (n : Nat) : RefS w0 (w.drewN n) b gb wv sv s f := h.below (below_drewN (Below.refl _ _) n)
theorem RefS.alloc (h : RefS w0 w b gb wv sv s f) (o : Obj) : RefS w0 (w.alloc o) b gb wv sv s f := h.below ((Below.refl _ _).alloc (Nat.le_refl _) o)
/-- A store into the run's block. -/
theorem RefS.set_ (h : RefS w0 w b gb wv sv s f) (i : Nat) (u : Value) (s' : VS) (f' : Int) (hg : s'.g = s.g) (hw : s'.w = s.w) (hs : s'.s = s.s) (hc : (rcells gb wv sv s f).setIfInBounds i u = rcells gb wv sv s' f') : RefS w0 (w.setCell ⟨b, i, none⟩ u) b gb wv sv s' f' := by
  have hgr : w.grownBy (w.setCell ⟨b, i, none⟩ u) (some b) := only_setCell (World.grownBy.refl w _) (.inl rfl) _
  refine ⟨h.bel.setCell (p := ⟨b, i, none⟩) h.lo _, ?_, ?_, ?_, ?_, h.wne, h.lo, h.log⟩
  · rw [← hc]; exact h.blk.set_ i u
  · unfold gcells; rw [hg]; exact h.grow.far (p := ⟨b, i, none⟩) (Ne.symm h.ne) u
  · rw [hw]; exact h.wrd.keepT h.blk (by decide) hgr
  · rw [hs]; exact h.snt.keepT h.blk (by decide) hgr
theorem RefS.setD (h : RefS w0 w b gb wv sv s f) (d : Int) : RefS w0 (w.setCell ⟨b, 3, none⟩ (.int .i64 d)) b gb wv sv { s with d := d } f := h.set_ 3 _ _ _ rfl rfl rfl rfl
theorem RefS.setAt (h : RefS w0 w b gb wv sv s f) (a : Nat) : RefS w0 (w.setCell ⟨b, 4, none⟩ (.int .i64 a)) b gb wv sv { s with at_ := a } f := h.set_ 4 _ _ _ rfl rfl rfl rfl
theorem RefS.setN (h : RefS w0 w b gb wv sv s f) (a : Nat) : RefS w0 (w.setCell ⟨b, 5, none⟩ (.int .i64 a)) b gb wv sv { s with n := a } f := h.set_ 5 _ _ _ rfl rfl rfl rfl
theorem RefS.setF (h : RefS w0 w b gb wv sv s f) (a : Int) : RefS w0 (w.setCell ⟨b, 6, none⟩ (.int .i64 a)) b gb wv sv s a := h.set_ 6 _ _ _ rfl rfl rfl rfl
theorem RefS.regC (h : RefS w0 w b gb wv sv s f) (h8 : s.g.length = 8) {i : Nat} (hi : i < 8) : w.cell? ⟨gb, i, none⟩ = some (.int .i64 (s.reg i)) := by
  refine (h.grow.cell i).trans ?_
  unfold gcells VS.reg
  rw [List.getElem?_toArray, List.getElem?_map, List.getElem?_eq_getElem (by omega), Int.toNat_natCast, List.getD_eq_getElem?_getD, List.getElem?_eq_getElem (by omega)]
  rfl
theorem RefS.put (h : RefS w0 w b gb wv sv s f) (i : Nat) (v : Int) : RefS w0 (w.setCell ⟨gb, i, none⟩ (.int .i64 v)) b gb wv sv (s.put i v) f := by
  have hgr : w.grownBy (w.setCell ⟨gb, i, none⟩ (.int .i64 v)) (some gb) := only_setCell (World.grownBy.refl w _) (.inl rfl) _
  refine ⟨h.bel.setCell (p := ⟨gb, i, none⟩) h.log _, h.blk.far (p := ⟨gb, i, none⟩) h.ne _, ?_, World.ownsRow.kept h.wrd hgr (.inr fun e => h.wne e), h.snt.keepT h.grow (by decide) hgr, h.wne, h.lo, h.log⟩
  have := h.grow.set_ i (.int .i64 v)
  unfold gcells VS.put
  unfold gcells at this
  rw [List.setIfInBounds_toArray, ← List.map_set] at this
  rw [Int.toNat_natCast]
  exact this
theorem RefS.cells (h : RefS w0 w b gb wv sv s f) : w.cell? ⟨b, 0, none⟩ = some (.slice (some ⟨gb, 0, none⟩) 8 8) ∧ w.cell? ⟨b, 1, none⟩ = some wv ∧ w.cell? ⟨b, 2, none⟩ = some sv ∧ w.cell? ⟨b, 3, none⟩ = some (.int .i64 s.d) ∧ w.cell? ⟨b, 4, none⟩ = some (.int .i64 s.at_) ∧ w.cell? ⟨b, 5, none⟩ = some (.int .i64 s.n) ∧ w.cell? ⟨b, 6, none⟩ = some (.int .i64 f) :=
  ⟨h.blk.cell 0, h.blk.cell 1, h.blk.cell 2, h.blk.cell 3, h.blk.cell 4, h.blk.cell 5, h.blk.cell 6⟩
theorem RefS.wordC {g n c k : Nat} (h : RefS w0 w b gb (.slice (some ⟨g, 0, none⟩) n c) sv s f) (hn : n = s.w.length) (hk : k < n) : w.cell? ⟨g, k, none⟩ = some (.int .i64 (s.w.getD k 0)) ∧ w.frozen? ⟨g, k, none⟩ = false := by
  subst hn
  have hw := h.wrd
  unfold OwnR at hw
  refine ⟨?_, hw.frozenAt k⟩
  rw [hw.cellAt k (by omega), flatMap_int, List.getElem?_map, List.getElem?_eq_getElem hk, List.getD_eq_getElem?_getD, List.getElem?_eq_getElem hk]
  rfl
theorem RefS.setW {g n c : Nat} (h : RefS w0 w b gb (.slice (some ⟨g, 0, none⟩) n c) sv s f) (hn : n = s.w.length) (k : Nat) (v : Int) : RefS w0 (w.setCell ⟨g, k, none⟩ (.int .i64 v)) b gb (.slice (some ⟨g, 0, none⟩) n c) sv { s with w := s.w.set k v } f := by
  subst hn
  have hw := h.wrd
  have hBg := hw.base g rfl
  unfold OwnR at hw
  obtain ⟨h1, h2⟩ := hw.stored k (.int .i64 v)
  obtain ⟨cur, hcur⟩ := h.wrd.typ (g := g) rfl
  have hbg : b ≠ g := h.blk.neT (show Blk w g 3 cur from hcur) (by decide)
  have hgg : gb ≠ g := fun e => h.wne (by rw [e]; rfl)
  refine ⟨h.bel.setCell (p := ⟨g, k, none⟩) hBg _, h.blk.far (p := ⟨g, k, none⟩) hbg _, h.grow.far (p := ⟨g, k, none⟩) hgg _, ?_, h.snt.other h.wrd (by decide) h2, h.wne, h.lo, h.log⟩
  unfold OwnR
  rw [flatMap_int, List.map_set, List.length_set, ← flatMap_int]
  exact h1
/-- An event is sent. -/
theorem RefS.send (h : RefS w0 w b gb wv sv s f) (hl : s.s.length ≤ 4) (x : Snt) (ty : TypeId) :
    ∃ A' c' w1, (Builtin.append_ #[113, 113] ty #[sv, .slice (some ⟨w.heap.size, 0, none⟩) 1 1]).run Try.prog (w.alloc (.cells #[.int .i64 x.1, .int .i64 x.2.1, .int .i64 x.2.2] 130)) = .ok (.slice A' (s.s.length + 1) c') w1 ∧
      w1.cell? ⟨b, 2, none⟩ = some sv ∧ w1.frozen? ⟨b, 2, none⟩ = false ∧ RefS w0 (w1.setCell ⟨b, 2, none⟩ (.slice A' (s.s.length + 1) c')) b gb wv (.slice A' (s.s.length + 1) c') { s with s := s.s ++ [x] } f := by
  obtain ⟨v2, w2, hrun, hown, hext⟩ := run_append_one (P := Try.prog) 130 113 ty 3 24 (.agg #[.int .i64 0, .int .i64 0, .int .i64 0]) encSnt (by decide) (fun _ => rfl) one_snt Try.underlying113 inf_snt rfl w w0.heap.size sv s.s x _ rfl h.snt (by omega) (by omega) h.bel.size
  obtain ⟨⟨sA, sc, sL⟩, hv, hsL, _⟩ := hown.form
  simp only [Sl.val] at hv hsL
  subst hsL
  rw [List.length_append, List.length_singleton] at hv
  subst hv
  have hg := hext.1
  have hblk := h.snt.blkT h.blk (by decide) hg
  have hgrow := h.snt.blkT h.grow (by decide) hg
  have hwrd : OwnR 3 1 encInt w2 w0.heap.size wv s.w := h.wrd.other h.snt (by decide) hg
  have hbel : Below w0.heap.size w0 w2 := h.bel.trans ((Below.refl w0.heap.size w).grown hg h.bel.size fun k hk => h.snt.base k hk)
  have hgr : w2.grownBy (w2.setCell ⟨b, 2, none⟩ (.slice sA (s.s.length + 1) sc)) (some b) := only_setCell (World.grownBy.refl w2 _) (.inl rfl) _
  refine ⟨sA, sc, w2, hrun, hblk.cell 2, hblk.frozen 2, ⟨hbel.setCell (p := ⟨b, 2, none⟩) h.lo _, ?_, hgrow.far (p := ⟨b, 2, none⟩) (Ne.symm h.ne) _, hwrd.keepT hblk (by decide) hgr, OwnR.keepT hown hblk (by decide) hgr, h.wne, h.lo, h.log⟩⟩
  exact hblk.set_ 2 _
end
end Go.Proofs.Ytpfcmfannkbipaa
end
