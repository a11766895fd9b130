/- The walk of law07's VmAgain. No condition. -/
import Derived.Test.YtgohdpnlaedeiaaLaw07m
set_option linter.unusedVariables false
set_option linter.unusedSimpArgs false
set_option maxRecDepth 20000
namespace Go.Proofs.Ytgohdpnlaedeiaa
open Go.RowKit Go.Deep

/-- 'append([]E{}, s...)': a copy in memory of its own. -/
theorem app_new {P : Program} {α : Type} {d : Dec α} (e T ty : TypeId) (size bytes : Nat) (z : Value) (enc : α → List Value) (hsz : 0 < size) (hlen : ∀ x, (enc x).length = size) (hone : ∀ x, ∀ u ∈ enc x, u.oneCell' = true)
    (hT : P.underlying T = some (.slice e)) (hinf : (P.info? e).map (fun i => (i.zero, i.size, i.bytes)) = some (some z, size, bytes)) (hz : z.cells.size = size) (hl : Lays d enc)
    (w : World) (s : Sl α) (hs : s.At d size w) (hb : s.L.length * bytes ≤ 140737488355328) (h6 : s.L.length ≤ 9223372036854775807) :
    ∃ v' w', (Builtin.append_ #[T, T] ty #[.slice (some ⟨w.heap.size, 0, none⟩) 0 0, .slice s.A s.L.length s.c]).run P (w.alloc (.cells #[] e)) = .ok v' w' ∧ OwnR e size enc w' w.heap.size v' s.L ∧ Below w.heap.size w w' := by
  have hown : OwnR e size enc (w.alloc (.cells #[] e)) w.heap.size (.slice (some ⟨w.heap.size, 0, none⟩) 0 0) ([] : List α) :=
    ⟨by simp, .inr ⟨w.heap.size, 0, #[], rfl, Nat.le_refl _, Blk.new w e #[], Nat.le_refl _, Nat.zero_le _, by simp, by simp⟩⟩
  have hz1 : (w.alloc (.cells #[] e)).heap.size = w.heap.size + 1 := Array.size_push ..
  have hr := (RowD.reads hsz hlen hl hs.1).alloc (Nat.le_refl _) (.cells #[] e)
  obtain ⟨v', w', hrun, h2, h3⟩ := run_append_src (P := P) e T ty size bytes z enc hsz hlen hone hT hinf hz (w.alloc (.cells #[] e)) w.heap.size w.heap.size _ [] s.L s.A s.L.length s.c hown hr rfl (by simpa using hb) (by simpa using h6) (by rw [hz1]; omega)
  refine ⟨v', w', hrun, h2, ?_⟩
  have h4 : Below w.heap.size (w.alloc (.cells #[] e)) w' := h3.below (by rw [hz1]; omega) (fun k hk => Nat.le_of_eq (Option.some.inj hk))
  exact ((Below.refl w.heap.size w).alloc (Nat.le_refl _) _).trans h4
/-- What stands while a's words are written over: b's output, and all that was there ahead of a's run. -/
def AgS (w4 : World) (ya yb n7 : Nat) (A B : Array Value) (aA : Option Addr) (v1 v2 : Value) (o1 : List Int) (o2 : List Snt) (wr : World) : Prop :=
  Below w4.heap.size w4 wr ∧ Blk wr ya 30 A ∧ Blk wr yb 30 B ∧ OwnR 3 1 encInt wr n7 v1 o1 ∧ OwnR 36 3 encSnt wr n7 v2 o2 ∧
    (0 < o1.length → ∃ g cur, aA = some ⟨g, 0, none⟩ ∧ w4.heap.size ≤ g ∧ g < n7 ∧ Blk wr g 3 cur ∧ o1.length ≤ cur.size)
theorem AgS.set {w4 wr : World} {ya yb n7 : Nat} {A B : Array Value} {aA : Option Addr} {v1 v2 : Value} {o1 : List Int} {o2 : List Snt} (h : AgS w4 ya yb n7 A B aA v1 v2 o1 o2 wr) {j : Nat} (hj : j < o1.length) :
    ∃ g u, aA = some ⟨g, 0, none⟩ ∧ wr.cell? ⟨g, j, none⟩ = some u ∧ wr.frozen? ⟨g, j, none⟩ = false ∧ ∀ x, AgS w4 ya yb n7 A B aA v1 v2 o1 o2 (wr.setCell ⟨g, j, none⟩ x) := by
  obtain ⟨hb, hA, hB, h1, h2, h3⟩ := h
  obtain ⟨g, cur, hg, hlo, hhi, hblk, hsz⟩ := h3 (by omega)
  have hjs : j < cur.size := by omega
  refine ⟨g, cur[j], hg, (hblk.cell j).trans (Array.getElem?_eq_getElem hjs), hblk.frozen j, fun x => ⟨hb.setCell (p := ⟨g, j, none⟩) hlo _, hA.far (p := ⟨g, j, none⟩) (hA.neT hblk (by decide)) _, hB.far (p := ⟨g, j, none⟩) (hB.neT hblk (by decide)) _, h1.setCell (p := ⟨g, j, none⟩) hhi _, h2.setCell (p := ⟨g, j, none⟩) hhi _, fun _ => ⟨g, _, hg, hlo, hhi, hblk.set_ j x, by simpa using hsz⟩⟩⟩
theorem same_of {W : World} {n7 N : Nat} {v1 v2 v : Value} {o1 : List Int} {o2 : List Snt} {o3 o4 : Int} (b1 : OwnR 3 1 encInt W n7 v1 o1) (b2 : OwnR 36 3 encSnt W n7 v2 o2) (h : OutAt W N v (o1, o2, o3, o4)) (hz : ∀ z ∈ o1, I64 z) :
    Calls Try.prog 12 #[.agg #[v1, v2, .int .i64 o3, .int .i64 o4], v] W fun e w' => e = .returned (.bool true) ∧ Below W.heap.size W w' := by
  obtain ⟨t, rfl, htL, htA⟩ := OwnR.at_ (d := IntAt) (enc := encInt) (ok := fun _ x => I64 x) (size := 1) (by decide) (fun _ => rfl) makes_int b1 hz
  obtain ⟨u, rfl, huL, huA⟩ := OwnR.at_ (d := SntAt) (enc := encSnt) (ok := fun _ _ => True) (size := 3) (by decide) (fun _ => rfl) makes_snt b2 (fun _ _ => trivial)
  obtain ⟨s, x, rfl, hsL, hxL, hsA, hxA⟩ := out_at h hz
  exact rsame_self W t s u x o3 o4 htA hsA huA hxA (htL.trans hsL.symm) (huL.trans hxL.symm)
set_option maxHeartbeats 4000000 in
theorem again_walk (w : World) (p : Sl Ins4) (i : Inp) (q : Sl Ins4) (hp : p.At InsAt 4 w) (hi : i.At w) (hq : q.At InsAt 4 w) : Calls Try.prog 5 #[p.val, i.val, q.val] w fun e w' => e = .returned (.bool true) ∧ Below w.heap.size w w' := by
  have hX := Blk.new w 25 i.cells
  have hb : Below w.heap.size w (w.alloc (.cells i.cells 25)) := (Below.refl _ _).alloc (Nat.le_refl _) _
  have hF := few_any (w.alloc (.cells i.cells 25)) p i hp.2.1 hp.2.2
  have HF := hide hF
  have HX := hide hX
  have HB := hide hb
  have HI := hide (And.intro hp (And.intro hi hq))
  clear hF hX hb hp hi hq
  have HC := hide (show i.cells = #[.slice i.wd.A i.wd.L.length i.wd.c, .int .i64 i.pay, .int .i64 i.me, .int .i64 i.lps, .int .i64 i.seed, .int .i64 i.dice] from rfl)
  unfold Inp.val at *
  generalize hcs : i.cells = cs at *
  obtain rfl := HC.out
  clear hcs HC
  unfold Sl.val at *
  go_enter Try.func5, Try.ntmps5
  go_upto_region 1 with fail
  generalize w.alloc _ = w1 at *
  have x0 := HX.out.cell 0
  have x1 := HX.out.cell 1
  have x2 := HX.out.cell 2
  have x3 := HX.out.cell 3
  have x4 := HX.out.cell 4
  have x5 := HX.out.cell 5
  simp only [List.getElem?_toArray, List.getElem?_cons_zero, List.getElem?_cons_succ] at x0 x1 x2 x3 x4 x5
  go_wp2_with fail
  refine HF.out.mono ?_
  rintro e w2 ⟨rfl, h2⟩
  have hb2 := below_after HB.out h2
  have hX2 := HX.out.below h2 HX.out.lt
  clear HF HB HX h2 x0 x1 x2 x3 x4 x5
  cases hfw : (decide (p.L.length ≤ 100) && decide (i.wd.L.length ≤ 60))
  · have HB := hide hb2
    clear hfw hb2 hX2
    go_wp2_with fail
    refine (awake07 _).mono ?_
    rintro e w3 ⟨rfl, h3⟩
    have HE := hide (below_after HB.out h3)
    clear h3 HB
    go_wp2_with fail
    go_ret
    exact ⟨rfl, HE.out⟩
  · have HFW := hide (show p.L.length ≤ 100 ∧ i.wd.L.length ≤ 60 by simpa using hfw)
    clear hfw
    rcases Nat.lt_or_ge 100 q.L.length with hq100 | hq100
    · have HB := hide hb2
      have hd : (100 : Int) < (q.L.length : Int) := by omega
      clear hb2 hX2
      go_wp2_with fail
      refine (awake07 _).mono ?_
      rintro e w3 ⟨rfl, h3⟩
      have HE := hide (below_after HB.out h3)
      clear h3 HB
      go_wp2_with fail
      go_ret
      exact ⟨rfl, HE.out⟩
    have hd : ¬ (100 : Int) < (q.L.length : Int) := by omega
    have HX := hide hX2
    have HB := hide hb2
    clear hX2 hb2
    have RA := hide fun (W : World) (h : Below w.heap.size w W) => run_any W p i (HI.out.1.below InsAt.keeps h) (HI.out.2.1.below h)
    have RQ := hide fun (W : World) (h : Below w.heap.size w W) => run_any W q i (HI.out.2.2.below InsAt.keeps h) (HI.out.2.1.below h)
    have DA := hide fun (W : World) (h : Below w.heap.size w W) => rdo_any W p i (HI.out.1.below InsAt.keeps h) (HI.out.2.1.below h)
    have OZ := hide (outV_i64 HI.out.1 HI.out.2.1)
    unfold Inp.val Inp.cells Sl.val at RA RQ DA
    generalize vmay p.L i.wd.L.length = V at *
    generalize vmay q.L i.wd.L.length = V' at *
    generalize hOV : outV p.L i.wd.L i.pay i.me i.lps i.seed i.dice = O at *
    replace hOV := hide hOV
    generalize outV q.L i.wd.L i.pay i.me i.lps i.seed i.dice = O' at *
    obtain ⟨o1, o2, o3, o4⟩ := O
    simp only at OZ
    go_upto_region 3 with fail
    clear hd
    have x0 := HX.out.cell 0
    have x1 := HX.out.cell 1
    have x2 := HX.out.cell 2
    have x3 := HX.out.cell 3
    have x4 := HX.out.cell 4
    have x5 := HX.out.cell 5
    simp only [List.getElem?_toArray, List.getElem?_cons_zero, List.getElem?_cons_succ] at x0 x1 x2 x3 x4 x5
    obtain ⟨wv, w3, hr3, ho3, h3⟩ := app_new (P := Try.prog) 3 23 23 1 8 (.int .i64 0) encInt (by decide) (fun _ => rfl) (by intro x u hu; simp [encInt] at hu; subst hu; rfl) rfl (by kernel_rfl) rfl lays_int w2 i.wd (HI.out.2.1.wd.below IntAt.keeps HB.out) (by have := HFW.out.2; omega) (by have := HFW.out.2; omega)
    obtain ⟨ws, hwv, hwL, hws⟩ := OwnR.at_ (d := IntAt) (enc := encInt) (ok := fun _ x => I64 x) (size := 1) (by decide) (fun _ => rfl) makes_int ho3 (sl_ints HI.out.2.1.wd)
    obtain ⟨wA, wc, wL⟩ := ws
    simp only [Sl.val] at hwv hwL
    subst hwv
    subst hwL
    have HB3 := hide (below_after HB.out h3)
    have HX3 := hide (HX.out.below h3 HX.out.lt)
    have HW := hide hws
    have HXlt := HX.out.lt
    clear ho3 h3 hws HX HB
    have y0 := x0
    rw [← World.cell?_alloc_lt w2 (.cells #[] 3) ⟨w.heap.size, 0, none⟩ HXlt] at y0
    clear x0 x1 x2 x3 x4 x5
    go_upto_region 4 with (at_builtin; refine wpList_of_append rfl _ w3 (.tmp 25) (.tmp 27) 23 _ _ _ rfl rfl rfl hr3 ?_)
    clear hr3 y0
    obtain ⟨cv, w4, hr4, ho4, h4⟩ := app_new (P := Try.prog) 39 22 22 4 32 (.agg #[.int .i64 0, .int .i64 0, .int .i64 0, .int .i64 0]) encIns (by decide) (fun _ => rfl) (by intro x u hu; simp [encIns] at hu; rcases hu with rfl | rfl | rfl | rfl <;> rfl) rfl (by kernel_rfl) rfl lays_ins w3 p (HI.out.1.below InsAt.keeps HB3.out) (by have := HFW.out.1; omega) (by have := HFW.out.1; omega)
    obtain ⟨cs, hcv, hcL, hcs⟩ := OwnR.at_ (d := InsAt) (enc := encIns) (ok := fun _ x => I64 x.1 ∧ I64 x.2.1 ∧ I64 x.2.2.1 ∧ I64 x.2.2.2) (size := 4) (by decide) (fun _ => rfl) makes_ins ho4 (fun x hx => by
      obtain ⟨k, hk⟩ := List.getElem?_of_mem hx
      obtain ⟨a, _, h⟩ := HI.out.1.1 k x hk
      exact h.2.2.2.2)
    obtain ⟨cA, cc, cL⟩ := cs
    simp only [Sl.val] at hcv hcL
    subst hcv
    subst hcL
    have HB4 := hide (below_after HB3.out h4)
    have HX4 := hide (HX3.out.below h4 HX3.out.lt)
    have HC := hide hcs
    replace HW := hide (HW.out.below IntAt.keeps h4)
    clear ho4 h4 hcs HX3 HB3 HXlt
    go_upto_region 5 with (at_builtin; refine wpList_of_append rfl _ w4 (.tmp 29) (.tmp 30) 22 _ _ _ rfl rfl rfl hr4 ?_)
    clear hr4
    have x0 := HX4.out.cell 0
    have x1 := HX4.out.cell 1
    have x2 := HX4.out.cell 2
    have x3 := HX4.out.cell 3
    have x4 := HX4.out.cell 4
    have x5 := HX4.out.cell 5
    simp only [List.getElem?_toArray, List.getElem?_cons_zero, List.getElem?_cons_succ] at x0 x1 x2 x3 x4 x5
    go_wp2_with fail
    refine (RA.out _ HB4.out).mono ?_
    rintro e w5 ⟨v, rfl, ⟨aA, ac, aA', ac', rfl, ha1, ha2⟩, h5⟩
    clear x0 x1 x2 x3 x4 x5
    have HB5 := hide (below_after HB4.out h5)
    have HX5 := hide (HX4.out.below h5 HX4.out.lt)
    simp only at ha1 ha2
    have h6 := h5.alloc h5.size (.cells #[.slice aA o1.length ac, .slice aA' o2.length ac', .int .i64 o3, .int .i64 o4] 30)
    have hY := Blk.new w5 30 #[.slice aA o1.length ac, .slice aA' o2.length ac', .int .i64 o3, .int .i64 o4]
    have HA := hide (And.intro (ha1.alloc (.cells #[.slice aA o1.length ac, .slice aA' o2.length ac', .int .i64 o3, .int .i64 o4] 30)) (ha2.alloc (.cells #[.slice aA o1.length ac, .slice aA' o2.length ac', .int .i64 o3, .int .i64 o4] 30)))
    have HG := hide (ha1.form)
    have HX6 := hide (HX5.out.alloc (.cells #[.slice aA o1.length ac, .slice aA' o2.length ac', .int .i64 o3, .int .i64 o4] 30))
    have HB6 := hide (below_after HB4.out h6)
    have HN := hide h6
    have HY := hide hY
    have hlt5 : w5.heap.size < (w5.alloc (.cells #[.slice aA o1.length ac, .slice aA' o2.length ac', .int .i64 o3, .int .i64 o4] 30)).heap.size := by rw [show (w5.alloc (.cells #[.slice aA o1.length ac, .slice aA' o2.length ac', .int .i64 o3, .int .i64 o4] 30)).heap.size = w5.heap.size + 1 from Array.size_push ..]; omega
    have HL5 := hide hlt5
    clear h5 h6 hY ha1 ha2 HX5 HB5 hlt5
    go_upto_region 6 with fail
    generalize w5.alloc _ = w6 at *
    generalize hw5 : w5.heap.size = ya at *
    have x0 := HX6.out.cell 0
    have x1 := HX6.out.cell 1
    have x2 := HX6.out.cell 2
    have x3 := HX6.out.cell 3
    have x4 := HX6.out.cell 4
    have x5 := HX6.out.cell 5
    simp only [List.getElem?_toArray, List.getElem?_cons_zero, List.getElem?_cons_succ] at x0 x1 x2 x3 x4 x5
    go_wp2_with fail
    refine (RQ.out _ HB6.out).mono ?_
    rintro e w7 ⟨v, rfl, -, h7⟩
    clear x0 x1 x2 x3 x4 x5 RQ
    have HX7 := hide (HX6.out.below h7 HX6.out.lt)
    have HY7 := hide (HY.out.below h7 HY.out.lt)
    have HA7 := hide (And.intro (HA.out.1.below h7) (HA.out.2.below h7))
    have HB7 := hide (below_after HB6.out h7)
    have HN7 := hide (below_after HN.out h7)
    have HL7 := hide (Nat.lt_of_lt_of_le HL5.out h7.size)
    clear h7 HX6 HY HA HB6 HN HL5
    have x0 := HX7.out.cell 0
    have x1 := HX7.out.cell 1
    have x2 := HX7.out.cell 2
    have x3 := HX7.out.cell 3
    have x4 := HX7.out.cell 4
    have x5 := HX7.out.cell 5
    simp only [List.getElem?_toArray, List.getElem?_cons_zero, List.getElem?_cons_succ] at x0 x1 x2 x3 x4 x5
    go_wp2_with fail
    refine (RA.out _ HB7.out).mono ?_
    rintro e w8 ⟨v', rfl, ⟨bA, bc, bA', bc', rfl, hb1, hb2⟩, h8⟩
    clear x0 x1 x2 x3 x4 x5 RA
    simp only at hb1 hb2
    have h9 := h8.alloc h8.size (.cells #[.slice bA o1.length bc, .slice bA' o2.length bc', .int .i64 o3, .int .i64 o4] 30)
    have HZ := hide (Blk.new w8 30 #[.slice bA o1.length bc, .slice bA' o2.length bc', .int .i64 o3, .int .i64 o4])
    have HBb := hide (And.intro (hb1.alloc (.cells #[.slice bA o1.length bc, .slice bA' o2.length bc', .int .i64 o3, .int .i64 o4] 30)) (hb2.alloc (.cells #[.slice bA o1.length bc, .slice bA' o2.length bc', .int .i64 o3, .int .i64 o4] 30)))
    have HX9 := hide ((HX7.out.below h8 HX7.out.lt).alloc (.cells #[.slice bA o1.length bc, .slice bA' o2.length bc', .int .i64 o3, .int .i64 o4] 30))
    have HY9 := hide ((HY7.out.below h8 HY7.out.lt).alloc (.cells #[.slice bA o1.length bc, .slice bA' o2.length bc', .int .i64 o3, .int .i64 o4] 30))
    have HA9 := hide (And.intro ((HA7.out.1.below h8).alloc (.cells #[.slice bA o1.length bc, .slice bA' o2.length bc', .int .i64 o3, .int .i64 o4] 30)) ((HA7.out.2.below h8).alloc (.cells #[.slice bA o1.length bc, .slice bA' o2.length bc', .int .i64 o3, .int .i64 o4] 30)))
    have HB9 := hide (below_after HB7.out h9)
    have HN9 := hide (below_after HN7.out h9)
    clear h8 h9 hb1 hb2 HX7 HY7 HA7 HB7 HN7
    generalize hN7 : w7.heap.size = n7 at *
    go_upto_region 8 with fail
    generalize w8.alloc _ = w9 at *
    generalize w8.heap.size = yb at *
    obtain ⟨s, hsv, hsL, hsA⟩ := OwnR.at_ (d := IntAt) (enc := encInt) (ok := fun _ x => I64 x) (size := 1) (by decide) (fun _ => rfl) makes_int HA9.out.1 OZ.out
    obtain ⟨u, huv, huL, huA⟩ := OwnR.at_ (d := SntAt) (enc := encSnt) (ok := fun _ _ => True) (size := 3) (by decide) (fun _ => rfl) makes_snt HA9.out.2 (fun _ _ => trivial)
    obtain ⟨t, htv, htL, htA⟩ := OwnR.at_ (d := IntAt) (enc := encInt) (ok := fun _ x => I64 x) (size := 1) (by decide) (fun _ => rfl) makes_int HBb.out.1 OZ.out
    obtain ⟨v, hvv, hvL, hvA⟩ := OwnR.at_ (d := SntAt) (enc := encSnt) (ok := fun _ _ => True) (size := 3) (by decide) (fun _ => rfl) makes_snt HBb.out.2 (fun _ _ => trivial)
    have SA := rsame_self w9 s t u v o3 o4 hsA htA huA hvA (hsL.trans htL.symm) (huL.trans hvL.symm)
    rw [← hsv, ← huv, ← htv, ← hvv] at SA
    replace SA := hide SA
    clear hsv huv htv hvv hsL huL htL hvL hsA huA htA hvA s u t v
    have p0 := HY9.out.cell 0
    have p1 := HY9.out.cell 1
    have p2 := HY9.out.cell 2
    have p3 := HY9.out.cell 3
    have q0 := HZ.out.cell 0
    have q1 := HZ.out.cell 1
    have q2 := HZ.out.cell 2
    have q3 := HZ.out.cell 3
    simp only [List.getElem?_toArray, List.getElem?_cons_zero, List.getElem?_cons_succ] at p0 p1 p2 p3 q0 q1 q2 q3
    have hVV : (V == V) = true := beq_self_eq_true V
    go_wp2_with fail
    refine SA.out.mono ?_
    rintro e w10 ⟨rfl, h10⟩
    clear p0 p1 p2 p3 q0 q1 q2 q3 SA
    have HX10 := HX9.out.below h10 HX9.out.lt
    have x0 := HX10.cell 0
    simp only [List.getElem?_toArray, List.getElem?_cons_zero] at x0
    have hN10 := below_after HN9.out h10
    have hB10 := below_after HB9.out h10
    have IA := rints_self ⟨wA, wc, i.wd.L⟩ i.wd w10 (HW.out.below IntAt.keeps hN10) (HI.out.2.1.wd.below IntAt.keeps hB10) rfl
    unfold Sl.val at IA
    replace IA := hide IA
    have HX10 := hide HX10
    have HB10 := hide hB10
    have HN10 := hide hN10
    have HY10 := hide (HY9.out.below h10 HY9.out.lt)
    have HZ10 := hide (HZ.out.below h10 HZ.out.lt)
    have HA10 := hide (And.intro (HA9.out.1.below h10) (HA9.out.2.below h10))
    have HBb10 := hide (And.intro (HBb.out.1.below h10) (HBb.out.2.below h10))
    clear h10 hN10 hB10 HX9 HB9 HN9 HY9 HZ HA9 HBb
    go_wp2_with fail
    refine IA.out.mono ?_
    rintro e w11 ⟨rfl, nd, rfl⟩
    clear x0 IA hVV
    have HX11 := hide (HX10.out.drewN nd)
    have HB11 := hide (below_drewN HB10.out nd)
    have HN11 := hide (below_drewN HN10.out nd)
    have HY11 := hide (HY10.out.drewN nd)
    have HZ11 := hide (HZ10.out.drewN nd)
    have HA11 := hide (And.intro (HA10.out.1.drewN nd) (HA10.out.2.drewN nd))
    have HBb11 := hide (And.intro (HBb10.out.1.drewN nd) (HBb10.out.2.drewN nd))
    clear HX10 HB10 HN10 HY10 HZ10 HA10 HBb10
    go_upto_region 10 with fail
    generalize w10.drewN nd = w11 at *
    go_wp2_with fail
    have hb11 := Below.refl w11.heap.size w11
    go_loopw [13] (fun k wr => ∃ j : Nat, j ≤ p.L.length ∧ k = .int .i64 j ∧ Below w11.heap.size w11 wr) (fun k _ => p.L.length - (intOf k).toNat)
    case atStart => exact ⟨0, Nat.zero_le _, rfl, hb11⟩
    case round =>
      clear hb11
      obtain ⟨j, hj, rfl, hbr⟩ := hrel
      have HBR := hide hbr
      have pAt := hide ((HI.out.1.below InsAt.keeps (below_after HB11.out hbr)))
      have cAt := hide (HC.out.below InsAt.keeps (below_after HN11.out hbr))
      clear hbr
      by_cases hlt : j < p.L.length
      · obtain ⟨a, ha, p0, p1, p2, p3, -⟩ := pAt.out.1 j _ (List.getElem?_eq_getElem hlt)
        obtain ⟨a', ha', q0, q1, q2, q3, -⟩ := cAt.out.1 j _ (List.getElem?_eq_getElem hlt)
        have hlp := pAt.out.2
        have hlc := cAt.out.2
        simp only at ha ha' hlp hlc
        have kI : (j : Int) < (p.L.length : Int) := by omega
        have kI0 : (0 : Int) ≤ (j : Int) := by omega
        generalize p.L[j] = x at *
        clear pAt cAt HI DA
        generalize p.A = pA at *
        subst ha
        subst ha'
        go_wp2_with fail
        go_quiet (fail)
        clear p0 p1 p2 p3 q0 q1 q2 q3
        have HBN := hide (below_drewN HBR.out nq)
        generalize wr.drewN nq = w12 at *
        go_wp2_with fail
        go_roundw
        case rel => exact ⟨j + 1, by omega, by go_num, HBN.out⟩
        case measure => simp [intOf]; omega
      · obtain rfl : j = p.L.length := by omega
        clear pAt cAt
        have HN12 := hide (below_after HN11.out HBR.out)
        have HB12 := hide (below_after HB11.out HBR.out)
        have HX12 := hide (HX11.out.below HBR.out HX11.out.lt)
        have HY12 := hide (HY11.out.below HBR.out HY11.out.lt)
        have HZ12 := hide (HZ11.out.below HBR.out HZ11.out.lt)
        have HA12 := hide (And.intro (HA11.out.1.below HBR.out) (HA11.out.2.below HBR.out))
        have HBb12 := hide (And.intro (HBb11.out.1.below HBR.out) (HBb11.out.2.below HBR.out))
        have hS : AgS w4 ya yb n7 #[.slice aA o1.length ac, .slice aA' o2.length ac', .int .i64 o3, .int .i64 o4] #[.slice bA o1.length bc, .slice bA' o2.length bc', .int .i64 o3, .int .i64 o4] aA (.slice bA o1.length bc) (.slice bA' o2.length bc') o1 o2 wr := by
          refine ⟨HN12.out, HY12.out, HZ12.out, HBb12.out.1, HBb12.out.2, fun hpos => ?_⟩
          obtain ⟨s, hsv, -, -, hfo⟩ := HG.out
          obtain ⟨g, hgA, hlo, hhi, -⟩ := hfo hpos
          injection hsv with hs1
          rw [hgA] at hs1
          rcases HA12.out.1.2 with ⟨he, -⟩ | ⟨g2, cap, cur, hv, -, hh, hn, -, hs, -⟩
          · injection he with he
            rw [hs1] at he
            exact absurd he (by simp)
          · injection hv with hv1
            rw [hs1] at hv1
            have e2 : g = g2 := by simpa using hv1
            subst e2
            exact ⟨g, cur, hs1, hlo, Nat.lt_trans hhi HL7.out, hh, by omega⟩
        have HS := hide hS
        have hlo1 : o1.length ≤ 9223372036854775807 := by
          obtain ⟨s, -, -, hl, -⟩ := HG.out
          omega
        clear hS HN11 HB11 HX11 HY11 HZ11 HA11 HBb11 HBR HN12 HB12 HX12 HY12 HZ12 HA12 HBb12 HG HL7
        go_upto_region 15 with fail
        go_wp2_with fail
        clear hj hlt
        go_loopw [14] (fun k wr => ∃ j : Nat, j ≤ o1.length ∧ k = .int .i64 j ∧ AgS w4 ya yb n7 #[.slice aA o1.length ac, .slice aA' o2.length ac', .int .i64 o3, .int .i64 o4] #[.slice bA o1.length bc, .slice bA' o2.length bc', .int .i64 o3, .int .i64 o4] aA (.slice bA o1.length bc) (.slice bA' o2.length bc') o1 o2 wr) (fun k _ => o1.length - (intOf k).toNat)
        case atStart => exact ⟨0, Nat.zero_le _, rfl, HS.out⟩
        case round =>
          clear HS
          obtain ⟨j, hj, rfl, hS⟩ := hrel
          have y0 := hS.2.1.cell 0
          simp only [List.getElem?_toArray, List.getElem?_cons_zero] at y0
          by_cases hlt : j < o1.length
          · obtain ⟨g, u, hg, c, f, hset⟩ := hS.set hlt
            have HSET := hide (hset (.int .i64 77))
            clear hset hS
            subst hg
            have kI : (j : Int) < (o1.length : Int) := by omega
            have kI0 : (0 : Int) ≤ (j : Int) := by omega
            go_wp2_with fail
            go_roundw
            case rel => exact ⟨j + 1, by omega, by go_num, HSET.out⟩
            case measure => simp [intOf]; omega
          · obtain rfl : j = o1.length := by omega
            obtain ⟨P, hO, h0, hne, hI⟩ : ∃ P : World → Prop, Outlives P ∧ P wr.drew ∧ Nonempty (Wo P) ∧ ∀ i : Wo P, Below w4.heap.size w4 i.W ∧ Blk i.W yb 30 #[.slice bA o1.length bc, .slice bA' o2.length bc', .int .i64 o3, .int .i64 o4] :=
              ⟨fun W => Below w4.heap.size w4 W ∧ Blk W yb 30 #[.slice bA o1.length bc, .slice bA' o2.length bc', .int .i64 o3, .int .i64 o4], fun W W' h hb => ⟨h.1.trans (hb.mono h.1.size), h.2.below hb h.2.lt⟩, ⟨hS.1.drew, hS.2.2.1.drew⟩, ⟨⟨wr, hS.1, hS.2.2.1⟩⟩, fun i => i.ok⟩
            have HS := hide hS
            have hxx : ∀ i : Wo P, Blk i.W w.heap.size 25 _ := fun i => HX4.out.below (hI i).1 HX4.out.lt
            have c0 := fun i => (hxx i).cell 0
            have z0 := fun i => (hI i).2.cell 0
            simp only [List.getElem?_toArray, List.getElem?_cons_zero] at c0 z0
            have IA := hide fun j : Wo P => rints_self ⟨wA, wc, i.wd.L⟩ i.wd j.W (HW.out.below IntAt.keeps (hI j).1) (HI.out.2.1.wd.below IntAt.keeps (below_after HB4.out (hI j).1)) rfl
            unfold Sl.val at IA
            have HO := hide hO
            have H0 := hide h0
            have HII := hide hI
            clear hS hO h0 hI hxx hlt hj
            go_upto_region 19 with fail
            clear y0
            by_cases hz : o1.length = 0
            · have hd : decide ((o1.length : Int) = 0) = true := by simp [hz]
              have hd2 : ((o1.length : Int) == 0) = true := by simp [hz]
              clear hz
              refine wp_region_quietC (by kernel_rfl) (by kernel_rfl) H0.out ?_
              repeat (go_big_quiet_step (first
                | (go_at_call 9; exact Calls.quietC HO.out (awake07 _))
                | (go_at_call 13; exact Calls.quietC HO.out ((IA.out _).mono (fun e w' ⟨he, n, hw⟩ => ⟨he, hw ▸ below_drewN (Below.refl _ _) n⟩)))))
              refine wpQuiet_nil ?_
              intro _ hw'
              obtain ⟨iw, rfl⟩ := hw'
              go_wp2_with fail
              go_ret
              exact ⟨rfl, below_after HB4.out (HII.out iw).1⟩
            · have hd2 : ((o1.length : Int) == 0) = false := by simpa using hz
              by_cases hV : V = 0
              · subst hV
                clear hz IA H0 HO hne c0 z0
                have HXr := HX4.out.below HS.out.1 HX4.out.lt
                have HYr := HS.out.2.2.1
                have HN := hide HS.out.1
                have x0 := HXr.cell 0
                have x1 := HXr.cell 1
                have x2 := HXr.cell 2
                have x3 := HXr.cell 3
                have x4 := HXr.cell 4
                have x5 := HXr.cell 5
                have y0 := HYr.cell 0
                have y1 := HYr.cell 1
                have y2 := HYr.cell 2
                have y3 := HYr.cell 3
                simp only [List.getElem?_toArray, List.getElem?_cons_zero, List.getElem?_cons_succ] at x0 x1 x2 x3 x4 x5 y0 y1 y2 y3
                have IW := hide fun (W : World) (h : Below w4.heap.size w4 W) => rints_self ⟨wA, wc, i.wd.L⟩ i.wd W (HW.out.below IntAt.keeps h) (HI.out.2.1.wd.below IntAt.keeps (below_after HB4.out h)) rfl
                have MU := hide fun (W : World) (h : Below w4.heap.size w4 W) => must_any W p i (HI.out.1.below InsAt.keeps (below_after HB4.out h)) (HI.out.2.1.below (below_after HB4.out h))
                have SM := hide fun (W : World) (b1 : OwnR 3 1 encInt W n7 (.slice bA o1.length bc) o1) (b2 : OwnR 36 3 encSnt W n7 (.slice bA' o2.length bc') o2) (N : Nat) (v : Value) (h : OutAt W N v (o1, o2, o3, o4)) => same_of b1 b2 h OZ.out
                unfold Inp.val Inp.cells Sl.val at MU
                unfold Sl.val at IW
                rw [hOV.out] at MU
                have B1 := hide HS.out.2.2.2.1
                have B2 := hide HS.out.2.2.2.2.1
                clear HXr HYr HS HII
                go_region_held3 (fun w' => w'.cell? ⟨w.heap.size, 0, none⟩ = some (.slice i.wd.A i.wd.L.length i.wd.c) ∧ w'.cell? ⟨w.heap.size, 1, none⟩ = some (.int .i64 i.pay) ∧ w'.cell? ⟨w.heap.size, 2, none⟩ = some (.int .i64 i.me) ∧ w'.cell? ⟨w.heap.size, 3, none⟩ = some (.int .i64 i.lps) ∧ w'.cell? ⟨w.heap.size, 4, none⟩ = some (.int .i64 i.seed) ∧ w'.cell? ⟨w.heap.size, 5, none⟩ = some (.int .i64 i.dice) ∧ w'.cell? ⟨yb, 0, none⟩ = some (.slice bA o1.length bc) ∧ w'.cell? ⟨yb, 1, none⟩ = some (.slice bA' o2.length bc') ∧ w'.cell? ⟨yb, 2, none⟩ = some (.int .i64 o3) ∧ w'.cell? ⟨yb, 3, none⟩ = some (.int .i64 o4))
                  (first
                    | go_keep
                    | (go_split_ands; exact ⟨keepc hb5 (by assumption), keepc hb5 (by assumption), keepc hb5 (by assumption), keepc hb5 (by assumption), keepc hb5 (by assumption), keepc hb5 (by assumption), keepc hb5 (by assumption), keepc hb5 (by assumption), keepc hb5 (by assumption), keepc hb5 (by assumption)⟩)
                    | (go_split_ands; exact ⟨keepc hb4 (by assumption), keepc hb4 (by assumption), keepc hb4 (by assumption), keepc hb4 (by assumption), keepc hb4 (by assumption), keepc hb4 (by assumption), keepc hb4 (by assumption), keepc hb4 (by assumption), keepc hb4 (by assumption), keepc hb4 (by assumption)⟩)
                    | (go_split_ands; exact ⟨keepc hb3 (by assumption), keepc hb3 (by assumption), keepc hb3 (by assumption), keepc hb3 (by assumption), keepc hb3 (by assumption), keepc hb3 (by assumption), keepc hb3 (by assumption), keepc hb3 (by assumption), keepc hb3 (by assumption), keepc hb3 (by assumption)⟩)
                    | (go_split_ands; exact ⟨keepc hb2 (by assumption), keepc hb2 (by assumption), keepc hb2 (by assumption), keepc hb2 (by assumption), keepc hb2 (by assumption), keepc hb2 (by assumption), keepc hb2 (by assumption), keepc hb2 (by assumption), keepc hb2 (by assumption), keepc hb2 (by assumption)⟩))
                  (first
                    | (go_at_call 9; refine (awake07 _).mono ?_; rintro e w21 ⟨rfl, hb2⟩; have n2 := HN.out.drew.trans (hb2.mono HN.out.size))
                    | (go_at_call 13; refine (IW.out _ n2).mono ?_; rintro e w22 ⟨rfl, nq, rfl⟩; have hb3 := below_drewN (Below.refl w21.heap.size w21) nq; have n3 := n2.trans (hb3.mono n2.size))
                    | (go_at_call 14; refine (MU.out _ n3).mono ?_; rintro e w23 ⟨v, rfl, hov, hb4⟩; have n4 := n3.trans (hb4.mono n3.size))
                    | (go_at_call 12; refine (SM.out _ (((B1.out.drew.below hb2).below hb3).below hb4) (((B2.out.drew.below hb2).below hb3).below hb4) _ _ hov).mono ?_; rintro e w24 ⟨rfl, hb5⟩))
                go_wp2_with fail
                go_ret
                exact ⟨rfl, below_after (below_after HB4.out n4) hb5⟩
              · have hd3 : (V != 0) = true := by simpa using hV
                clear hz hV
                refine wp_region_quietC (by kernel_rfl) (by kernel_rfl) H0.out ?_
                repeat (go_big_quiet_step (first
                  | (go_at_call 9; exact Calls.quietC HO.out (awake07 _))
                  | (go_at_call 13; exact Calls.quietC HO.out ((IA.out _).mono (fun e w' ⟨he, n, hw⟩ => ⟨he, hw ▸ below_drewN (Below.refl _ _) n⟩)))))
                refine wpQuiet_nil ?_
                intro _ hw'
                obtain ⟨iw, rfl⟩ := hw'
                go_wp2_with fail
                go_ret
                exact ⟨rfl, below_after HB4.out (HII.out iw).1⟩
end Go.Proofs.Ytgohdpnlaedeiaa
