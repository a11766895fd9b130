/- The walk of the reference's Lay: the bytes of a model that may be. No condition but that. Printed by wip/tools/rmio.py. -/
import Derived.Test.YtegegljpmelomaaMioP
import Derived.Test.YtegegljpmelomaaPack2
import Derived.Test.YtegegljpmelomaaTree
import Derived.Deep.DeepCutAuto
set_option linter.unusedVariables false
set_option linter.unusedSimpArgs false
set_option maxRecDepth 20000
namespace Go.Proofs.Ytegegljpmelomaa
open Go.RowKit Go.Deep
attribute [local go_sem] run_store_float

theorem run_catM (x y : ByteArray) (h : x.size + y.size ≤ 9223372036854775807) (w : World) : (Op.stringOp .add x y).run Try.prog w = .ok (.string (x ++ y)) w := by
  unfold Op.stringOp
  have hml : ¬ maxLen < x.size + y.size := by unfold maxLen; omega
  simp [hml]
  omega
theorem run_catW (a b : List Nat) (h : a.length + b.length ≤ 1000000) : ∀ w, (Op.stringOp .add (strW a) (strW b)).run Try.prog w = .ok (.string (strW (a ++ b))) w := fun w => by
  rw [strW_app]
  exact run_catM _ _ (by rw [strW_size, strW_size]; omega) w
def RIntsRel (w : World) (L : List Int) (b i : Value) (wr : World) : Prop :=
  ∃ k : Nat, k ≤ L.length ∧ i = .int .i64 k ∧ PutTo w (wsB ((L.take k).map Mio.ofI)) b wr
theorem rints_put (A : Option Addr) (n c : Nat) (L : List Int) (w : World) (hs : RowD IntAt 1 w A L) (hn : L.length = n) (hl : n ≤ 1000000) :
    Calls Try.prog 60 #[.slice A n c] w fun e w' => e = .returned (.string (strW (L.map Mio.ofI))) ∧ Below w.heap.size w w' := by
  subst hn
  have HS := hide hs
  have HE := hide (show bs (wsB ((L.take L.length).map Mio.ofI)) = strW (L.map Mio.ofI) by rw [List.take_length]; rfl)
  generalize strW (L.map Mio.ofI) = R at *
  clear hs
  have hl1 : L.length ≤ 9223372036854775807 := by omega
  go_enter Try.func60, Try.ntmps60
  go_wp2_with fail
  go_loopw [3, 4] (fun b i wr => RIntsRel w L b i wr) (fun _ i _ => L.length - (intOf i).toNat)
  case atStart => exact ⟨0, Nat.zero_le _, rfl, PutTo.start w (Below.refl _ _)⟩
  case round =>
    obtain ⟨k, hk, rfl, hp⟩ := hrel
    by_cases hlt : k < L.length
    · have hx := List.getElem?_eq_getElem hlt
      obtain ⟨a, rfl, h0, hi⟩ := (HS.out.below IntAt.keeps hp.bel) k _ hx
      rw [Nat.mul_one] at h0
      generalize L[k] = x at *
      have HX := hide (wsB_take hx)
      have HB := hide (iS_bytes hi)
      have HZ := hide (iS_size x)
      have HP := hide hp
      have hcl : (wsB ((L.take k).map Mio.ofI)).length ≤ 8 * L.length := by
        rw [wsB_len, List.length_map, List.length_take]
        omega
      clear hx hi hp
      go_wp2_with fail
      refine (ri_any x _).mono ?_
      rintro e w1 ⟨rfl, hb1⟩
      have hp1 := HP.out.below hb1
      go_wp2_with (at_builtin; go_must (refine wpList_append_strB _ rfl (.tmp 11) (.tmp 16) rfl w.heap.size _ _ rfl hp1.own (iS x) rfl (by have := HZ.out; omega) hp1.siz ?_); intro v2 w2 hown2 hext2)
      have hp2 : PutTo w (wsB ((L.take (k + 1)).map Mio.ofI)) v2 w2 := hp1.ext (by rw [HX.out, ← HB.out]; exact hown2) hext2
      have HP2 := hide hp2
      clear hp2 hown2 hext2 hp1
      go_roundw
      case rel => exact ⟨k + 1, by omega, by go_num, HP2.out⟩
      case measure => simp [intOf]; omega
    · obtain rfl : k = L.length := by omega
      have hc := own_string hp.own
      rw [HE.out] at hc
      have HP := hide hp
      clear hp
      go_wp2_with fail
      go_ret
      exact ⟨rfl, HP.out.bel⟩
theorem bits_any (t : Nat) (w : World) (ht : t < 18446744073709551616) : Calls Try.prog 59 #[.float .f64 t] w fun e w' => e = .returned (.string (strW [t])) ∧ Below w.heap.size w w' := by
  have hu := ru_any t w (by omega) (by omega)
  rw [uS_w] at hu
  have fb := f64bits_run
  go_enter Try.func59, Try.ntmps59
  go_wp2_with fail
  refine hu.mono ?_
  rintro e w1 ⟨rfl, hb1⟩
  go_wp2_with fail
  go_ret
  exact ⟨rfl, hb1⟩
theorem rI_any (n : Int) (w : World) (h : I64 n) : Calls Try.prog 45 #[.int .i64 n] w fun e w' => e = .returned (.string (strW [Mio.ofI n])) ∧ Below w.heap.size w w' := by
  have := ri_any n w
  rw [iS_w h] at this
  exact this
theorem rints_new (t : TypeId) (L : List Int) (w : World) (g : Nat) (hg : w.heap.size = g) (hL : ∀ x ∈ L, I64 x) (n : Nat) (hn : L.length = n) (hl : n ≤ 1000000) (cs : Array Value) (hcs : cs = (L.map (Value.int .i64)).toArray) :
    Calls Try.prog 60 #[.slice (some ⟨g, 0, none⟩) n n] (w.alloc (.cells cs t)) fun e w' => e = .returned (.string (strW (L.map Mio.ofI))) ∧ Below w.heap.size w w' := by
  subst hg
  refine (rints_put _ n n L _ (row_new w t L hL cs hcs) hn hl).mono fun e w' ⟨he, hb⟩ => ⟨he, below_after ((Below.refl _ _).alloc (Nat.le_refl _) _) hb⟩
theorem map_flat (L : List Int) : L.map Mio.ofI = L.flatMap Mio.layI := by
  induction L with
  | nil => rfl
  | cons x L ih => rw [List.map_cons, List.flatMap_cons, ih]; rfl
theorem layPr_len {p : Sl Ins4} (h : p.L.length ≤ 48) : (layPr p).length ≤ 193 := by
  have h1 := flat_len Mio.layIns 4 p.L fun _ _ => Nat.le_refl _
  unfold layPr Mio.layL
  rw [List.length_cons]
  omega
theorem layLp_len {x : LP2} (h : x.2.L.length ≤ 8) : (layLp2 x).length ≤ 10 := by
  have h1 := flat_len Mio.layI 1 x.2.L fun _ _ => Nat.le_refl _
  unfold layLp2 Mio.layLP Mio.layL
  rw [List.length_cons, List.length_cons]
  simp only
  omega
def LayR {α : Type} (w : World) (M : Array Value) (pre : List Nat) (lay : α → List Nat) (L : List α) (s i : Value) (wr : World) : Prop :=
  ∃ k : Nat, k ≤ L.length ∧ i = .int .i64 k ∧ s = .string (strW (pre ++ (L.take k).flatMap lay)) ∧ Below w.heap.size w wr ∧ Blk wr w.heap.size 28 M
theorem pre_len {α : Type} (lay : α → List Nat) (c n N : Nat) (L : List α) (pre : List Nat) (hp : pre.length ≤ N) (hn : L.length ≤ n) (h : ∀ x ∈ L, (lay x).length ≤ c) (k : Nat) : (pre ++ (L.take k).flatMap lay).length ≤ N + n * c := by
  have h1 := flat_len lay c (L.take k) fun x hx => h x (List.mem_of_mem_take hx)
  have h2 : (L.take k).length * c ≤ n * c := Nat.mul_le_mul_right c (by rw [List.length_take]; omega)
  rw [List.length_append]
  omega
theorem pre_next {α : Type} (lay : α → List Nat) {L : List α} {k : Nat} {x : α} (hx : L[k]? = some x) (pre : List Nat) : (pre ++ (L.take k).flatMap lay) ++ lay x = pre ++ (L.take (k + 1)).flatMap lay := by rw [flat_take lay hx, List.append_assoc]
theorem pre_end {α : Type} (lay : α → List Nat) (L : List α) (pre : List Nat) : pre ++ (L.take L.length).flatMap lay = pre ++ L.flatMap lay := by rw [List.take_length]
theorem lay_words (m : Mdl) : strW (((((([Mio.ofI m.seed, m.fin, Mio.ofI m.dl.L.length] ++ m.dl.L.flatMap Mio.layF) ++ [Mio.ofI m.pl.L.length]) ++ m.pl.L.flatMap layPr) ++ [Mio.ofI m.ll.L.length]) ++ m.ll.L.flatMap layLp2) ++ [Mio.ofI m.il.L.length] ++ m.il.L.flatMap Mio.layIni) = putS (modOf m) := by
  unfold putS
  congr 1
  have e1 : Mio.layL (Mio.layL Mio.layIns) (m.pl.L.map (·.L)) = Mio.layL layPr m.pl.L := by
    unfold Mio.layL
    rw [List.length_map, flat_map]
    rfl
  have e2 : Mio.layL Mio.layLP (m.ll.L.map fun x => (x.1, x.2.L)) = Mio.layL layLp2 m.ll.L := by
    unfold Mio.layL
    rw [List.length_map, flat_map]
    rfl
  unfold Mio.layM modOf
  simp only [e1, e2]
  simp only [Mio.layL, List.cons_append, List.nil_append, List.append_assoc]
set_option maxHeartbeats 4000000 in
theorem lay_any (m : Mdl) (w : World) (h : m.At w) (hf : Fits m) : Calls Try.prog 25 #[m.val] w fun e w' => e = .returned (.string (putS (modOf m))) ∧ Below w.heap.size w w' := by
  have HE := hide (lay_words m)
  have b1 := h.1
  have b2 := h.2.1
  obtain ⟨seed, fin, ⟨dA, dc, dl⟩, ⟨pA, pc, pl⟩, ⟨lA, lc, ll⟩, ⟨iA, ic, il⟩⟩ := m
  obtain ⟨_, _, ⟨dr, d1, d2⟩, ⟨pr, p1, p2⟩, ⟨lr, l1, l2⟩, ⟨ir, i1, i2⟩⟩ := h
  obtain ⟨f1, f2, f3, f4, f5, f6⟩ := hf
  simp only [Sl.val, Mdl.val] at *
  generalize putS (modOf ⟨seed, fin, ⟨dA, dc, dl⟩, ⟨pA, pc, pl⟩, ⟨lA, lc, ll⟩, ⟨iA, ic, il⟩⟩) = R at *
  have HB := hide (show Below w.heap.size w (w.alloc (.cells #[.int .i64 seed, .float .f64 fin, .slice dA dl.length dc, .slice pA pl.length pc, .slice lA ll.length lc, .slice iA il.length ic] 28)) from (Below.refl _ _).alloc (Nat.le_refl _) _)
  have hX0 := Blk.new w 28 #[.int .i64 seed, .float .f64 fin, .slice dA dl.length dc, .slice pA pl.length pc, .slice lA ll.length lc, .slice iA il.length ic]
  have HX := hide hX0
  clear hX0
  go_enter Try.func25, Try.ntmps25
  go_wp2_with fail
  have HK1 := hide (show ([Mio.ofI seed, fin, Mio.ofI (dl.length : Int)]).length ≤ 3 from Nat.le_refl _)
  have b3 : I64 (dl.length : Int) := by unfold I64; omega
  have b4 : I64 (pl.length : Int) := by unfold I64; omega
  have b5 : I64 (ll.length : Int) := by unfold I64; omega
  have b6 : I64 (il.length : Int) := by unfold I64; omega
  have HI := hide (And.intro (And.intro b1 b2) (And.intro (And.intro b3 b4) (And.intro b5 b6)))
  clear b1 b2 b3 b4 b5 b6
  have k1 : ∀ w, (Op.stringOp .add (strW [Mio.ofI seed]) (strW [fin])).run Try.prog w = .ok (.string (strW [Mio.ofI seed, fin])) w := run_catW [Mio.ofI seed] [fin] (by simp)
  have k2 : ∀ w, (Op.stringOp .add (strW [Mio.ofI seed, fin]) (strW [Mio.ofI (dl.length : Int)])).run Try.prog w = .ok (.string (strW [Mio.ofI seed, fin, Mio.ofI (dl.length : Int)])) w := run_catW [Mio.ofI seed, fin] [Mio.ofI (dl.length : Int)] (by simp)
  have HC := hide (show ∀ X, Below (w.alloc (.cells #[.int .i64 seed, .float .f64 fin, .slice dA dl.length dc, .slice pA pl.length pc, .slice lA ll.length lc, .slice iA il.length ic] 28)).heap.size (w.alloc (.cells #[.int .i64 seed, .float .f64 fin, .slice dA dl.length dc, .slice pA pl.length pc, .slice lA ll.length lc, .slice iA il.length ic] 28)) X → (X.cell? ⟨w.heap.size, 0, none⟩ = some (.int .i64 seed) ∧ X.cell? ⟨w.heap.size, 1, none⟩ = some (.float .f64 fin) ∧ X.cell? ⟨w.heap.size, 2, none⟩ = some (.slice dA dl.length dc)) from fun X hb => ⟨(HX.out.below hb HX.out.lt).cell 0, (HX.out.below hb HX.out.lt).cell 1, (HX.out.below hb HX.out.lt).cell 2⟩)
  generalize (w.alloc (.cells #[.int .i64 seed, .float .f64 fin, .slice dA dl.length dc, .slice pA pl.length pc, .slice lA ll.length lc, .slice iA il.length ic] 28)) = W at *
  go_cut [3] (fun s wx => s = .string (strW ([Mio.ofI seed, fin, Mio.ofI (dl.length : Int)])) ∧ Below w.heap.size w wx ∧ Blk wx w.heap.size 28 #[.int .i64 seed, .float .f64 fin, .slice dA dl.length dc, .slice pA pl.length pc, .slice lA ll.length lc, .slice iA il.length ic])
  case first =>
    refine wp_region_tree (fun X => X.cell? ⟨w.heap.size, 0, none⟩ = some (.int .i64 seed) ∧ X.cell? ⟨w.heap.size, 1, none⟩ = some (.float .f64 fin) ∧ X.cell? ⟨w.heap.size, 2, none⟩ = some (.slice dA dl.length dc)) [0, 1, 3, 4, 7, 8, 9] 11 6 (by kernel_rfl) (by kernel_rfl) (HC.out _ (Below.refl _ _).drew) ?_
    simp only [List.filterMap_cons, List.filterMap_nil, List.getElem?_cons_succ, List.getElem?_cons_zero]
    repeat (refine head_step ?_ (by rfl) ?_ (fun _ _ _ h => h) ?_; rotate_left; (intro w' hs; obtain ⟨z0, z1, z2⟩ := hs; go_simp; (try with_reducible rfl)); (try simp only [Act.put, List.setIfInBounds_toArray, List.set_cons_zero, List.set_cons_succ]))
    refine head_nil ?_
    refine tree_one 2 (by kernel_rfl) rfl ?_
    refine midc_call (g := 45) (args := #[.int .i64 seed]) (w' := W.drew) (by rfl) (by go_simp) ((rI_any seed W.drew HI.out.1.1).mono ?_)
    rintro e wA ⟨rfl, hbA⟩
    have hbA := below_after (Below.refl W.heap.size W).drew hbA
    refine ⟨_, rfl, HC.out _ hbA, ?_⟩
    simp only [Act.put, List.setIfInBounds_toArray, List.set_cons_zero, List.set_cons_succ]
    refine midc_nil ?_
    refine tree_one 5 (by kernel_rfl) rfl ?_
    refine midc_call (g := 59) (args := #[.float .f64 fin]) (w' := wA) (by rfl) (by go_simp) ((bits_any fin wA HI.out.1.2).mono ?_)
    rintro e wB ⟨rfl, hbB⟩
    have hbB := below_after hbA hbB
    refine ⟨_, rfl, HC.out _ hbB, ?_⟩
    simp only [Act.put, List.setIfInBounds_toArray, List.set_cons_zero, List.set_cons_succ]
    refine midc_nil ?_
    refine tree_two 6 10 (by kernel_rfl) rfl rfl ?_ ?_
    · refine midc_step (.string (strW [Mio.ofI seed, fin])) (wB) (by rfl) (by go_simp; try (first | rfl | exact ⟨rfl, rfl⟩)) (HC.out _ hbB) ?_
      simp only [Act.put, List.setIfInBounds_toArray, List.set_cons_zero, List.set_cons_succ]
      refine midc_nil ?_
      refine tree_one 10 (by kernel_rfl) rfl ?_
      refine midc_call (g := 45) (args := #[.int .i64 dl.length]) (w' := wB) (by rfl) (by go_simp) ((rI_any dl.length wB HI.out.2.1.1).mono ?_)
      rintro e wC ⟨rfl, hbC⟩
      have hbC := below_after hbB hbC
      refine ⟨_, rfl, HC.out _ hbC, ?_⟩
      simp only [Act.put, List.setIfInBounds_toArray, List.set_cons_zero, List.set_cons_succ]
      refine midc_nil ?_
      refine tree_list _ 11 (by decide) rfl (by kernel_rfl) rfl ?_
      have hX1 := HX.out.below hbC HX.out.lt
      have hb1 := HB.out.trans (hbC.mono HB.out.size)
      have hj := And.intro hb1 hX1
      have HJ := hide hj
      clear hbA hbB hbC hX1 hb1 hj HX HC
      go_wp2_with fail
      go_meet
      exact ⟨rfl, HJ.out⟩
    · refine midc_call (g := 45) (args := #[.int .i64 dl.length]) (w' := wB) (by rfl) (by go_simp) ((rI_any dl.length wB HI.out.2.1.1).mono ?_)
      rintro e wC ⟨rfl, hbC⟩
      have hbC := below_after hbB hbC
      refine ⟨_, rfl, HC.out _ hbC, ?_⟩
      simp only [Act.put, List.setIfInBounds_toArray, List.set_cons_zero, List.set_cons_succ]
      refine midc_nil ?_
      refine tree_one 6 (by kernel_rfl) rfl ?_
      refine midc_step (.string (strW [Mio.ofI seed, fin])) (wC) (by rfl) (by go_simp; try (first | rfl | exact ⟨rfl, rfl⟩)) (HC.out _ hbC) ?_
      simp only [Act.put, List.setIfInBounds_toArray, List.set_cons_zero, List.set_cons_succ]
      refine midc_nil ?_
      refine tree_list _ 11 (by decide) rfl (by kernel_rfl) rfl ?_
      have hX1 := HX.out.below hbC HX.out.lt
      have hb1 := HB.out.trans (hbC.mono HB.out.size)
      have hj := And.intro hb1 hX1
      have HJ := hide hj
      clear hbA hbB hbC hX1 hb1 hj HX HC
      go_wp2_with fail
      go_meet
      exact ⟨rfl, HJ.out⟩
  case rest =>
    obtain ⟨rfl, hb1, hX1⟩ := hcut
    have HB1 := hide hb1
    have HX1 := hide hX1
    clear hb1 hX1 HB HX HC k1 k2 W
    have hP1 := HK1.out
    generalize [Mio.ofI seed, fin, Mio.ofI (dl.length : Int)] = P1 at *
    clear HK1
    go_wp2_with fail
    have HD := hide dr
    have HPR := hide pr
    have HLR := hide lr
    have HIR := hide ir
    have HF5 := hide f3
    have HF6 := hide f5
    clear dr pr lr ir f3 f5
    have hP := hP1
    go_loopw [3, 4] (fun s i wr => LayR w #[.int .i64 seed, .float .f64 fin, .slice dA dl.length dc, .slice pA pl.length pc, .slice lA ll.length lc, .slice iA il.length ic] P1 Mio.layF dl s i wr) (fun _ i _ => dl.length - (intOf i).toNat)
    case atStart => exact ⟨0, Nat.zero_le _, rfl, by rw [List.take_zero, List.flatMap_nil, List.append_nil], HB1.out, HX1.out⟩
    case round =>
      obtain ⟨k, hk, rfl, rfl, hb, hX⟩ := hrel
      have HB := hide hb
      have HX := hide hX
      have hz := pre_len Mio.layF 1 8 3 dl P1 hP (by omega) (fun _ _ => Nat.le_refl _) k
      clear hb hX HB1 HX1
      by_cases hlt : k < dl.length
      · have hx := List.getElem?_eq_getElem hlt
        obtain ⟨a, rfl, h0, hi⟩ := (HD.out.below FlAt.keeps HB.out) k _ hx
        rw [Nat.mul_one] at h0
        generalize dl[k] = x at *
        have HN := hide (pre_next Mio.layF hx P1)
        have c2 := HX.out.cell 2
        simp only [List.getElem?_toArray, List.getElem?_cons_zero, List.getElem?_cons_succ] at c2
        generalize P1 ++ (dl.take k).flatMap Mio.layF = Z at *
        have hcat := run_catW Z [x] (by rw [List.length_singleton]; omega)
        have hone := bits_any x wr hi
        have HY := hide (show strW (Z ++ [x]) = strW (P1 ++ (dl.take (k + 1)).flatMap Mio.layF) from congrArg strW HN.out)
        generalize Z ++ [x] = Y at *
        clear hi hx HN hz
        go_wp2_with fail
        refine hone.mono ?_
        rintro e w1 ⟨rfl, hb1⟩
        have HB2 := hide (below_after HB.out hb1)
        have HX2 := hide (HX.out.below hb1 HX.out.lt)
        clear hb1 c2 h0 hone
        go_wp2_with fail
        go_roundw
        case rel => exact ⟨k + 1, by omega, by go_num, congrArg Value.string HY.out, HB2.out, HX2.out⟩
        case measure => simp [intOf]; omega
      · obtain rfl : k = dl.length := by omega
        have HPE := hide (pre_end Mio.layF dl P1)
        have c2 := HX.out.cell 2
        have c3 := HX.out.cell 3
        simp only [List.getElem?_toArray, List.getElem?_cons_zero, List.getElem?_cons_succ] at c2 c3
        generalize hZ : P1 ++ (dl.take dl.length).flatMap Mio.layF = Z at *
        have hZl : Z.length ≤ 11 := by omega
        clear hZ hz hP
        have hcat := run_catW Z [Mio.ofI (pl.length : Int)] (by rw [List.length_singleton]; omega)
        have hQl : (Z ++ [Mio.ofI (pl.length : Int)]).length ≤ 12 := by rw [List.length_append, List.length_singleton]; omega
        generalize hQ : Z ++ [Mio.ofI (pl.length : Int)] = Q1 at *
        have HQ := hide hQ
        clear hQ
        go_wp2_with fail
        refine (rI_any pl.length wr HI.out.2.1.2).mono ?_
        rintro e w1 ⟨rfl, hb1⟩
        have HB1 := hide (below_after HB.out hb1)
        have HX1 := hide (HX.out.below hb1 HX.out.lt)
        clear hb1 c2 c3 HB HX
        go_wp2_with fail
        clear hcat
        have hP := hQl
        have HS2 := hide (show Q1 = (P1 ++ dl.flatMap Mio.layF) ++ [Mio.ofI (pl.length : Int)] by rw [← HPE.out]; exact HQ.out.symm)
        clear hQl HPE HQ hZl
        go_loopw [3, 5] (fun s i wr => LayR w #[.int .i64 seed, .float .f64 fin, .slice dA dl.length dc, .slice pA pl.length pc, .slice lA ll.length lc, .slice iA il.length ic] Q1 layPr pl s i wr) (fun _ i _ => pl.length - (intOf i).toNat)
        case atStart => exact ⟨0, Nat.zero_le _, rfl, by rw [List.take_zero, List.flatMap_nil, List.append_nil], HB1.out, HX1.out⟩
        case round =>
          obtain ⟨k, hk, rfl, rfl, hb, hX⟩ := hrel
          have HB := hide hb
          have HX := hide hX
          have hz := pre_len layPr 193 4 12 pl Q1 hP (by omega) (fun p hp => layPr_len (HF5.out p hp)) k
          clear hb hX HB1 HX1
          by_cases hlt : k < pl.length
          · have hx := List.getElem?_eq_getElem hlt
            obtain ⟨a, rfl, h0, hs⟩ := (HPR.out.below (SlAt.keeps InsAt.keeps 4) HB.out) k _ hx
            rw [Nat.mul_one] at h0
            have hxl := HF5.out _ (List.mem_of_getElem? hx)
            generalize pl[k] = x at *
            have HXK := hide hx
            have HN := hide (pre_next layPr hx Q1)
            have c3 := HX.out.cell 3
            simp only [List.getElem?_toArray, List.getElem?_cons_zero, List.getElem?_cons_succ] at c3
            generalize Q1 ++ (pl.take k).flatMap layPr = Z at *
            clear hx hs
            obtain ⟨xA, xc, xl⟩ := x
            simp only [Sl.val] at h0 hxl
            have hxn : I64 (xl.length : Int) := by unfold I64; omega
            have hcat := run_catW Z [Mio.ofI (xl.length : Int)] (by rw [List.length_singleton]; omega)
            have hVl : (Z ++ [Mio.ofI (xl.length : Int)]).length ≤ 785 := by rw [List.length_append, List.length_singleton]; omega
            generalize hV : Z ++ [Mio.ofI (xl.length : Int)] = V at *
            have HV := hide hV
            have hone := rI_any xl.length wr hxn
            clear hV hz hxn
            go_wp2_with fail
            refine hone.mono ?_
            rintro e w2 ⟨rfl, hb1⟩
            have HB2 := hide (below_after HB.out hb1)
            have HX2 := hide (HX.out.below hb1 HX.out.lt)
            clear hb1 c3 h0 hone HB HX
            go_wp2_with fail
            clear hcat
            go_loopw [3, 6] (fun s i wx => LayR w #[.int .i64 seed, .float .f64 fin, .slice dA dl.length dc, .slice (some a) pl.length pc, .slice lA ll.length lc, .slice iA il.length ic] V Mio.layIns xl s i wx) (fun _ i _ => xl.length - (intOf i).toNat)
            case atStart => exact ⟨0, Nat.zero_le _, rfl, by rw [List.take_zero, List.flatMap_nil, List.append_nil], HB2.out, HX2.out⟩
            case round =>
              clear HB2 HX2
              obtain ⟨j, hj, rfl, rfl, hb, hX⟩ := hrel
              have HB3 := hide hb
              have HX3 := hide hX
              have hz2 := pre_len Mio.layIns 4 48 785 xl V hVl (by omega) (fun _ _ => Nat.le_refl _) j
              obtain ⟨a', e', g0, hs⟩ := (HPR.out.below (SlAt.keeps InsAt.keeps 4) HB3.out) k _ HXK.out
              obtain rfl : a = a' := Option.some.inj e'
              rw [Nat.mul_one] at g0
              have c3 := HX3.out.cell 3
              simp only [List.getElem?_toArray, List.getElem?_cons_zero, List.getElem?_cons_succ] at c3
              simp only [Sl.val] at g0
              clear e' hb hX
              by_cases hjt : j < xl.length
              · have hy := List.getElem?_eq_getElem hjt
                obtain ⟨b, rfl, q0, q1, q2, q3, qi⟩ := hs.1 j _ hy
                generalize xl[j] = y at *
                have HN2 := hide (pre_next Mio.layIns hy V)
                generalize V ++ (xl.take j).flatMap Mio.layIns = U at *
                clear hs hy
                obtain ⟨y1, y2, y3, y4⟩ := y
                obtain ⟨i1, i2, i3, i4⟩ := qi
                simp only at q0 q1 q2 q3 i1 i2 i3 i4
                have hone := rints_new 3 [y1, y2, y3, y4] (wr.alloc (.cells #[.int .i64 y1, .int .i64 y2, .int .i64 y3, .int .i64 y4] 34)) (wr.heap.size + 1) (by simp) (four_in i1 i2 i3 i4) 4 rfl (by decide) #[.int .i64 y1, .int .i64 y2, .int .i64 y3, .int .i64 y4] rfl
                rw [show [y1, y2, y3, y4].map Mio.ofI = Mio.layIns (y1, y2, y3, y4) from rfl] at hone
                have h4 : (Mio.layIns (y1, y2, y3, y4)).length = 4 := rfl
                generalize Mio.layIns (y1, y2, y3, y4) = I4 at *
                have hcat := run_catW U I4 (by omega)
                have HY := hide (congrArg strW HN2.out)
                generalize U ++ I4 = Y at *
                clear i1 i2 i3 i4 h4 HN2 hz2
                go_wp2_with fail
                refine hone.mono ?_
                rintro e w3 ⟨rfl, hb2⟩
                have HB4 := hide (below_after (below_after HB3.out ((Below.refl _ _).alloc (Nat.le_refl _) _)) hb2)
                have HX4 := hide ((HX3.out.alloc _).below hb2 (HX3.out.alloc _).lt)
                clear hb2 c3 g0 q0 q1 q2 q3 hone
                go_wp2_with fail
                go_roundw
                case rel => exact ⟨j + 1, by omega, by go_num, congrArg Value.string HY.out, HB4.out, HX4.out⟩
                case measure => simp [intOf]; omega
              · obtain rfl : j = xl.length := by omega
                have HE2 := hide (show strW (V ++ (xl.take xl.length).flatMap Mio.layIns) = strW (Q1 ++ (pl.take (k + 1)).flatMap layPr) by rw [pre_end, ← HV.out, List.append_assoc, ← HN.out]; rfl)
                generalize V ++ (xl.take xl.length).flatMap Mio.layIns = U at *
                clear hz2 hs
                go_wp2_with fail
                go_roundw
                case rel => exact ⟨k + 1, by omega, by go_num, congrArg Value.string HE2.out, HB3.out, HX3.out⟩
                case measure => simp [intOf]; omega
          · obtain rfl : k = pl.length := by omega
            have HPE := hide (pre_end layPr pl Q1)
            have c3 := HX.out.cell 3
            have c4 := HX.out.cell 4
            simp only [List.getElem?_toArray, List.getElem?_cons_zero, List.getElem?_cons_succ] at c3 c4
            generalize hZ : Q1 ++ (pl.take pl.length).flatMap layPr = Z at *
            have hZl : Z.length ≤ 785 := by omega
            clear hZ hz hP
            have hcat := run_catW Z [Mio.ofI (ll.length : Int)] (by rw [List.length_singleton]; omega)
            have hQl : (Z ++ [Mio.ofI (ll.length : Int)]).length ≤ 786 := by rw [List.length_append, List.length_singleton]; omega
            generalize hQ : Z ++ [Mio.ofI (ll.length : Int)] = Q2 at *
            have HQ := hide hQ
            clear hQ
            go_wp2_with fail
            refine (rI_any ll.length wr HI.out.2.2.1).mono ?_
            rintro e w1 ⟨rfl, hb1⟩
            have HB1 := hide (below_after HB.out hb1)
            have HX1 := hide (HX.out.below hb1 HX.out.lt)
            clear hb1 c3 c4 HB HX
            go_wp2_with fail
            clear hcat
            have hP := hQl
            have HS3 := hide (show Q2 = (Q1 ++ pl.flatMap layPr) ++ [Mio.ofI (ll.length : Int)] by rw [← HPE.out]; exact HQ.out.symm)
            clear hQl HPE HQ hZl
            go_loopw [3, 8] (fun s i wr => LayR w #[.int .i64 seed, .float .f64 fin, .slice dA dl.length dc, .slice pA pl.length pc, .slice lA ll.length lc, .slice iA il.length ic] Q2 layLp2 ll s i wr) (fun _ i _ => ll.length - (intOf i).toNat)
            case atStart => exact ⟨0, Nat.zero_le _, rfl, by rw [List.take_zero, List.flatMap_nil, List.append_nil], HB1.out, HX1.out⟩
            case round =>
              obtain ⟨k, hk, rfl, rfl, hb, hX⟩ := hrel
              have HB := hide hb
              have HX := hide hX
              have hz := pre_len layLp2 10 6 786 ll Q2 hP (by omega) (fun x hx => layLp_len (HF6.out x hx)) k
              clear hb hX HB1 HX1
              by_cases hlt : k < ll.length
              · have hx := List.getElem?_eq_getElem hlt
                obtain ⟨a, rfl, h0, h1, hi, hs⟩ := (HLR.out.below LpAt.keeps HB.out) k _ hx
                have hxl := HF6.out _ (List.mem_of_getElem? hx)
                generalize ll[k] = x at *
                have HN := hide (pre_next layLp2 hx Q2)
                have c4 := HX.out.cell 4
                simp only [List.getElem?_toArray, List.getElem?_cons_zero, List.getElem?_cons_succ] at c4
                generalize Q2 ++ (ll.take k).flatMap layLp2 = Z at *
                clear hx
                obtain ⟨xp, ⟨xA, xc, xl⟩⟩ := x
                simp only [Sl.val] at h0 h1 hxl hi hs
                have HSS := hide hs.1
                have hxn : I64 (xl.length : Int) := by unfold I64; omega
                have HW := hide (show (Z ++ [Mio.ofI xp, Mio.ofI (xl.length : Int)]) ++ xl.map Mio.ofI = Q2 ++ (ll.take (k + 1)).flatMap layLp2 by rw [← HN.out, List.append_assoc, map_flat]; rfl)
                have HA1 := hide (show [xp, (xl.length : Int)].map Mio.ofI = [Mio.ofI xp, Mio.ofI (xl.length : Int)] from rfl)
                have hA1 : [Mio.ofI xp, Mio.ofI (xl.length : Int)].length ≤ 2 := Nat.le_refl _
                have hA2 : (xl.map Mio.ofI).length ≤ 8 := by rw [List.length_map]; exact hxl
                generalize [Mio.ofI xp, Mio.ofI (xl.length : Int)] = A1 at *
                obtain ⟨A2, hQ2⟩ : ∃ A2, xl.map Mio.ofI = A2 := ⟨_, rfl⟩
                rw [hQ2] at hA2
                have HA2 := hide hQ2
                have HW := hide (HA2.out ▸ HW.out)
                have hcat1 := run_catW Z A1 (by omega)
                have hVl : (Z ++ A1).length ≤ 850 := by rw [List.length_append]; omega
                generalize Z ++ A1 = V at *
                have hcat2 := run_catW V A2 (by omega)
                have HY := hide (congrArg strW HW.out)
                generalize V ++ A2 = Y at *
                have kI : (k : Int) < (ll.length : Int) := by omega
                have kJ : (0 : Int) ≤ (k : Int) := by omega
                have HC := hide (show ∀ X, Below wr.heap.size wr X → (X.cell? ⟨w.heap.size, 4, none⟩ = some (.slice (some a) ll.length lc) ∧ X.cell? (a.add (k * 2)) = some (.int .i64 xp) ∧ X.cell? ⟨(a.add (k * 2)).block, (a.add (k * 2)).off + 1, none⟩ = some (.slice xA xl.length xc)) from fun X hb => ⟨keepc hb c4, keepc hb h0, keepc hb h1⟩)
                clear hs hQ2 HN HW hVl hz hA1 hA2
                go_wp2_with fail
                clear c4 h0 h1
                refine wp_region_tree (fun X => X.cell? ⟨w.heap.size, 4, none⟩ = some (.slice (some a) ll.length lc) ∧ X.cell? (a.add (k * 2)) = some (.int .i64 xp) ∧ X.cell? ⟨(a.add (k * 2)).block, (a.add (k * 2)).off + 1, none⟩ = some (.slice xA xl.length xc)) [0, 1, 2, 3, 4, 5, 6, 7, 8, 9, 10, 11, 12, 13, 17, 18, 19, 20, 21, 22] 24 6 (by kernel_rfl) (by kernel_rfl) (HC.out _ (Below.refl _ _).drew) ?_
                simp only [List.filterMap_cons, List.filterMap_nil, List.getElem?_cons_succ, List.getElem?_cons_zero]
                repeat (refine head_step ?_ (by rfl) ?_ (fun _ _ _ h => h) ?_; rotate_left; (intro w' hs; obtain ⟨z0, z1, z2⟩ := hs; go_simp; (try with_reducible rfl)); (try simp only [Act.put, List.setIfInBounds_toArray, List.set_cons_zero, List.set_cons_succ]))
                refine head_nil ?_
                refine tree_one 14 (by kernel_rfl) rfl ?_
                refine midc_step _ (wr.drew.alloc (.cells #[.int .i64 xp, .int .i64 xl.length] 3)) (by rfl) (by go_simp; try (first | rfl | exact ⟨rfl, rfl⟩)) (HC.out _ ((Below.refl _ _).drew.alloc (Nat.le_refl _) _)) ?_
                simp only [Act.put, List.setIfInBounds_toArray, List.set_cons_zero, List.set_cons_succ]
                refine midc_nil ?_
                refine tree_one 15 (by kernel_rfl) rfl ?_
                refine midc_call (g := 60) (args := #[.slice (some ⟨wr.heap.size, 0, none⟩) 2 2]) (w' := wr.drew.alloc (.cells #[.int .i64 xp, .int .i64 xl.length] 3)) (by rfl) (by go_simp) ((rints_new 3 [xp, (xl.length : Int)] wr.drew wr.heap.size (by simp) (two_in hi hxn) 2 rfl (by decide) #[.int .i64 xp, .int .i64 xl.length] rfl).mono ?_)
                rintro e wA ⟨rfl, hbA⟩
                rw [HA1.out]
                have hbA := below_after (Below.refl wr.heap.size wr).drew hbA
                refine ⟨_, rfl, HC.out _ hbA, ?_⟩
                simp only [Act.put, List.setIfInBounds_toArray, List.set_cons_zero, List.set_cons_succ]
                refine midc_nil ?_
                refine tree_two 16 23 (by kernel_rfl) rfl rfl ?_ ?_
                · refine midc_step (.string (strW V)) (wA) (by rfl) (by go_simp; try (first | rfl | exact ⟨rfl, rfl⟩)) (HC.out _ hbA) ?_
                  simp only [Act.put, List.setIfInBounds_toArray, List.set_cons_zero, List.set_cons_succ]
                  refine midc_nil ?_
                  refine tree_one 23 (by kernel_rfl) rfl ?_
                  have hrow := HSS.out.below IntAt.keeps hbA
                  refine midc_call (g := 60) (args := #[.slice xA xl.length xc]) (w' := wA) (by rfl) (by go_simp) ((rints_put xA xl.length xc xl wA hrow rfl (by omega)).mono ?_)
                  rintro e wB ⟨rfl, hbB⟩
                  rw [HA2.out]
                  have hbB := below_after hbA hbB
                  clear hrow
                  refine ⟨_, rfl, HC.out _ hbB, ?_⟩
                  simp only [Act.put, List.setIfInBounds_toArray, List.set_cons_zero, List.set_cons_succ]
                  refine midc_nil ?_
                  refine tree_list _ 24 (by decide) rfl (by kernel_rfl) rfl ?_
                  have hj := And.intro (below_after HB.out hbB) (HX.out.below hbB HX.out.lt)
                  have HJ := hide hj
                  clear hbA hbB hj HC
                  go_wp2_with fail
                  go_roundw
                  case rel => exact ⟨k + 1, by omega, by go_num, congrArg Value.string HY.out, HJ.out.1, HJ.out.2⟩
                  case measure => simp [intOf]; omega
                · have hrow := HSS.out.below IntAt.keeps hbA
                  refine midc_call (g := 60) (args := #[.slice xA xl.length xc]) (w' := wA) (by rfl) (by go_simp) ((rints_put xA xl.length xc xl wA hrow rfl (by omega)).mono ?_)
                  rintro e wB ⟨rfl, hbB⟩
                  rw [HA2.out]
                  have hbB := below_after hbA hbB
                  clear hrow
                  refine ⟨_, rfl, HC.out _ hbB, ?_⟩
                  simp only [Act.put, List.setIfInBounds_toArray, List.set_cons_zero, List.set_cons_succ]
                  refine midc_nil ?_
                  refine tree_one 16 (by kernel_rfl) rfl ?_
                  refine midc_step (.string (strW V)) (wB) (by rfl) (by go_simp; try (first | rfl | exact ⟨rfl, rfl⟩)) (HC.out _ hbB) ?_
                  simp only [Act.put, List.setIfInBounds_toArray, List.set_cons_zero, List.set_cons_succ]
                  refine midc_nil ?_
                  refine tree_list _ 24 (by decide) rfl (by kernel_rfl) rfl ?_
                  have hj := And.intro (below_after HB.out hbB) (HX.out.below hbB HX.out.lt)
                  have HJ := hide hj
                  clear hbA hbB hj HC
                  go_wp2_with fail
                  go_roundw
                  case rel => exact ⟨k + 1, by omega, by go_num, congrArg Value.string HY.out, HJ.out.1, HJ.out.2⟩
                  case measure => simp [intOf]; omega
              · obtain rfl : k = ll.length := by omega
                have HPE := hide (pre_end layLp2 ll Q2)
                have c4 := HX.out.cell 4
                have c5 := HX.out.cell 5
                simp only [List.getElem?_toArray, List.getElem?_cons_zero, List.getElem?_cons_succ] at c4 c5
                generalize hZ : Q2 ++ (ll.take ll.length).flatMap layLp2 = Z at *
                have hZl : Z.length ≤ 847 := by omega
                clear hZ hz hP
                have hcat := run_catW Z [Mio.ofI (il.length : Int)] (by rw [List.length_singleton]; omega)
                have hQl : (Z ++ [Mio.ofI (il.length : Int)]).length ≤ 848 := by rw [List.length_append, List.length_singleton]; omega
                generalize hQ : Z ++ [Mio.ofI (il.length : Int)] = Q3 at *
                have HQ := hide hQ
                clear hQ
                go_wp2_with fail
                refine (rI_any il.length wr HI.out.2.2.2).mono ?_
                rintro e w1 ⟨rfl, hb1⟩
                have HB1 := hide (below_after HB.out hb1)
                have HX1 := hide (HX.out.below hb1 HX.out.lt)
                clear hb1 c4 c5 HB HX
                go_wp2_with fail
                clear hcat
                have hP := hQl
                have HS4 := hide (show Q3 = (Q2 ++ ll.flatMap layLp2) ++ [Mio.ofI (il.length : Int)] by rw [← HPE.out]; exact HQ.out.symm)
                clear hQl HPE HQ hZl
                go_loopw [3, 9] (fun s i wr => LayR w #[.int .i64 seed, .float .f64 fin, .slice dA dl.length dc, .slice pA pl.length pc, .slice lA ll.length lc, .slice iA il.length ic] Q3 Mio.layIni il s i wr) (fun _ i _ => il.length - (intOf i).toNat)
                case atStart => exact ⟨0, Nat.zero_le _, rfl, by rw [List.take_zero, List.flatMap_nil, List.append_nil], HB1.out, HX1.out⟩
                case round =>
                  obtain ⟨k, hk, rfl, rfl, hb, hX⟩ := hrel
                  have HB := hide hb
                  have HX := hide hX
                  have hz := pre_len Mio.layIni 3 16 848 il Q3 hP (by omega) (fun _ _ => Nat.le_refl _) k
                  clear hb hX HB1 HX1
                  by_cases hlt : k < il.length
                  · have hx := List.getElem?_eq_getElem hlt
                    obtain ⟨a, rfl, h0, h1, h2, hi, hj1, hj2⟩ := (HIR.out.below InitAt.keeps HB.out) k _ hx
                    generalize il[k] = x at *
                    have HN := hide (pre_next Mio.layIni hx Q3)
                    have c5 := HX.out.cell 5
                    simp only [List.getElem?_toArray, List.getElem?_cons_zero, List.getElem?_cons_succ] at c5
                    generalize Q3 ++ (il.take k).flatMap Mio.layIni = Z at *
                    clear hx
                    obtain ⟨x1, x2, x3⟩ := x
                    simp only at h0 h1 h2 hi hj1 hj2
                    have HW := hide (show (Z ++ [x1]) ++ [Mio.ofI x2, Mio.ofI x3] = Q3 ++ (il.take (k + 1)).flatMap Mio.layIni by rw [← HN.out, List.append_assoc]; rfl)
                    have HA1 := hide (show [x2, x3].map Mio.ofI = [Mio.ofI x2, Mio.ofI x3] from rfl)
                    have hA1 : [Mio.ofI x2, Mio.ofI x3].length ≤ 2 := Nat.le_refl _
                    generalize [Mio.ofI x2, Mio.ofI x3] = A1 at *
                    have hcat1 := run_catW Z [x1] (by rw [List.length_singleton]; omega)
                    have hVl : (Z ++ [x1]).length ≤ 900 := by rw [List.length_append, List.length_singleton]; omega
                    generalize Z ++ [x1] = V at *
                    have hcat2 := run_catW V A1 (by omega)
                    have HY := hide (congrArg strW HW.out)
                    generalize V ++ A1 = Y at *
                    have kI : (k : Int) < (il.length : Int) := by omega
                    have kJ : (0 : Int) ≤ (k : Int) := by omega
                    have HC := hide (show ∀ X, Below wr.heap.size wr X → (X.cell? ⟨w.heap.size, 5, none⟩ = some (.slice (some a) il.length ic) ∧ X.cell? (a.add (k * 3)) = some (.float .f64 x1) ∧ X.cell? ⟨(a.add (k * 3)).block, (a.add (k * 3)).off + 1, none⟩ = some (.int .i64 x2) ∧ X.cell? ⟨(a.add (k * 3)).block, (a.add (k * 3)).off + 2, none⟩ = some (.int .i64 x3)) from fun X hb => ⟨keepc hb c5, keepc hb h0, keepc hb h1, keepc hb h2⟩)
                    clear HN HW hVl hz hA1
                    go_wp2_with fail
                    clear c5 h0 h1 h2
                    refine wp_region_tree (fun X => X.cell? ⟨w.heap.size, 5, none⟩ = some (.slice (some a) il.length ic) ∧ X.cell? (a.add (k * 3)) = some (.float .f64 x1) ∧ X.cell? ⟨(a.add (k * 3)).block, (a.add (k * 3)).off + 1, none⟩ = some (.int .i64 x2) ∧ X.cell? ⟨(a.add (k * 3)).block, (a.add (k * 3)).off + 2, none⟩ = some (.int .i64 x3)) [0, 1, 2, 3, 4, 5, 6, 9, 10, 11, 12, 13, 14, 15, 16, 17, 18, 19, 20] 23 6 (by kernel_rfl) (by kernel_rfl) (HC.out _ (Below.refl _ _).drew) ?_
                    simp only [List.filterMap_cons, List.filterMap_nil, List.getElem?_cons_succ, List.getElem?_cons_zero]
                    repeat (refine head_step ?_ (by rfl) ?_ (fun _ _ _ h => h) ?_; rotate_left; (intro w' hs; obtain ⟨z0, z1, z2, z3⟩ := hs; go_simp; (try with_reducible rfl)); (try simp only [Act.put, List.setIfInBounds_toArray, List.set_cons_zero, List.set_cons_succ]))
                    refine head_nil ?_
                    refine tree_two 7 21 (by kernel_rfl) rfl rfl ?_ ?_
                    · refine midc_call (g := 59) (args := #[.float .f64 x1]) (w' := wr.drew) (by rfl) (by go_simp) ((bits_any x1 (wr.drew) hi).mono ?_)
                      rintro e wA ⟨rfl, hbA⟩
                      have hbA := below_after (Below.refl wr.heap.size wr).drew hbA
                      refine ⟨_, rfl, HC.out _ hbA, ?_⟩
                      simp only [Act.put, List.setIfInBounds_toArray, List.set_cons_zero, List.set_cons_succ]
                      refine midc_nil ?_
                      refine tree_two 8 21 (by kernel_rfl) rfl rfl ?_ ?_
                      · refine midc_step (.string (strW V)) (wA) (by rfl) (by go_simp; try (first | rfl | exact ⟨rfl, rfl⟩)) (HC.out _ hbA) ?_
                        simp only [Act.put, List.setIfInBounds_toArray, List.set_cons_zero, List.set_cons_succ]
                        refine midc_nil ?_
                        refine tree_one 21 (by kernel_rfl) rfl ?_
                        refine midc_step _ (wA.alloc (.cells #[.int .i64 x2, .int .i64 x3] 3)) (by rfl) (by go_simp; try (first | rfl | exact ⟨rfl, rfl⟩)) (HC.out _ (hbA.alloc hbA.size _)) ?_
                        simp only [Act.put, List.setIfInBounds_toArray, List.set_cons_zero, List.set_cons_succ]
                        refine midc_nil ?_
                        refine tree_one 22 (by kernel_rfl) rfl ?_
                        refine midc_call (g := 60) (args := #[.slice (some ⟨wA.heap.size, 0, none⟩) 2 2]) (w' := wA.alloc (.cells #[.int .i64 x2, .int .i64 x3] 3)) (by rfl) (by go_simp) ((rints_new 3 [x2, x3] wA wA.heap.size rfl (two_in hj1 hj2) 2 rfl (by decide) #[.int .i64 x2, .int .i64 x3] rfl).mono ?_)
                        rintro e wB ⟨rfl, hbB⟩
                        rw [HA1.out]
                        have hbB := below_after hbA hbB
                        refine ⟨_, rfl, HC.out _ hbB, ?_⟩
                        simp only [Act.put, List.setIfInBounds_toArray, List.set_cons_zero, List.set_cons_succ]
                        refine midc_nil ?_
                        refine tree_list _ 23 (by decide) rfl (by kernel_rfl) rfl ?_
                        have hj := And.intro (below_after HB.out hbB) (HX.out.below hbB HX.out.lt)
                        have HJ := hide hj
                        clear hj HC
                        go_wp2_with fail
                        go_roundw
                        case rel => exact ⟨k + 1, by omega, by go_num, congrArg Value.string HY.out, HJ.out.1, HJ.out.2⟩
                        case measure => simp [intOf]; omega
                      · refine midc_step _ (wA.alloc (.cells #[.int .i64 x2, .int .i64 x3] 3)) (by rfl) (by go_simp; try (first | rfl | exact ⟨rfl, rfl⟩)) (HC.out _ (hbA.alloc hbA.size _)) ?_
                        simp only [Act.put, List.setIfInBounds_toArray, List.set_cons_zero, List.set_cons_succ]
                        refine midc_nil ?_
                        refine tree_two 8 22 (by kernel_rfl) rfl rfl ?_ ?_
                        · refine midc_step (.string (strW V)) (wA.alloc (.cells #[.int .i64 x2, .int .i64 x3] 3)) (by rfl) (by go_simp; try (first | rfl | exact ⟨rfl, rfl⟩)) (HC.out _ (hbA.alloc hbA.size _)) ?_
                          simp only [Act.put, List.setIfInBounds_toArray, List.set_cons_zero, List.set_cons_succ]
                          refine midc_nil ?_
                          refine tree_one 22 (by kernel_rfl) rfl ?_
                          refine midc_call (g := 60) (args := #[.slice (some ⟨wA.heap.size, 0, none⟩) 2 2]) (w' := wA.alloc (.cells #[.int .i64 x2, .int .i64 x3] 3)) (by rfl) (by go_simp) ((rints_new 3 [x2, x3] wA wA.heap.size rfl (two_in hj1 hj2) 2 rfl (by decide) #[.int .i64 x2, .int .i64 x3] rfl).mono ?_)
                          rintro e wB ⟨rfl, hbB⟩
                          rw [HA1.out]
                          have hbB := below_after hbA hbB
                          refine ⟨_, rfl, HC.out _ hbB, ?_⟩
                          simp only [Act.put, List.setIfInBounds_toArray, List.set_cons_zero, List.set_cons_succ]
                          refine midc_nil ?_
                          refine tree_list _ 23 (by decide) rfl (by kernel_rfl) rfl ?_
                          have hj := And.intro (below_after HB.out hbB) (HX.out.below hbB HX.out.lt)
                          have HJ := hide hj
                          clear hj HC
                          go_wp2_with fail
                          go_roundw
                          case rel => exact ⟨k + 1, by omega, by go_num, congrArg Value.string HY.out, HJ.out.1, HJ.out.2⟩
                          case measure => simp [intOf]; omega
                        · refine midc_call (g := 60) (args := #[.slice (some ⟨wA.heap.size, 0, none⟩) 2 2]) (w' := wA.alloc (.cells #[.int .i64 x2, .int .i64 x3] 3)) (by rfl) (by go_simp) ((rints_new 3 [x2, x3] wA wA.heap.size rfl (two_in hj1 hj2) 2 rfl (by decide) #[.int .i64 x2, .int .i64 x3] rfl).mono ?_)
                          rintro e wB ⟨rfl, hbB⟩
                          rw [HA1.out]
                          have hbB := below_after hbA hbB
                          refine ⟨_, rfl, HC.out _ hbB, ?_⟩
                          simp only [Act.put, List.setIfInBounds_toArray, List.set_cons_zero, List.set_cons_succ]
                          refine midc_nil ?_
                          refine tree_one 8 (by kernel_rfl) rfl ?_
                          refine midc_step (.string (strW V)) (wB) (by rfl) (by go_simp; try (first | rfl | exact ⟨rfl, rfl⟩)) (HC.out _ hbB) ?_
                          simp only [Act.put, List.setIfInBounds_toArray, List.set_cons_zero, List.set_cons_succ]
                          refine midc_nil ?_
                          refine tree_list _ 23 (by decide) rfl (by kernel_rfl) rfl ?_
                          have hj := And.intro (below_after HB.out hbB) (HX.out.below hbB HX.out.lt)
                          have HJ := hide hj
                          clear hj HC
                          go_wp2_with fail
                          go_roundw
                          case rel => exact ⟨k + 1, by omega, by go_num, congrArg Value.string HY.out, HJ.out.1, HJ.out.2⟩
                          case measure => simp [intOf]; omega
                    · refine midc_step _ (wr.drew.alloc (.cells #[.int .i64 x2, .int .i64 x3] 3)) (by rfl) (by go_simp; try (first | rfl | exact ⟨rfl, rfl⟩)) (HC.out _ ((Below.refl _ _).drew.alloc (Nat.le_refl _) _)) ?_
                      simp only [Act.put, List.setIfInBounds_toArray, List.set_cons_zero, List.set_cons_succ]
                      refine midc_nil ?_
                      have hrw0 := Blk.new wr.drew 3 #[.int .i64 x2, .int .i64 x3]
                      refine tree_one 7 (by kernel_rfl) rfl ?_
                      refine midc_call (g := 59) (args := #[.float .f64 x1]) (w' := wr.drew.alloc (.cells #[.int .i64 x2, .int .i64 x3] 3)) (by rfl) (by go_simp) ((bits_any x1 (wr.drew.alloc (.cells #[.int .i64 x2, .int .i64 x3] 3)) hi).mono ?_)
                      rintro e wA ⟨rfl, hbA⟩
                      have hrw : Blk wA wr.heap.size 3 #[.int .i64 x2, .int .i64 x3] := hrw0.below hbA hrw0.lt
                      have hbA := below_after ((Below.refl wr.heap.size wr).drew.alloc (Nat.le_refl _) _) hbA
                      refine ⟨_, rfl, HC.out _ hbA, ?_⟩
                      simp only [Act.put, List.setIfInBounds_toArray, List.set_cons_zero, List.set_cons_succ]
                      refine midc_nil ?_
                      refine tree_two 8 22 (by kernel_rfl) rfl rfl ?_ ?_
                      · refine midc_step (.string (strW V)) (wA) (by rfl) (by go_simp; try (first | rfl | exact ⟨rfl, rfl⟩)) (HC.out _ hbA) ?_
                        simp only [Act.put, List.setIfInBounds_toArray, List.set_cons_zero, List.set_cons_succ]
                        refine midc_nil ?_
                        refine tree_one 22 (by kernel_rfl) rfl ?_
                        refine midc_call (g := 60) (args := #[.slice (some ⟨wr.heap.size, 0, none⟩) 2 2]) (w' := wA) (by rfl) (by go_simp) ((rints_put _ 2 2 [x2, x3] wA (row_at hrw _ (two_in hj1 hj2) rfl) rfl (by decide)).mono ?_)
                        rintro e wB ⟨rfl, hbB⟩
                        rw [HA1.out]
                        have hbB := below_after hbA hbB
                        refine ⟨_, rfl, HC.out _ hbB, ?_⟩
                        simp only [Act.put, List.setIfInBounds_toArray, List.set_cons_zero, List.set_cons_succ]
                        refine midc_nil ?_
                        refine tree_list _ 23 (by decide) rfl (by kernel_rfl) rfl ?_
                        have hj := And.intro (below_after HB.out hbB) (HX.out.below hbB HX.out.lt)
                        have HJ := hide hj
                        clear hj HC
                        go_wp2_with fail
                        go_roundw
                        case rel => exact ⟨k + 1, by omega, by go_num, congrArg Value.string HY.out, HJ.out.1, HJ.out.2⟩
                        case measure => simp [intOf]; omega
                      · refine midc_call (g := 60) (args := #[.slice (some ⟨wr.heap.size, 0, none⟩) 2 2]) (w' := wA) (by rfl) (by go_simp) ((rints_put _ 2 2 [x2, x3] wA (row_at hrw _ (two_in hj1 hj2) rfl) rfl (by decide)).mono ?_)
                        rintro e wB ⟨rfl, hbB⟩
                        rw [HA1.out]
                        have hbB := below_after hbA hbB
                        refine ⟨_, rfl, HC.out _ hbB, ?_⟩
                        simp only [Act.put, List.setIfInBounds_toArray, List.set_cons_zero, List.set_cons_succ]
                        refine midc_nil ?_
                        refine tree_one 8 (by kernel_rfl) rfl ?_
                        refine midc_step (.string (strW V)) (wB) (by rfl) (by go_simp; try (first | rfl | exact ⟨rfl, rfl⟩)) (HC.out _ hbB) ?_
                        simp only [Act.put, List.setIfInBounds_toArray, List.set_cons_zero, List.set_cons_succ]
                        refine midc_nil ?_
                        refine tree_list _ 23 (by decide) rfl (by kernel_rfl) rfl ?_
                        have hj := And.intro (below_after HB.out hbB) (HX.out.below hbB HX.out.lt)
                        have HJ := hide hj
                        clear hj HC
                        go_wp2_with fail
                        go_roundw
                        case rel => exact ⟨k + 1, by omega, by go_num, congrArg Value.string HY.out, HJ.out.1, HJ.out.2⟩
                        case measure => simp [intOf]; omega
                  · obtain rfl : k = il.length := by omega
                    have c5 := HX.out.cell 5
                    simp only [List.getElem?_toArray, List.getElem?_cons_zero, List.getElem?_cons_succ] at c5
                    have HR := hide (show strW (Q3 ++ (il.take il.length).flatMap Mio.layIni) = R by rw [pre_end, HS4.out, HS3.out, HS2.out]; exact HE.out)
                    generalize Q3 ++ (il.take il.length).flatMap Mio.layIni = Z at *
                    go_wp2_with fail
                    go_ret
                    exact ⟨ret_string HR.out, HB.out⟩
end Go.Proofs.Ytegegljpmelomaa
