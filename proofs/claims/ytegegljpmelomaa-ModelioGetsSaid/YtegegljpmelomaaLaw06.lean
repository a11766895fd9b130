/- What must come at any rate, walked; and what models and their bytes have to do with one another. No condition. -/
import Derived.Test.YtegegljpmelomaaMioH
import Derived.Test.YtegegljpmelomaaMioP
import Derived.Test.YtegegljpmelomaaRMioP
import Derived.Test.YtegegljpmelomaaLight06
import Derived.Test.YtegegljpmelomaaRSame2
set_option linter.unusedVariables false
set_option linter.unusedSimpArgs false
set_option maxRecDepth 20000
namespace Go.Proofs.Ytegegljpmelomaa
open Go.RowKit Go.Deep
attribute [local go_sem] run_store_float

theorem con_of_mod {c m : Mdl} (h : modOf c = modOf m) : SameCon c m := by
  unfold modOf at h
  injection h with h1 h2 h3 h4 h5 h6
  exact ⟨h1, h2, h3, h4, h5, h6⟩
structure ModFit (m : Mdl) : Prop where
  ok : Mio.ModOk (modOf m)
  fin : Mio.okW (modOf m).fin
  dl : ∀ d ∈ (modOf m).dl, Mio.okW d
  il : ∀ x ∈ (modOf m).il, Mio.okW x.1
theorem mod_fit {m : Mdl} {w : World} (h : m.At w) (hf : Fits m) : ModFit m := by
  obtain ⟨h1, h2, h3, h4, h5, h6⟩ := h
  obtain ⟨f1, f2, f3, f4, f5, f6⟩ := hf
  refine ⟨⟨h1, ⟨Nat.le_trans f1 (by decide), fun _ _ => trivial⟩, ⟨by show (m.pl.L.map (·.L)).length ≤ 48; rw [List.length_map]; omega, fun p hp => ?_⟩, ⟨by show (m.ll.L.map fun x => (x.1, x.2.L)).length ≤ 48; rw [List.length_map]; omega, fun x hx => ?_⟩, ⟨Nat.le_trans f6 (by decide), fun x hx => ?_⟩⟩, h2, fun d hd => ?_, fun x hx => ?_⟩
  · obtain ⟨q, hq, rfl⟩ := List.mem_map.1 hp
    refine ⟨f3 q hq, fun x hx => ?_⟩
    obtain ⟨a, ha⟩ := h4.1.each hq
    obtain ⟨b, hb⟩ := ha.2.1.each hx
    exact hb.2.2.2.2
  · obtain ⟨q, hq, rfl⟩ := List.mem_map.1 hx
    obtain ⟨a, ha⟩ := h5.1.each hq
    refine ⟨ha.2.2.1, Nat.le_trans (f5 q hq) (by decide), fun y hy => ?_⟩
    obtain ⟨b, hb⟩ := ha.2.2.2.1.each hy
    exact hb.2
  · obtain ⟨a, ha⟩ := h6.1.each hx
    exact ha.2.2.2.2
  · obtain ⟨a, ha⟩ := h3.1.each hd
    exact ha.2
  · obtain ⟨a, ha⟩ := h6.1.each hx
    exact ha.2.2.2.1
theorem put_got {m : Mdl} {w : World} (h : m.At w) (hc : chkB m = true) : getE (putS (modOf m)) = 0 ∧ getM (putS (modOf m)) = modOf m := by
  have hf := mod_fit h (chk_fits hc)
  exact put_get hf.ok hf.fin hf.dl hf.il (by rw [← chk_mod]; exact hc)
theorem put_size {m : Mdl} (hc : chkB m = true) : (putS (modOf m)).size ≤ 8000 := by
  have h := (chk_fits hc).sizes
  rw [← put_bytes, bs_size]
  simp only [List.length_append, wsB_len, List.length_map, List.length_singleton, List.length_nil, Mio.layF]
  have h1 := h.dl
  have h2 := h.pl
  have h3 := h.ll
  have h4 := h.il
  simp only [wsB_len] at h1 h2 h3 h4
  omega
/-! The model that must be right at any rate. -/
def aw6 (g : Nat) : Mdl := ⟨5, 4621819117588971520, ⟨some ⟨g, 0, none⟩, 1, [4607182418800017408]⟩, ⟨some ⟨g + 1 + 1, 0, none⟩, 1, [⟨some ⟨g + 1, 0, none⟩, 1, [(0, 0, 0, 0)]⟩]⟩, ⟨some ⟨g + 1 + 1 + 1 + 1, 0, none⟩, 1, [(0, ⟨some ⟨g + 1 + 1 + 1, 0, none⟩, 1, [7]⟩)]⟩, ⟨none, 0, []⟩⟩
theorem aw6_at {g : Nat} {w : World} (h0 : Blk w g 22 #[.float .f64 4607182418800017408]) (h1 : Blk w (g + 1) 34 #[.int .i64 0, .int .i64 0, .int .i64 0, .int .i64 0]) (h2 : Blk w (g + 1 + 1) 38 #[.slice (some ⟨g + 1, 0, none⟩) 1 1])
    (h3 : Blk w (g + 1 + 1 + 1) 3 #[.int .i64 7]) (h4 : Blk w (g + 1 + 1 + 1 + 1) 41 #[.int .i64 0, .slice (some ⟨g + 1 + 1 + 1, 0, none⟩) 1 1]) : (aw6 g).At w := by
  have i0 : I64 0 := by decide
  have i5 : I64 5 := by decide
  have i7 : I64 7 := by decide
  have n1 : 1 ≤ 9223372036854775807 := by decide
  exact ⟨i5, show 4621819117588971520 < 18446744073709551616 by decide, ⟨rowD_one ⟨h0.cell 0, show 4607182418800017408 < 18446744073709551616 by decide⟩, Nat.le_refl _, n1⟩, ⟨rowD_one ⟨h2.cell 0, ⟨rowD_one ⟨h1.cell 0, h1.cell 1, h1.cell 2, h1.cell 3, i0, i0, i0, i0⟩, Nat.le_refl _, n1⟩⟩, Nat.le_refl _, n1⟩,
    ⟨rowD_one ⟨h4.cell 0, h4.cell 1, i0, ⟨rowD_one ⟨h3.cell 0, i7⟩, Nat.le_refl _, n1⟩⟩, Nat.le_refl _, n1⟩, ⟨rowD_nil, Nat.le_refl _, Nat.zero_le _⟩⟩
theorem aw6_good (g : Nat) : chkB (aw6 g) = true := by
  show (true && !decide (isNan 4621819117588971520) && [4607182418800017408].all posB && true && true && true) = true
  decide
def aw6S : ByteArray := putS ⟨5, 4621819117588971520, [4607182418800017408], [[(0, 0, 0, 0)]], [(0, [7])], []⟩
theorem aw6_put (g : Nat) : putS (modOf (aw6 g)) = aw6S := rfl
theorem aw6_size : aw6S.size = 120 := by
  unfold aw6S putS
  rw [strW_size]
  rfl
theorem aw6_head : aw6S.extract 0 8 = strW [Mio.ofI 5] := by
  have e : aw6S = strW [Mio.ofI 5] ++ strW (Mio.layM ⟨5, 4621819117588971520, [4607182418800017408], [[(0, 0, 0, 0)]], [(0, [7])], []⟩).tail := by
    rw [← strW_app]
    rfl
  have hz : (strW [Mio.ofI 5]).size = 8 := by rw [strW_size]; rfl
  have h2 : (strW [Mio.ofI 5]).extract 0 8 = strW [Mio.ofI 5] := by rw [show (strW [Mio.ofI 5]).extract 0 8 = (strW [Mio.ofI 5]).extract 0 (0 + 8) from rfl, ← bs_ext, List.drop_zero, List.take_of_length_le (by rw [dlen]; omega), bs_of]
  rw [e, ByteArray.extract_append, hz]
  simp [hz, h2]
theorem run_head {P : Program} {t : TypeId} (ht : P.underlying t = some .string) (s : ByteArray) (k' : IntKind) (h : Int) (b : Nat) (hh : h = b) (h2 : b ≤ s.size) (w : World) :
    (Instr.slice t (.string s) none (some (.int k' h)) none).run P w = .ok (.string (s.extract 0 b)) w := by
  subst hh
  have e1 : (0 : Int) ≤ (b : Int) ∧ (b : Int) ≤ (s.size : Int) := by omega
  simp [Instr.slice, run_underlying ht, Instr.sliceBounds, Instr.sliceBound, asIntOf, e1, h2]
set_option maxHeartbeats 1000000 in
theorem awake06 (w : World) : Calls Try.prog 23 #[] w fun e w' => e = .returned (.bool true) ∧ Below w.heap.size w w' := by
  have hb := allocs_below [(#[.float .f64 4607182418800017408], 22), (#[.int .i64 0, .int .i64 0, .int .i64 0, .int .i64 0], 34), (#[.slice (some ⟨w.heap.size + 1, 0, none⟩) 1 1], 38), (#[.int .i64 7], 3), (#[.int .i64 0, .slice (some ⟨w.heap.size + 1 + 1 + 1, 0, none⟩) 1 1], 41), (#[.int .i64 5, .float .f64 4621819117588971520, .slice (some ⟨w.heap.size, 0, none⟩) 1 1, .slice (some ⟨w.heap.size + 1 + 1, 0, none⟩) 1 1, .slice (some ⟨w.heap.size + 1 + 1 + 1 + 1, 0, none⟩) 1 1, .slice none 0 0], 28)] w
  have hB := allocs_blk [(#[.float .f64 4607182418800017408], 22), (#[.int .i64 0, .int .i64 0, .int .i64 0, .int .i64 0], 34), (#[.slice (some ⟨w.heap.size + 1, 0, none⟩) 1 1], 38), (#[.int .i64 7], 3), (#[.int .i64 0, .slice (some ⟨w.heap.size + 1 + 1 + 1, 0, none⟩) 1 1], 41), (#[.int .i64 5, .float .f64 4621819117588971520, .slice (some ⟨w.heap.size, 0, none⟩) 1 1, .slice (some ⟨w.heap.size + 1 + 1, 0, none⟩) 1 1, .slice (some ⟨w.heap.size + 1 + 1 + 1 + 1, 0, none⟩) 1 1, .slice none 0 0], 28)] w
  have hz := allocs_size [(#[.float .f64 4607182418800017408], 22), (#[.int .i64 0, .int .i64 0, .int .i64 0, .int .i64 0], 34), (#[.slice (some ⟨w.heap.size + 1, 0, none⟩) 1 1], 38), (#[.int .i64 7], 3), (#[.int .i64 0, .slice (some ⟨w.heap.size + 1 + 1 + 1, 0, none⟩) 1 1], 41), (#[.int .i64 5, .float .f64 4621819117588971520, .slice (some ⟨w.heap.size, 0, none⟩) 1 1, .slice (some ⟨w.heap.size + 1 + 1, 0, none⟩) 1 1, .slice (some ⟨w.heap.size + 1 + 1 + 1 + 1, 0, none⟩) 1 1, .slice none 0 0], 28)] w
  have b0 : Blk _ w.heap.size 22 _ := hB 0 _ rfl
  have b1 := hB 1 _ rfl
  have b2 := hB 2 _ rfl
  have b3 := hB 3 _ rfl
  have b4 := hB 4 _ rfl
  have b5 : Blk _ (w.heap.size + 1 + 1 + 1 + 1 + 1) 28 _ := hB 5 _ rfl
  have hA : (aw6 w.heap.size).At _ := aw6_at b0 b1 b2 b3 b4
  have hput := put_any (aw6 w.heap.size) _ hA
  have hc := aw6_good w.heap.size
  have e1 : putR (aw6 w.heap.size) = aw6S := by unfold putR; rw [if_pos hc, aw6_put]
  have e2 : chkE (aw6 w.heap.size) = 0 := by unfold chkE; rw [if_pos hc]
  rw [e1, e2] at hput
  have hgo := put_got hA hc
  rw [aw6_put] at hgo
  have hget : ∀ W, Calls Try.prog 26 #[.string aw6S] W fun e w' => ∃ m : Mdl, e = .returned (.tuple #[m.val, .int .i64 0]) ∧ m.At w' ∧ modOf m = modOf (aw6 w.heap.size) ∧ Below W.heap.size W w' := fun W => by
    have := get_any aw6S W (by rw [aw6_size]; decide)
    unfold GotRd at this
    rw [hgo.1, hgo.2] at this
    exact this
  have hsz : decide ((8 : Int) < (aw6S.size : Int)) = true := by rw [aw6_size]; decide
  have hsl := fun W => run_head (P := Try.prog) Try.underlying9 aw6S .i64 8 8 rfl (by rw [aw6_size]; decide) W
  rw [aw6_head] at hsl
  generalize aw6S = S at *
  have hI5 := fun W => rI_any 5 W (by decide)
  generalize strW [Mio.ofI 5] = R5 at *
  have HA := hide hA
  have HB := hide hb
  have H5 := hide b5
  clear hb hB hz b0 b1 b2 b3 b4 b5 hA hc e1 e2 hgo
  go_enter Try.func23, Try.ntmps23
  go_wp2_with fail
  simp only [allocs, aw6, Mdl.val, Sl.val, List.length_singleton, List.length_nil] at hput HA HB H5
  generalize World.alloc _ (.cells #[.int .i64 5, .float .f64 4621819117588971520, .slice (some ⟨w.heap.size, 0, none⟩) 1 1, .slice (some ⟨w.heap.size + 1 + 1, 0, none⟩) 1 1, .slice (some ⟨w.heap.size + 1 + 1 + 1 + 1, 0, none⟩) 1 1, .slice none 0 0] 28) = W6 at *
  refine hput.mono ?_
  rintro e w1 ⟨rfl, hb1⟩
  have HA1 := hide (HA.out.below hb1)
  have HB1 := hide (below_after HB.out hb1)
  have H51 := hide (H5.out.below hb1 H5.out.lt)
  clear hb1 hput HA HB H5
  go_wp2_with fail
  refine (hget _).mono ?_
  rintro e w2 ⟨⟨xs, xf, ⟨xdA, xdc, xdl⟩, ⟨xpA, xpc, xpl⟩, ⟨xlA, xlc, xll⟩, ⟨xiA, xic, xil⟩⟩, rfl, hxa, hxm, hb2⟩
  have HA2 := hide (HA1.out.below hb2)
  have HB2 := hide (below_after HB1.out hb2)
  have H52 := hide (H51.out.below hb2 H51.out.lt)
  have HXA := hide hxa
  have HXM := hide (sameB_con (con_of_mod hxm))
  clear hb2 hget HA1 HB1 H51 hxa hxm
  simp only [Mdl.val, Sl.val]
  go_wp2_with fail
  have hbx := ((Below.refl w2.heap.size w2).alloc (Nat.le_refl _) (.cells #[.int .i64 xs, .float .f64 xf, .slice xdA xdl.length xdc, .slice xpA xpl.length xpc, .slice xlA xll.length xlc, .slice xiA xil.length xic] 28)).drew
  have hT : TwoC w (w.heap.size + 1 + 1 + 1 + 1 + 1) w2.heap.size (aw6 w.heap.size) ⟨xs, xf, ⟨xdA, xdc, xdl⟩, ⟨xpA, xpc, xpl⟩, ⟨xlA, xlc, xll⟩, ⟨xiA, xic, xil⟩⟩ (World.drew (w2.alloc (.cells #[.int .i64 xs, .float .f64 xf, .slice xdA xdl.length xdc, .slice xpA xpl.length xpc, .slice xlA xll.length xlc, .slice xiA xil.length xic] 28))) :=
    ⟨below_after HB2.out hbx, H52.out.below hbx H52.out.lt, (Blk.new w2 _ _).drew, HA2.out.below hbx, HXA.out.below hbx⟩
  have hsm := fun W (h : Mdl.At W ⟨xs, xf, ⟨xdA, xdc, xdl⟩, ⟨xpA, xpc, xpl⟩, ⟨xlA, xlc, xll⟩, ⟨xiA, xic, xil⟩⟩) (h' : (aw6 w.heap.size).At W) => rsame_any _ _ W h h'
  simp only [HXM.out] at hsm
  obtain ⟨p, hO, h0, hne, hI⟩ := TwoC.hidden _ _ _ _ _ _ hT
  clear hT hbx
  simp only [aw6, Mdl.val, Sl.val, List.length_singleton, List.length_nil] at hsm
  have k0 := fun i => (hI i).x.cell 0
  have j0 := fun i => (hI i).y.cell 0
  have k1 := fun i => (hI i).x.cell 1
  have j1 := fun i => (hI i).y.cell 1
  have k2 := fun i => (hI i).x.cell 2
  have j2 := fun i => (hI i).y.cell 2
  have k3 := fun i => (hI i).x.cell 3
  have j3 := fun i => (hI i).y.cell 3
  have k4 := fun i => (hI i).x.cell 4
  have j4 := fun i => (hI i).y.cell 4
  have k5 := fun i => (hI i).x.cell 5
  have j5 := fun i => (hI i).y.cell 5
  have HI := hide hI
  have HP := hide hO
  have H0 := hide h0
  clear hI hO h0
  simp only [aw6, Sl.val, List.length_singleton, List.length_nil, List.getElem?_toArray, List.getElem?_cons_zero, List.getElem?_cons_succ] at k0 k1 k2 k3 k4 k5 j0 j1 j2 j3 j4 j5
  refine wp_region_quietC (by kernel_rfl) (by kernel_rfl) H0.out ?_
  repeat (go_big_quiet_step (first
    | (go_at_call 45; exact Calls.quietC HP.out (hI5 _))
    | (go_at_call 20; exact Calls.quietC HP.out (hsm _ (HI.out _).a' (HI.out _).a))))
  refine wpQuiet_nil ?_
  intro _ hw'
  obtain ⟨i, rfl⟩ := hw'
  go_wp2
  go_ret
  exact ⟨rfl, (HI.out i).bel⟩
end Go.Proofs.Ytegegljpmelomaa
