/- Texts of this claim in one. No condition. -/
import Derived.Test.YtpfcmfannkbipaaJ17
import Derived.Deep.LoopGhost
section
set_option linter.unusedVariables false
set_option linter.unusedSimpArgs false
set_option maxRecDepth 20000
namespace Go.Proofs.Ytpfcmfannkbipaa
open Go.RowKit Go.Deep

theorem op_rest {op : Int} (h : isOp op) (h0 : op ≠ 0) (h1 : op ≠ 1) (h2 : op ≠ 2) (h9 : op ≠ 9) (h10 : op ≠ 10) (h11 : op ≠ 11) (h13 : op ≠ 13) (h14 : op ≠ 14) : op = 3 ∨ op = 4 ∨ op = 5 ∨ op = 6 ∨ op = 7 ∨ op = 8 ∨ op = 12 := by
  unfold isOp at h
  omega
/-- Behind an instruction: its fault, what it left. -/
def OneTo (w0 : World) (b gb : Nat) (F : Int) (s : VS) (f : Int) (e : Ending) (w' : World) : Prop := e = .returned (.int .i64 F) ∧ ∃ wv sv, RefS w0 w' b gb wv sv s f
theorem one_any (w0 w : World) (b gb : Nat) (wv sv : Value) (t : VS) (f : Int) (i : Inp) (len nw : Nat) (h : RefS w0 w b gb wv sv t f) (ht : t.Ok len nw i.lps) (W : Int) (hW : wordI i.seed i.me = W) (x : Ins4) (hi : okIns len x) (h0 : x.1 ≠ 0) :
    Calls Try.prog 118 #[.pointer (some ⟨b, 0, none⟩), .agg #[.int .i64 x.1, .int .i64 x.2.1, .int .i64 x.2.2.1, .int .i64 x.2.2.2], i.val] w (OneTo w0 b gb (vflt i.lps x t) (if vflt i.lps x t = 0 then vone W x t else t) f) := by
  obtain ⟨op, xa, xb, xc⟩ := x
  have ho : isOp op := okIns_op hi
  have h8 := ht.g8
  obtain ⟨⟨wA, wc, wL⟩, hwv, hwL, _, hwg⟩ := h.wrd.form
  simp only [Sl.val] at hwv hwL hwg
  subst hwL
  subst hwv
  obtain ⟨⟨sA, sc, sL⟩, hsv, hsL, _⟩ := h.snt.form
  simp only [Sl.val] at hsv hsL
  subst hsL
  subst hsv
  simp only at h0 ⊢
  by_cases h9 : op = 9
  · subst h9
    obtain ⟨x, rfl, hxl⟩ := nat_ofL (okIns_9 hi rfl)
    exact (one_jump w0 w b gb _ _ t f i h h8 x xb xc).mono fun e w' h => ⟨h.1, _, _, h.2⟩
  obtain ⟨x, rfl, hx8⟩ := nat_of (okIns_a hi h0 h9)
  by_cases h1 : op = 1
  · subst h1
    exact (one_set w0 w b gb _ _ t f i h h8 x hx8 xb xc).mono fun e w' h => ⟨h.1, _, _, h.2⟩
  by_cases h10 : op = 10
  · subst h10
    obtain ⟨y, rfl, hyl⟩ := nat_ofL (okIns_10 hi rfl)
    have e2 : vflt i.lps ((10, (x : Int), (y : Int), xc) : Ins4) t = 0 := rfl
    rw [if_pos e2, e2]
    by_cases hz : t.reg x = 0
    · have e1 : vone W ((10, (x : Int), (y : Int), xc) : Ins4) t = { t with at_ := y } := if_pos hz
      rw [e1]
      exact (one_zero w0 w b gb _ _ t f i h h8 x y hx8 xc hz).mono fun e w' h => ⟨h.1, _, _, h.2⟩
    · have e1 : vone W ((10, (x : Int), (y : Int), xc) : Ins4) t = t := if_neg hz
      rw [e1]
      exact (one_nonz w0 w b gb _ _ t f i h h8 x y hx8 xc hz).mono fun e w' h => ⟨h.1, _, _, h.2⟩
  obtain ⟨y, rfl, hy8⟩ := nat_of (okIns_b hi h0 h1 h9 h10)
  have hy := ht.reg y
  have hxr := ht.reg x
  by_cases h2 : op = 2
  · subst h2
    exact (one_move w0 w b gb _ _ t f i h h8 x y hx8 hy8 xc _ rfl).mono fun e w' h => ⟨h.1, _, _, h.2⟩
  by_cases h11 : op = 11
  · subst h11
    by_cases hr : t.reg y < 1
    · have e2 : vflt i.lps ((11, (x : Int), (y : Int), xc) : Ins4) t = 4 := if_pos hr
      rw [e2, if_neg (by decide)]
      exact (one_noroll w0 w b gb _ _ t f i h h8 x y hy8 xc _ rfl hr).mono fun e w' h => ⟨h.1, _, _, h.2⟩
    · have e2 : vflt i.lps ((11, (x : Int), (y : Int), xc) : Ins4) t = 0 := if_neg hr
      rw [if_pos e2, e2]
      exact (one_roll w0 w b gb _ _ t f i h h8 x y hx8 hy8 xc _ rfl (by omega) (by omega) W hW).mono fun e w' h => ⟨h.1, _, _, h.2⟩
  by_cases h13 : op = 13
  · subst h13
    by_cases hr : t.reg y < 0 ∨ (t.w.length : Int) ≤ t.reg y
    · have e2 : vflt i.lps ((13, (x : Int), (y : Int), xc) : Ins4) t = 3 := if_pos hr
      rw [e2, if_neg (by decide)]
      exact (one_noload w0 w b gb _ wc wA _ t f i h h8 x y hy8 xc _ rfl hr).mono fun e w' h => ⟨h.1, _, _, h.2⟩
    · have e2 : vflt i.lps ((13, (x : Int), (y : Int), xc) : Ins4) t = 0 := if_neg hr
      rw [if_pos e2, e2]
      obtain ⟨k, hk⟩ : ∃ k : Nat, t.reg y = k := ⟨(t.reg y).toNat, by omega⟩
      obtain ⟨g, hg, _⟩ := hwg (by omega)
      subst hg
      have e1 : vone W ((13, (x : Int), (y : Int), xc) : Ins4) t = t.put x (t.w.getD k 0) := by
        show t.put x (t.w.getD (t.reg y).toNat 0) = _
        rw [hk, Int.toNat_natCast]
      rw [e1]
      exact (one_load w0 w b gb g _ wc _ t f i h h8 x y k hx8 hy8 xc _ hk (by omega) rfl rfl).mono fun e w' h => ⟨h.1, _, _, h.2⟩
  by_cases h14 : op = 14
  · subst h14
    by_cases hr : t.reg x < 0 ∨ (t.w.length : Int) ≤ t.reg x
    · have e2 : vflt i.lps ((14, (x : Int), (y : Int), xc) : Ins4) t = 3 := if_pos hr
      rw [e2, if_neg (by decide)]
      exact (one_nostore w0 w b gb _ wc wA _ t f i h h8 x y hx8 xc _ rfl hr).mono fun e w' h => ⟨h.1, _, _, h.2⟩
    · have e2 : vflt i.lps ((14, (x : Int), (y : Int), xc) : Ins4) t = 0 := if_neg hr
      rw [if_pos e2, e2]
      obtain ⟨k, hk⟩ : ∃ k : Nat, t.reg x = k := ⟨(t.reg x).toNat, by omega⟩
      obtain ⟨g, hg, _⟩ := hwg (by omega)
      subst hg
      have e1 : vone W ((14, (x : Int), (y : Int), xc) : Ins4) t = { t with w := t.w.set k (t.reg y) } := by
        show { t with w := t.w.set (t.reg x).toNat (t.reg y) } = _
        rw [hk, Int.toNat_natCast]
      rw [e1]
      exact (one_store w0 w b gb g _ wc _ t f i h h8 x y k hx8 hy8 xc _ hk (by omega) rfl rfl).mono fun e w' h => ⟨h.1, _, _, h.2⟩
  have hrest : op = 3 ∨ op = 4 ∨ op = 5 ∨ op = 6 ∨ op = 7 ∨ op = 8 ∨ op = 12 := op_rest ho h0 h1 h2 h9 h10 h11 h13 h14
  obtain ⟨z, rfl, hz8⟩ := nat_of (okIns_c hi hrest)
  by_cases h12 : op = 12
  · subst h12
    by_cases hr : t.reg x < 0 ∨ i.lps ≤ t.reg x
    · have e2 : vflt i.lps ((12, (x : Int), (y : Int), (z : Int)) : Ins4) t = 6 := if_pos hr
      rw [e2, if_neg (by decide)]
      exact (one_nodst w0 w b gb x y z hx8 _ _ t f i h h8 _ rfl hr).mono fun e w' h => ⟨h.1, _, _, h.2⟩
    · by_cases h4 : 4 ≤ t.s.length
      · have e2 : vflt i.lps ((12, (x : Int), (y : Int), (z : Int)) : Ins4) t = 5 := (if_neg hr).trans (if_pos h4)
        rw [e2, if_neg (by decide)]
        exact (one_full w0 w b gb x y z _ sc sA hx8 _ t f i h h8 _ rfl (by omega) h4).mono fun e w' h => ⟨h.1, _, _, h.2⟩
      · have e2 : vflt i.lps ((12, (x : Int), (y : Int), (z : Int)) : Ins4) t = 0 := (if_neg hr).trans (if_neg h4)
        rw [if_pos e2, e2]
        exact (one_send w0 w b gb x y z _ sc sA hx8 _ t f i h h8 hy8 hz8 _ _ _ rfl rfl rfl (by omega) (by omega) (by omega)).mono fun e w' h => ⟨h.1, _, by obtain ⟨_, A1, c1, h2⟩ := h; exact ⟨_, h2⟩⟩
  · have h38 : 3 ≤ op ∧ op ≤ 8 := by omega
    have e2 : vflt i.lps ((op, (x : Int), (y : Int), (z : Int)) : Ins4) t = twoF op (t.reg z) := by
      unfold vflt
      simp only
      rw [if_neg (by omega), if_neg h11, if_neg h12, if_neg h13, if_neg h14]
    have e1 : vone W ((op, (x : Int), (y : Int), (z : Int)) : Ins4) t = t.put x (twoI op (t.reg y) (t.reg z)) := by
      unfold vone
      simp only
      rw [if_neg h1, if_neg h2, if_neg h9, if_neg h10, if_neg h11, if_neg h12, if_neg h13, if_neg h14]
    rw [e1, e2]
    by_cases hf : twoF op (t.reg z) = 0
    · rw [if_pos hf, hf]
      exact (one_comp w0 w b gb _ _ t f i h h8 op h38 x y z hx8 hy8 hz8 _ _ rfl rfl hy hf _ rfl).mono fun e w' h => ⟨h.1, _, _, h.2⟩
    · rw [if_neg hf]
      have hd : (op = 6 ∨ op = 7) ∧ t.reg z = 0 := by
        unfold twoF at hf
        by_cases hc : (op = 6 ∨ op = 7) ∧ t.reg z = 0
        · exact hc
        · rw [if_neg hc] at hf
          exact absurd rfl hf
      have e3 : twoF op (t.reg z) = 2 := if_pos hd
      rw [e3]
      exact (one_nodiv w0 w b gb _ _ t f i h h8 op hd.1 x y z hy8 hz8 _ rfl hd.2 hy).mono fun e w' h => ⟨h.1, _, _, h.2⟩

/-! The run begins. -/
def g0cells (i : Inp) : Array Value := #[.int .i64 i.pay, .int .i64 i.me, .int .i64 i.lps, .int .i64 i.wd.L.length, .int .i64 0, .int .i64 0, .int .i64 0, .int .i64 0]
structure OfS (w0 w : World) (ix gb : Nat) (i : Inp) (wv : Value) : Prop where
  bel : Below w0.heap.size w0 w
  box : Blk w ix 112 i.cells
  grow : Blk w gb 3 (g0cells i)
  wrd : OwnR 3 1 encInt w w0.heap.size wv i.wd.L
  wne : wv.ownBlock ≠ some gb
  log : w0.heap.size ≤ gb
theorem ofs_append (w0 W : World) (eb ix : Nat) (i : Inp) (hb : Below w0.heap.size w0 W) (hi : i.At w0) (hn : i.wd.L.length ≤ 1000) (hE : Blk W eb 3 #[]) (he : w0.heap.size ≤ eb) (hX : Blk W ix 112 i.cells) (ty : TypeId) :
    ∃ A c w1, (Builtin.append_ #[59, 59] ty #[.slice (some ⟨eb, 0, none⟩) 0 0, i.wd.val]).run Try.prog W = .ok (.slice A i.wd.L.length c) w1 ∧ Below w0.heap.size w0 w1 ∧ Blk w1 ix 112 i.cells ∧ OwnR 3 1 encInt w1 w0.heap.size (.slice A i.wd.L.length c) i.wd.L ∧
      (∀ g cs, Blk W g 3 cs → g ≠ eb → Blk w1 g 3 cs ∧ (Value.slice A i.wd.L.length c).ownBlock ≠ some g) ∧ ∀ g, w1.heap.size ≤ g → (Value.slice A i.wd.L.length c).ownBlock ≠ some g := by
  have ho : OwnR 3 1 encInt W w0.heap.size (.slice (some ⟨eb, 0, none⟩) 0 0) [] := by
    unfold OwnR World.ownsRow
    refine ⟨rfl, .inr ⟨eb, 0, #[], rfl, he, hE, Nat.le_refl _, Nat.zero_le _, rfl, rfl⟩⟩
  obtain ⟨v1, w1, hrun, hown, hext⟩ := run_append_src (P := Try.prog) 3 59 ty 1 8 (.int .i64 0) encInt (by decide) (fun _ => rfl) one_int Try.underlying59 inf_int rfl W w0.heap.size _ _ [] i.wd.L i.wd.A i.wd.L.length i.wd.c ho
    (((hi.below hb).wd).1.reads (size := 1) (by decide) (fun _ => rfl) lays_int) rfl (by simp; omega) (by simp; omega) hb.size
  rw [List.nil_append] at hown
  obtain ⟨⟨qA, qc, qL⟩, hv, hL, _, _⟩ := hown.form
  simp only [Sl.val] at hv hL
  subst hL
  subst hv
  have hg := hext.1
  refine ⟨qA, qc, w1, hrun, hb.trans ((Below.refl w0.heap.size W).grown hg hb.size fun k hk => ho.base k hk), ho.blkT hX (by decide) hg, hown, ?_, ?_⟩
  · intro g cs h hne
    refine ⟨Blk.grown h hg (fun e => hne (by injection e)), fun e => ?_⟩
    rcases hext.2 with h2 | ⟨k, h2, h3⟩
    · rw [h2] at e
      injection e with e
      exact hne e.symm
    · rw [h2] at e
      injection e with e
      have := h.lt
      omega
  · intro g hg2 e
    have := (World.ownsRow.lt hown g e).2
    omega
theorem RefS.lower {w w1 w' : World} {b gb : Nat} {wv sv : Value} {s : VS} {f : Int} (h : RefS w1 w' b gb wv sv s f) (hb : Below w.heap.size w w1) : RefS w w' b gb wv sv s f :=
  ⟨below_after hb h.bel, h.blk, h.grow, h.wrd.lower hb.size, h.snt.lower hb.size, h.wne, Nat.le_trans hb.size h.lo, Nat.le_trans hb.size h.log⟩
theorem vrun_in {p : List Ins4} {W lps : Int} {s : VS} (hend : ¬ p.length ≤ s.at_) (hn : s.n < 120) : vrun p W lps (120 - s.n) s = (if (p.getD s.at_ (0, 0, 0, 0)).1 = 0 then (s.tick, 0) else if vflt lps (p.getD s.at_ (0, 0, 0, 0)) s.tick = 0 then vrun p W lps (120 - (s.n + 1)) (vone W (p.getD s.at_ (0, 0, 0, 0)) s.tick) else (s.tick, vflt lps (p.getD s.at_ (0, 0, 0, 0)) s.tick)) := by
  obtain ⟨k, hk⟩ : ∃ k, 120 - s.n = k + 1 := ⟨120 - s.n - 1, by omega⟩
  rw [hk, show 120 - (s.n + 1) = k from by omega]
  exact if_neg hend
theorem vrun_end {p : List Ins4} {W lps : Int} {s : VS} (hend : p.length ≤ s.at_) (k : Nat) : vrun p W lps k s = (s, 0) := by
  cases k with
  | zero => exact if_pos hend
  | succ k => exact if_pos hend
theorem vone_n (W : Int) (x : Ins4) (s : VS) : (vone W x s).n = s.n := by
  unfold vone VS.put
  repeat' split
  all_goals rfl
/-- In the loop of a run: k rounds at most are to come. -/
def OfRel (w0 : World) (b gb : Nat) (p : List Ins4) (i : Inp) (W : Int) (R : VS × Int) (k : Nat) (wr : World) : Prop :=
  ∃ (s : VS) (wv sv : Value), RefS w0 wr b gb wv sv s 0 ∧ s.Ok p.length i.wd.L.length i.lps ∧ s.n ≤ 120 ∧ k = 121 - s.n ∧ vrun p W i.lps (120 - s.n) s = R
theorem OfS.ref {w0 w : World} {ix gb : Nat} {i : Inp} {wv : Value} (h : OfS w0 w ix gb i wv) :
    RefS w0 (w.alloc (.cells (rcells gb wv (.slice none 0 0) (vbeg i.wd.L i.pay i.me i.lps i.dice) 0) 160)) w.heap.size gb wv (.slice none 0 0) (vbeg i.wd.L i.pay i.me i.lps i.dice) 0 ∧
      Blk (w.alloc (.cells (rcells gb wv (.slice none 0 0) (vbeg i.wd.L i.pay i.me i.lps i.dice) 0) 160)) ix 112 i.cells :=
  ⟨⟨h.bel.alloc h.bel.size _, Blk.new w _ _, h.grow.alloc _, h.wrd.alloc _, OwnR.nil, h.wne, h.bel.size, h.log⟩, h.box.alloc _⟩
set_option maxHeartbeats 4000000 in
theorem rof_any (w : World) (p : Sl Ins4) (i : Inp) (hp : p.At InsAt 4 w) (hi : i.At w) (h8 : i.wd.L.length ≤ 8) (hl : p.L.length ≤ 48) (hok : ∀ x ∈ p.L, okIns p.L.length x) (R : VS × Int) (hR : vall p.L i.wd.L i.pay i.me i.lps i.seed i.dice = R) :
    Calls Try.prog 107 #[p.val, i.val] w fun e w' => ∃ b gb wv sv, e = .returned (.pointer (some ⟨b, 0, none⟩)) ∧ RefS w w' b gb wv sv R.1 R.2 := by
  have hX := Blk.new w 112 i.cells
  have hb : Below w.heap.size w (w.alloc (.cells i.cells 112)) := (Below.refl _ _).alloc (Nat.le_refl _) _
  have HI := hide hi
  have HC := hide (And.intro hp (And.intro h8 (And.intro hl hok)))
  have HR := hide hR
  clear hp hi h8 hl hok hR
  unfold Inp.val
  have HE := hide (show i.cells = #[.slice i.wd.A i.wd.L.length i.wd.c, .int .i64 i.pay, .int .i64 i.me, .int .i64 i.lps, .int .i64 i.seed, .int .i64 i.dice] from rfl)
  unfold Sl.val
  go_enter Try.func107, Try.ntmps107
  go_upto_region 1 with fail
  generalize w.alloc _ = w1 at *
  generalize hr0 : w.heap.size = r0 at *
  have hge : w.heap.size ≤ w1.heap.size := by rw [hr0]; exact Nat.le_of_lt hX.lt
  have HX := hide hX.drew
  have HB := hide (show Below w.heap.size w w1.drew by rw [hr0]; exact hb.drew)
  have hxlt : r0 < w1.heap.size := hX.lt
  have c0 : w1.drew.cell? ⟨r0, 0, none⟩ = some (.slice i.wd.A i.wd.L.length i.wd.c) := HX.out.cell 0
  have c1 : w1.drew.cell? ⟨r0, 1, none⟩ = some (.int .i64 i.pay) := HX.out.cell 1
  have c2 : w1.drew.cell? ⟨r0, 2, none⟩ = some (.int .i64 i.me) := HX.out.cell 2
  have c3 : w1.drew.cell? ⟨r0, 3, none⟩ = some (.int .i64 i.lps) := HX.out.cell 3
  have c5 : w1.drew.cell? ⟨r0, 5, none⟩ = some (.int .i64 i.dice) := HX.out.cell 5
  have BC := hide (fun (W : World) (h : Blk W r0 112 i.cells) => (show W.cell? ⟨r0, 0, none⟩ = some (.slice i.wd.A i.wd.L.length i.wd.c) ∧ W.cell? ⟨r0, 1, none⟩ = some (.int .i64 i.pay) ∧ W.cell? ⟨r0, 2, none⟩ = some (.int .i64 i.me) ∧ W.cell? ⟨r0, 3, none⟩ = some (.int .i64 i.lps) ∧ W.cell? ⟨r0, 5, none⟩ = some (.int .i64 i.dice) from ⟨h.cell 0, h.cell 1, h.cell 2, h.cell 3, h.cell 5⟩))
  have hz : ∀ (W : World) o, (W.alloc o).heap.size = W.heap.size + 1 := fun W o => Array.size_push ..
  have hn : i.wd.L.length ≤ 1000 := by have := HC.out.2.1; omega
  have HX0 := hide hX
  have HBW := hide (show Below w.heap.size w w1 by rw [hr0]; exact hb)
  have HB0 := hide (Below.refl w1.heap.size w1)
  replace HI := hide (HI.out.below HBW.out)
  -- the three orders: G, E, append; E, G, append; E, append, G
  obtain ⟨A1, k1, x1, hrun1, p1, p2, p3, p4, p5⟩ := ofs_append w1 ((w1.alloc (.cells #[.int .i64 i.pay, .int .i64 i.me, .int .i64 i.lps, .int .i64 i.wd.L.length, .int .i64 0, .int .i64 0, .int .i64 0, .int .i64 0] 3)).alloc (.cells #[] 3)).drew (w1.heap.size + 1) r0 i ((HB0.out.alloc (by omega) _).alloc (by rw [hz]; omega) _).drew HI.out hn (by have := (Blk.new (w1.alloc (.cells #[.int .i64 i.pay, .int .i64 i.me, .int .i64 i.lps, .int .i64 i.wd.L.length, .int .i64 0, .int .i64 0, .int .i64 0, .int .i64 0] 3)) 3 #[]).drew; rw [hz] at this; exact this) (by omega) ((HX0.out.alloc _).alloc _).drew 59
  obtain ⟨A2, k2, x2, hrun2, q1, q2, q3, q4, q5⟩ := ofs_append w1 ((w1.alloc (.cells #[] 3)).alloc (.cells #[.int .i64 i.pay, .int .i64 i.me, .int .i64 i.lps, .int .i64 i.wd.L.length, .int .i64 0, .int .i64 0, .int .i64 0, .int .i64 0] 3)).drew w1.heap.size r0 i ((HB0.out.alloc (by omega) _).alloc (by rw [hz]; omega) _).drew HI.out hn ((Blk.new w1 3 #[]).alloc _).drew (by omega) ((HX0.out.alloc _).alloc _).drew 59
  obtain ⟨A3, k3, x3, hrun3, s1, s2, s3, s4, s5⟩ := ofs_append w1 (w1.alloc (.cells #[] 3)).drew w1.heap.size r0 i (HB0.out.alloc (by omega) _).drew HI.out hn (Blk.new w1 3 #[]).drew (by omega) (HX0.out.alloc _).drew 59
  have hne : w1.heap.size + 1 ≠ w1.heap.size := by omega
  have O1 : OfS w1 x1 r0 w1.heap.size i (.slice A1 i.wd.L.length k1) := by
    obtain ⟨h1, h2⟩ := p4 w1.heap.size (g0cells i) ((Blk.new w1 3 (g0cells i)).alloc _).drew (Ne.symm hne)
    exact ⟨p1, p2, h1, p3, h2, by omega⟩
  have O2 : OfS w1 x2 r0 (w1.heap.size + 1) i (.slice A2 i.wd.L.length k2) := by
    obtain ⟨h1, h2⟩ := q4 (w1.heap.size + 1) (g0cells i) (by have := (Blk.new (w1.alloc (.cells #[] 3)) 3 (g0cells i)).drew; rw [hz] at this; exact this) hne
    exact ⟨q1, q2, h1, q3, h2, by omega⟩
  have O3 : OfS w1 (x3.alloc (.cells #[.int .i64 i.pay, .int .i64 i.me, .int .i64 i.lps, .int .i64 i.wd.L.length, .int .i64 0, .int .i64 0, .int .i64 0, .int .i64 0] 3)) r0 x3.heap.size i (.slice A3 i.wd.L.length k3) :=
    ⟨s1.alloc s1.size _, s2.alloc _, Blk.new _ _ _, s3.alloc _, s5 _ (Nat.le_refl _), s1.size⟩
  have P1 := hide O1
  have P2 := hide O2
  have P3 := hide O3
  have P0 := hide s2
  have wI : (0 : Int) ≤ (i.wd.L.length : Int) := by omega
  clear O1 O2 O3 p1 p2 p3 p4 p5 q1 q2 q3 q4 q5 s1 s2 s3 s4 s5 hz hn hge hb hX hxlt hne HB HE HB0 HX
  unfold Sl.val at hrun1 hrun2 hrun3
  go_region_held3 (fun w' => w'.cell? ⟨r0, 0, none⟩ = some (.slice i.wd.A i.wd.L.length i.wd.c) ∧ w'.cell? ⟨r0, 1, none⟩ = some (.int .i64 i.pay) ∧ w'.cell? ⟨r0, 2, none⟩ = some (.int .i64 i.me) ∧ w'.cell? ⟨r0, 3, none⟩ = some (.int .i64 i.lps) ∧ w'.cell? ⟨r0, 5, none⟩ = some (.int .i64 i.dice))
    (first
      | (go_split_ands; exact ⟨by assumption, by assumption, by assumption, by assumption, by assumption⟩)
      | (go_split_ands; with_reducible exact BC.out _ (Blk.drew (Blk.alloc HX0.out _)))
      | (go_split_ands; with_reducible exact BC.out _ (Blk.drew (Blk.alloc (Blk.alloc HX0.out _) _)))
      | (go_split_ands; with_reducible exact BC.out _ P1.out.box)
      | (go_split_ands; with_reducible exact BC.out _ P2.out.box)
      | (go_split_ands; with_reducible exact BC.out _ P0.out)
      | (go_split_ands; with_reducible exact BC.out _ P3.out.box)
      | (go_split_ands; with_reducible exact BC.out _ (Blk.alloc P1.out.box _))
      | (go_split_ands; with_reducible exact BC.out _ (Blk.alloc P2.out.box _))
      | (go_split_ands; with_reducible exact BC.out _ (Blk.alloc P3.out.box _))
      | fail)
    (first
      | ((with_reducible show (if _ then Oper.wp _ _ _ (((w1.alloc (.cells #[.int .i64 i.pay, .int .i64 i.me, .int .i64 i.lps, .int .i64 i.wd.L.length, .int .i64 0, .int .i64 0, .int .i64 0, .int .i64 0] 3)).alloc (.cells #[] 3)).drew) _ _ else _)); refine step_of_append rfl _ x1 (.tmp 18) (.tmp 20) 59 _ _ _ (by rfl) (by rfl) (by rfl) hrun1 ?_)
      | ((with_reducible show (if _ then Oper.wp _ _ _ (((w1.alloc (.cells #[] 3)).alloc (.cells #[.int .i64 i.pay, .int .i64 i.me, .int .i64 i.lps, .int .i64 i.wd.L.length, .int .i64 0, .int .i64 0, .int .i64 0, .int .i64 0] 3)).drew) _ _ else _)); refine step_of_append rfl _ x2 (.tmp 18) (.tmp 20) 59 _ _ _ (by rfl) (by rfl) (by rfl) hrun2 ?_)
      | ((with_reducible show (if _ then Oper.wp _ _ _ ((w1.alloc (.cells #[] 3)).drew) _ _ else _)); refine step_of_append rfl _ x3 (.tmp 18) (.tmp 20) 59 _ _ _ (by rfl) (by rfl) (by rfl) hrun3 ?_))
  all_goals
    rename_i hHeld
    clear hHeld
  · have hS := P1.out.ref.1
    change Exit.then _ _ Exit.normal _ (x1.alloc (.cells (rcells w1.heap.size (.slice A1 i.wd.L.length k1) (.slice none 0 0) (vbeg i.wd.L i.pay i.me i.lps i.dice) 0) 160))
    generalize x1.alloc (.cells (rcells w1.heap.size (.slice A1 i.wd.L.length k1) (.slice none 0 0) (vbeg i.wd.L i.pay i.me i.lps i.dice) 0) 160) = W1 at *
    generalize x1.heap.size = b at *
    generalize w1.heap.size = gb at *
    have HS := hide hS
    clear hS P0 P1 P2 P3 hrun1 hrun2 hrun3 c0 c1 c2 c3 c5 BC
    go_wp2_with fail
    go_loopg [7] 121 (fun k _ wr => OfRel w1 b gb p.L i (wordI i.seed i.me) R k wr)
    case atStart => exact ⟨_, _, _, HS.out, vbeg_ok (sl_ints HI.out.wd) HC.out.2.1 HI.out.pay HI.out.me HI.out.lps HI.out.dice, Nat.zero_le _, rfl, HR.out⟩
    case round =>
      clear HS
      obtain ⟨s, wv, sv, hS, hs, hn, rfl, hV⟩ := hrel
      obtain ⟨_, _, _, _, c4, c5, c6⟩ := hS.cells
      by_cases hend : p.L.length ≤ s.at_
      · have HE := hide ((vrun_end hend _).symm.trans hV)
        have d0 : decide (s.at_ < p.L.length) = false := decide_eq_false (by omega)
        have HS := hide hS
        clear hS hs hn hV c5 c6 hend
        go_wp2_with fail
        go_ret
        exact ⟨b, gb, wv, sv, rfl, by rw [← HE.out]; exact HS.out.lower HBW.out⟩
      · have d0 : decide (s.at_ < p.L.length) = true := decide_eq_true (by omega)
        by_cases h120 : s.n = 120
        · have HE := hide (show R = (s, 1) from by rw [← hV, h120]; exact if_neg hend)
          have dn : ((s.n : Int) == 120) = true := by rw [h120]; rfl
          have f6 := hS.blk.frozen 6
          have HS := hide (hS.setF 1)
          clear hS hs hn hV hend h120
          go_wp2_with fail
          go_ret
          exact ⟨b, gb, wv, sv, rfl, by rw [HE.out]; exact HS.out.lower HBW.out⟩
        · have hn2 : s.n < 120 := by omega
          have dn : ((s.n : Int) == 120) = false := by rw [beq_eq_false_iff_ne]; omega
          have HV := hide ((vrun_in hend hn2).symm.trans hV)
          have hlt : s.at_ < p.L.length := by omega
          have hx : p.L[s.at_]? = some (p.L.getD s.at_ (0, 0, 0, 0)) := by
            rw [List.getD_eq_getElem?_getD, List.getElem?_eq_getElem hlt]
            rfl
          have ht := hs.tick hlt
          have HXX := hide hx
          have HT := hide ht
          have f5 := hS.blk.frozen 5
          have H := hide hS
          clear hS hs hn hV hend h120 hx ht c6
          go_upto_region 7 with fail
          replace H := hide (H.out.setN (s.n + 1))
          clear c4 c5 f5 dn d0
          change Code.wp _ _ _ _ (wr.setCell ⟨b, 5, none⟩ (.int .i64 ((s.n + 1 : Nat) : Int)))
          generalize wr.setCell ⟨b, 5, none⟩ (.int .i64 ((s.n + 1 : Nat) : Int)) = w2 at *
          have c4 := H.out.cells.2.2.2.2.1
          obtain ⟨ad, hA, q0, q1, q2, q3, _⟩ := ((HC.out.1.below InsAt.keeps HBW.out).below InsAt.keeps H.out.bel).1 s.at_ _ HXX.out
          have atI1 : (s.at_ : Int) < (p.L.length : Int) := by omega
          have atI2 : (s.at_ : Int) < 48 := by have := HC.out.2.2.1; omega
          clear HXX
          generalize hxx : p.L.getD s.at_ (0, 0, 0, 0) = x at *
          have HIX := hide (show okIns p.L.length x ∧ I64 x.2.2.1 from by rw [← hxx]; exact ins_ok HC.out.1 HC.out.2.2.2 _ (getD_mem hlt))
          clear hxx hlt
          have q0' := q0
          go_upto_region 8 with fail
          have hBX := (Blk.new w2 142 #[.int .i64 x.1, .int .i64 x.2.1, .int .i64 x.2.2.1, .int .i64 x.2.2.2])
          replace H := hide (H.out.alloc (.cells #[.int .i64 x.1, .int .i64 x.2.1, .int .i64 x.2.2.1, .int .i64 x.2.2.2] 142))
          have hbb := H.out.blk.neT hBX (by decide)
          clear q0 q0' q1 q2 q3 c4 hA atI1
          generalize w2.alloc (.cells #[.int .i64 x.1, .int .i64 x.2.1, .int .i64 x.2.2.1, .int .i64 x.2.2.2] 142) = w3 at *
          generalize w2.heap.size = bx at *
          have HB := hide hBX
          clear hBX
          have c4 := H.out.cells.2.2.2.2.1
          have f4 := H.out.blk.frozen 4
          go_upto_region 9 with fail
          replace H := hide (H.out.setAt (s.at_ + 1))
          replace HB := hide (HB.out.far (p := ⟨b, 4, none⟩) (Ne.symm hbb) (.int .i64 ((s.at_ + 1 : Nat) : Int)))
          clear c4 f4 hbb
          change Code.wp _ _ _ _ (w3.setCell ⟨b, 4, none⟩ (.int .i64 ((s.at_ + 1 : Nat) : Int)))
          generalize w3.setCell ⟨b, 4, none⟩ (.int .i64 ((s.at_ + 1 : Nat) : Int)) = w4 at *
          replace H : Hid (RefS w1 w4 b gb wv sv s.tick 0) := H
          have b0 := HB.out.cell 0
          have b1 := HB.out.cell 1
          have b2 := HB.out.cell 2
          have b3 := HB.out.cell 3
          simp only [List.getElem?_toArray, List.getElem?_cons_zero, List.getElem?_cons_succ] at b0 b1 b2 b3
          have htn : Hid (s.tick.n = s.n + 1) := hide rfl
          generalize s.tick = t at *
          by_cases h0 : x.1 = 0
          · have HE := hide (show R = (t, 0) from HV.out.symm.trans (if_pos h0))
            have de : (x.1 == 0) = true := by rw [h0]; rfl
            clear h0 HV b1 b2 b3
            generalize x.1 = op at *
            go_wp2_with fail
            go_ret
            exact ⟨b, gb, wv, sv, rfl, by rw [HE.out]; exact H.out.lower HBW.out⟩
          · have HV2 := hide (HV.out.symm.trans (if_neg h0))
            have hON := one_any w1 w4 b gb wv sv t 0 i p.L.length i.wd.L.length H.out HT.out (wordI i.seed i.me) rfl x HIX.out.1 h0
            unfold Inp.val Inp.cells Sl.val at hON
            have HON := hide hON
            have de : (x.1 == 0) = false := by rw [beq_eq_false_iff_ne]; exact h0
            have hXI := HX0.out.below H.out.bel HX0.out.lt
            have i0 : w4.cell? ⟨r0, 0, none⟩ = some (.slice i.wd.A i.wd.L.length i.wd.c) := hXI.cell 0
            have i1 : w4.cell? ⟨r0, 1, none⟩ = some (.int .i64 i.pay) := hXI.cell 1
            have i2 : w4.cell? ⟨r0, 2, none⟩ = some (.int .i64 i.me) := hXI.cell 2
            have i3 : w4.cell? ⟨r0, 3, none⟩ = some (.int .i64 i.lps) := hXI.cell 3
            have i4 : w4.cell? ⟨r0, 4, none⟩ = some (.int .i64 i.seed) := hXI.cell 4
            have i5 : w4.cell? ⟨r0, 5, none⟩ = some (.int .i64 i.dice) := hXI.cell 5
            have H0N := hide h0
            clear h0 hON HV hXI
            obtain ⟨F, hF⟩ : ∃ F, vflt i.lps x t = F := ⟨_, rfl⟩
            have HT1 := hide (fun hf : vflt i.lps x t = 0 => HT.out.one (W := wordI i.seed i.me) HIX.out.1 HIX.out.2 hf)
            rw [hF] at HON HV2 HT1
            clear hF
            go_wp2_with fail
            refine HON.out.mono ?_
            rintro e w5 ⟨rfl, wv5, sv5, h5⟩
            clear b0 b1 b2 b3 i0 i1 i2 i3 i4 i5 HON
            by_cases hf : F = 0
            · subst hf
              rw [if_pos rfl] at h5
              have HE := hide (HV2.out.trans (if_pos rfl))
              have H5 := hide h5
              clear HV2 h5
              go_wp2_with fail
              go_roundg (121 - (s.n + 1))
              case measure => omega
              case rel => exact ⟨vone (wordI i.seed i.me) x t, wv5, sv5, H5.out, HT1.out (by first | rfl | trivial), by rw [vone_n, htn.out]; omega, by rw [vone_n, htn.out], by rw [vone_n, htn.out]; exact HE.out.symm⟩
            · rw [if_neg hf] at h5
              have HE := hide (HV2.out.trans (if_neg hf))
              have hfb : (F != 0) = true := by rw [bne_iff_ne]; exact hf
              have c6 := h5.cells.2.2.2.2.2.2
              have f6 := h5.blk.frozen 6
              have H5 := hide (h5.setF F)
              clear HV2 h5 hf
              go_wp2_with fail
              go_ret
              exact ⟨b, gb, wv5, sv5, rfl, by rw [HE.out]; exact H5.out.lower HBW.out⟩
  · have hS := P2.out.ref.1
    change Exit.then _ _ Exit.normal _ (x2.alloc (.cells (rcells (w1.heap.size + 1) (.slice A2 i.wd.L.length k2) (.slice none 0 0) (vbeg i.wd.L i.pay i.me i.lps i.dice) 0) 160))
    generalize x2.alloc (.cells (rcells (w1.heap.size + 1) (.slice A2 i.wd.L.length k2) (.slice none 0 0) (vbeg i.wd.L i.pay i.me i.lps i.dice) 0) 160) = W1 at *
    generalize x2.heap.size = b at *
    generalize (w1.heap.size + 1) = gb at *
    have HS := hide hS
    clear hS P0 P1 P2 P3 hrun1 hrun2 hrun3 c0 c1 c2 c3 c5 BC
    go_wp2_with fail
    go_loopg [7] 121 (fun k _ wr => OfRel w1 b gb p.L i (wordI i.seed i.me) R k wr)
    case atStart => exact ⟨_, _, _, HS.out, vbeg_ok (sl_ints HI.out.wd) HC.out.2.1 HI.out.pay HI.out.me HI.out.lps HI.out.dice, Nat.zero_le _, rfl, HR.out⟩
    case round =>
      clear HS
      obtain ⟨s, wv, sv, hS, hs, hn, rfl, hV⟩ := hrel
      obtain ⟨_, _, _, _, c4, c5, c6⟩ := hS.cells
      by_cases hend : p.L.length ≤ s.at_
      · have HE := hide ((vrun_end hend _).symm.trans hV)
        have d0 : decide (s.at_ < p.L.length) = false := decide_eq_false (by omega)
        have HS := hide hS
        clear hS hs hn hV c5 c6 hend
        go_wp2_with fail
        go_ret
        exact ⟨b, gb, wv, sv, rfl, by rw [← HE.out]; exact HS.out.lower HBW.out⟩
      · have d0 : decide (s.at_ < p.L.length) = true := decide_eq_true (by omega)
        by_cases h120 : s.n = 120
        · have HE := hide (show R = (s, 1) from by rw [← hV, h120]; exact if_neg hend)
          have dn : ((s.n : Int) == 120) = true := by rw [h120]; rfl
          have f6 := hS.blk.frozen 6
          have HS := hide (hS.setF 1)
          clear hS hs hn hV hend h120
          go_wp2_with fail
          go_ret
          exact ⟨b, gb, wv, sv, rfl, by rw [HE.out]; exact HS.out.lower HBW.out⟩
        · have hn2 : s.n < 120 := by omega
          have dn : ((s.n : Int) == 120) = false := by rw [beq_eq_false_iff_ne]; omega
          have HV := hide ((vrun_in hend hn2).symm.trans hV)
          have hlt : s.at_ < p.L.length := by omega
          have hx : p.L[s.at_]? = some (p.L.getD s.at_ (0, 0, 0, 0)) := by
            rw [List.getD_eq_getElem?_getD, List.getElem?_eq_getElem hlt]
            rfl
          have ht := hs.tick hlt
          have HXX := hide hx
          have HT := hide ht
          have f5 := hS.blk.frozen 5
          have H := hide hS
          clear hS hs hn hV hend h120 hx ht c6
          go_upto_region 7 with fail
          replace H := hide (H.out.setN (s.n + 1))
          clear c4 c5 f5 dn d0
          change Code.wp _ _ _ _ (wr.setCell ⟨b, 5, none⟩ (.int .i64 ((s.n + 1 : Nat) : Int)))
          generalize wr.setCell ⟨b, 5, none⟩ (.int .i64 ((s.n + 1 : Nat) : Int)) = w2 at *
          have c4 := H.out.cells.2.2.2.2.1
          obtain ⟨ad, hA, q0, q1, q2, q3, _⟩ := ((HC.out.1.below InsAt.keeps HBW.out).below InsAt.keeps H.out.bel).1 s.at_ _ HXX.out
          have atI1 : (s.at_ : Int) < (p.L.length : Int) := by omega
          have atI2 : (s.at_ : Int) < 48 := by have := HC.out.2.2.1; omega
          clear HXX
          generalize hxx : p.L.getD s.at_ (0, 0, 0, 0) = x at *
          have HIX := hide (show okIns p.L.length x ∧ I64 x.2.2.1 from by rw [← hxx]; exact ins_ok HC.out.1 HC.out.2.2.2 _ (getD_mem hlt))
          clear hxx hlt
          have q0' := q0
          go_upto_region 8 with fail
          have hBX := (Blk.new w2 142 #[.int .i64 x.1, .int .i64 x.2.1, .int .i64 x.2.2.1, .int .i64 x.2.2.2])
          replace H := hide (H.out.alloc (.cells #[.int .i64 x.1, .int .i64 x.2.1, .int .i64 x.2.2.1, .int .i64 x.2.2.2] 142))
          have hbb := H.out.blk.neT hBX (by decide)
          clear q0 q0' q1 q2 q3 c4 hA atI1
          generalize w2.alloc (.cells #[.int .i64 x.1, .int .i64 x.2.1, .int .i64 x.2.2.1, .int .i64 x.2.2.2] 142) = w3 at *
          generalize w2.heap.size = bx at *
          have HB := hide hBX
          clear hBX
          have c4 := H.out.cells.2.2.2.2.1
          have f4 := H.out.blk.frozen 4
          go_upto_region 9 with fail
          replace H := hide (H.out.setAt (s.at_ + 1))
          replace HB := hide (HB.out.far (p := ⟨b, 4, none⟩) (Ne.symm hbb) (.int .i64 ((s.at_ + 1 : Nat) : Int)))
          clear c4 f4 hbb
          change Code.wp _ _ _ _ (w3.setCell ⟨b, 4, none⟩ (.int .i64 ((s.at_ + 1 : Nat) : Int)))
          generalize w3.setCell ⟨b, 4, none⟩ (.int .i64 ((s.at_ + 1 : Nat) : Int)) = w4 at *
          replace H : Hid (RefS w1 w4 b gb wv sv s.tick 0) := H
          have b0 := HB.out.cell 0
          have b1 := HB.out.cell 1
          have b2 := HB.out.cell 2
          have b3 := HB.out.cell 3
          simp only [List.getElem?_toArray, List.getElem?_cons_zero, List.getElem?_cons_succ] at b0 b1 b2 b3
          have htn : Hid (s.tick.n = s.n + 1) := hide rfl
          generalize s.tick = t at *
          by_cases h0 : x.1 = 0
          · have HE := hide (show R = (t, 0) from HV.out.symm.trans (if_pos h0))
            have de : (x.1 == 0) = true := by rw [h0]; rfl
            clear h0 HV b1 b2 b3
            generalize x.1 = op at *
            go_wp2_with fail
            go_ret
            exact ⟨b, gb, wv, sv, rfl, by rw [HE.out]; exact H.out.lower HBW.out⟩
          · have HV2 := hide (HV.out.symm.trans (if_neg h0))
            have hON := one_any w1 w4 b gb wv sv t 0 i p.L.length i.wd.L.length H.out HT.out (wordI i.seed i.me) rfl x HIX.out.1 h0
            unfold Inp.val Inp.cells Sl.val at hON
            have HON := hide hON
            have de : (x.1 == 0) = false := by rw [beq_eq_false_iff_ne]; exact h0
            have hXI := HX0.out.below H.out.bel HX0.out.lt
            have i0 : w4.cell? ⟨r0, 0, none⟩ = some (.slice i.wd.A i.wd.L.length i.wd.c) := hXI.cell 0
            have i1 : w4.cell? ⟨r0, 1, none⟩ = some (.int .i64 i.pay) := hXI.cell 1
            have i2 : w4.cell? ⟨r0, 2, none⟩ = some (.int .i64 i.me) := hXI.cell 2
            have i3 : w4.cell? ⟨r0, 3, none⟩ = some (.int .i64 i.lps) := hXI.cell 3
            have i4 : w4.cell? ⟨r0, 4, none⟩ = some (.int .i64 i.seed) := hXI.cell 4
            have i5 : w4.cell? ⟨r0, 5, none⟩ = some (.int .i64 i.dice) := hXI.cell 5
            have H0N := hide h0
            clear h0 hON HV hXI
            obtain ⟨F, hF⟩ : ∃ F, vflt i.lps x t = F := ⟨_, rfl⟩
            have HT1 := hide (fun hf : vflt i.lps x t = 0 => HT.out.one (W := wordI i.seed i.me) HIX.out.1 HIX.out.2 hf)
            rw [hF] at HON HV2 HT1
            clear hF
            go_wp2_with fail
            refine HON.out.mono ?_
            rintro e w5 ⟨rfl, wv5, sv5, h5⟩
            clear b0 b1 b2 b3 i0 i1 i2 i3 i4 i5 HON
            by_cases hf : F = 0
            · subst hf
              rw [if_pos rfl] at h5
              have HE := hide (HV2.out.trans (if_pos rfl))
              have H5 := hide h5
              clear HV2 h5
              go_wp2_with fail
              go_roundg (121 - (s.n + 1))
              case measure => omega
              case rel => exact ⟨vone (wordI i.seed i.me) x t, wv5, sv5, H5.out, HT1.out (by first | rfl | trivial), by rw [vone_n, htn.out]; omega, by rw [vone_n, htn.out], by rw [vone_n, htn.out]; exact HE.out.symm⟩
            · rw [if_neg hf] at h5
              have HE := hide (HV2.out.trans (if_neg hf))
              have hfb : (F != 0) = true := by rw [bne_iff_ne]; exact hf
              have c6 := h5.cells.2.2.2.2.2.2
              have f6 := h5.blk.frozen 6
              have H5 := hide (h5.setF F)
              clear HV2 h5 hf
              go_wp2_with fail
              go_ret
              exact ⟨b, gb, wv5, sv5, rfl, by rw [HE.out]; exact H5.out.lower HBW.out⟩
  · have hS := P3.out.ref.1
    rw [show (x3.alloc (.cells #[.int .i64 i.pay, .int .i64 i.me, .int .i64 i.lps, .int .i64 i.wd.L.length, .int .i64 0, .int .i64 0, .int .i64 0, .int .i64 0] 3)).heap.size = x3.heap.size + 1 from Array.size_push ..] at hS
    change Exit.then _ _ Exit.normal _ ((x3.alloc (.cells #[.int .i64 i.pay, .int .i64 i.me, .int .i64 i.lps, .int .i64 i.wd.L.length, .int .i64 0, .int .i64 0, .int .i64 0, .int .i64 0] 3)).alloc (.cells (rcells x3.heap.size (.slice A3 i.wd.L.length k3) (.slice none 0 0) (vbeg i.wd.L i.pay i.me i.lps i.dice) 0) 160))
    generalize (x3.alloc (.cells #[.int .i64 i.pay, .int .i64 i.me, .int .i64 i.lps, .int .i64 i.wd.L.length, .int .i64 0, .int .i64 0, .int .i64 0, .int .i64 0] 3)).alloc (.cells (rcells x3.heap.size (.slice A3 i.wd.L.length k3) (.slice none 0 0) (vbeg i.wd.L i.pay i.me i.lps i.dice) 0) 160) = W1 at *
    generalize x3.heap.size + 1 = b at *
    generalize x3.heap.size = gb at *
    have HS := hide hS
    clear hS P0 P1 P2 P3 hrun1 hrun2 hrun3 c0 c1 c2 c3 c5 BC
    go_wp2_with fail
    go_loopg [7] 121 (fun k _ wr => OfRel w1 b gb p.L i (wordI i.seed i.me) R k wr)
    case atStart => exact ⟨_, _, _, HS.out, vbeg_ok (sl_ints HI.out.wd) HC.out.2.1 HI.out.pay HI.out.me HI.out.lps HI.out.dice, Nat.zero_le _, rfl, HR.out⟩
    case round =>
      clear HS
      obtain ⟨s, wv, sv, hS, hs, hn, rfl, hV⟩ := hrel
      obtain ⟨_, _, _, _, c4, c5, c6⟩ := hS.cells
      by_cases hend : p.L.length ≤ s.at_
      · have HE := hide ((vrun_end hend _).symm.trans hV)
        have d0 : decide (s.at_ < p.L.length) = false := decide_eq_false (by omega)
        have HS := hide hS
        clear hS hs hn hV c5 c6 hend
        go_wp2_with fail
        go_ret
        exact ⟨b, gb, wv, sv, rfl, by rw [← HE.out]; exact HS.out.lower HBW.out⟩
      · have d0 : decide (s.at_ < p.L.length) = true := decide_eq_true (by omega)
        by_cases h120 : s.n = 120
        · have HE := hide (show R = (s, 1) from by rw [← hV, h120]; exact if_neg hend)
          have dn : ((s.n : Int) == 120) = true := by rw [h120]; rfl
          have f6 := hS.blk.frozen 6
          have HS := hide (hS.setF 1)
          clear hS hs hn hV hend h120
          go_wp2_with fail
          go_ret
          exact ⟨b, gb, wv, sv, rfl, by rw [HE.out]; exact HS.out.lower HBW.out⟩
        · have hn2 : s.n < 120 := by omega
          have dn : ((s.n : Int) == 120) = false := by rw [beq_eq_false_iff_ne]; omega
          have HV := hide ((vrun_in hend hn2).symm.trans hV)
          have hlt : s.at_ < p.L.length := by omega
          have hx : p.L[s.at_]? = some (p.L.getD s.at_ (0, 0, 0, 0)) := by
            rw [List.getD_eq_getElem?_getD, List.getElem?_eq_getElem hlt]
            rfl
          have ht := hs.tick hlt
          have HXX := hide hx
          have HT := hide ht
          have f5 := hS.blk.frozen 5
          have H := hide hS
          clear hS hs hn hV hend h120 hx ht c6
          go_upto_region 7 with fail
          replace H := hide (H.out.setN (s.n + 1))
          clear c4 c5 f5 dn d0
          change Code.wp _ _ _ _ (wr.setCell ⟨b, 5, none⟩ (.int .i64 ((s.n + 1 : Nat) : Int)))
          generalize wr.setCell ⟨b, 5, none⟩ (.int .i64 ((s.n + 1 : Nat) : Int)) = w2 at *
          have c4 := H.out.cells.2.2.2.2.1
          obtain ⟨ad, hA, q0, q1, q2, q3, _⟩ := ((HC.out.1.below InsAt.keeps HBW.out).below InsAt.keeps H.out.bel).1 s.at_ _ HXX.out
          have atI1 : (s.at_ : Int) < (p.L.length : Int) := by omega
          have atI2 : (s.at_ : Int) < 48 := by have := HC.out.2.2.1; omega
          clear HXX
          generalize hxx : p.L.getD s.at_ (0, 0, 0, 0) = x at *
          have HIX := hide (show okIns p.L.length x ∧ I64 x.2.2.1 from by rw [← hxx]; exact ins_ok HC.out.1 HC.out.2.2.2 _ (getD_mem hlt))
          clear hxx hlt
          have q0' := q0
          go_upto_region 8 with fail
          have hBX := (Blk.new w2 142 #[.int .i64 x.1, .int .i64 x.2.1, .int .i64 x.2.2.1, .int .i64 x.2.2.2])
          replace H := hide (H.out.alloc (.cells #[.int .i64 x.1, .int .i64 x.2.1, .int .i64 x.2.2.1, .int .i64 x.2.2.2] 142))
          have hbb := H.out.blk.neT hBX (by decide)
          clear q0 q0' q1 q2 q3 c4 hA atI1
          generalize w2.alloc (.cells #[.int .i64 x.1, .int .i64 x.2.1, .int .i64 x.2.2.1, .int .i64 x.2.2.2] 142) = w3 at *
          generalize w2.heap.size = bx at *
          have HB := hide hBX
          clear hBX
          have c4 := H.out.cells.2.2.2.2.1
          have f4 := H.out.blk.frozen 4
          go_upto_region 9 with fail
          replace H := hide (H.out.setAt (s.at_ + 1))
          replace HB := hide (HB.out.far (p := ⟨b, 4, none⟩) (Ne.symm hbb) (.int .i64 ((s.at_ + 1 : Nat) : Int)))
          clear c4 f4 hbb
          change Code.wp _ _ _ _ (w3.setCell ⟨b, 4, none⟩ (.int .i64 ((s.at_ + 1 : Nat) : Int)))
          generalize w3.setCell ⟨b, 4, none⟩ (.int .i64 ((s.at_ + 1 : Nat) : Int)) = w4 at *
          replace H : Hid (RefS w1 w4 b gb wv sv s.tick 0) := H
          have b0 := HB.out.cell 0
          have b1 := HB.out.cell 1
          have b2 := HB.out.cell 2
          have b3 := HB.out.cell 3
          simp only [List.getElem?_toArray, List.getElem?_cons_zero, List.getElem?_cons_succ] at b0 b1 b2 b3
          have htn : Hid (s.tick.n = s.n + 1) := hide rfl
          generalize s.tick = t at *
          by_cases h0 : x.1 = 0
          · have HE := hide (show R = (t, 0) from HV.out.symm.trans (if_pos h0))
            have de : (x.1 == 0) = true := by rw [h0]; rfl
            clear h0 HV b1 b2 b3
            generalize x.1 = op at *
            go_wp2_with fail
            go_ret
            exact ⟨b, gb, wv, sv, rfl, by rw [HE.out]; exact H.out.lower HBW.out⟩
          · have HV2 := hide (HV.out.symm.trans (if_neg h0))
            have hON := one_any w1 w4 b gb wv sv t 0 i p.L.length i.wd.L.length H.out HT.out (wordI i.seed i.me) rfl x HIX.out.1 h0
            unfold Inp.val Inp.cells Sl.val at hON
            have HON := hide hON
            have de : (x.1 == 0) = false := by rw [beq_eq_false_iff_ne]; exact h0
            have hXI := HX0.out.below H.out.bel HX0.out.lt
            have i0 : w4.cell? ⟨r0, 0, none⟩ = some (.slice i.wd.A i.wd.L.length i.wd.c) := hXI.cell 0
            have i1 : w4.cell? ⟨r0, 1, none⟩ = some (.int .i64 i.pay) := hXI.cell 1
            have i2 : w4.cell? ⟨r0, 2, none⟩ = some (.int .i64 i.me) := hXI.cell 2
            have i3 : w4.cell? ⟨r0, 3, none⟩ = some (.int .i64 i.lps) := hXI.cell 3
            have i4 : w4.cell? ⟨r0, 4, none⟩ = some (.int .i64 i.seed) := hXI.cell 4
            have i5 : w4.cell? ⟨r0, 5, none⟩ = some (.int .i64 i.dice) := hXI.cell 5
            have H0N := hide h0
            clear h0 hON HV hXI
            obtain ⟨F, hF⟩ : ∃ F, vflt i.lps x t = F := ⟨_, rfl⟩
            have HT1 := hide (fun hf : vflt i.lps x t = 0 => HT.out.one (W := wordI i.seed i.me) HIX.out.1 HIX.out.2 hf)
            rw [hF] at HON HV2 HT1
            clear hF
            go_wp2_with fail
            refine HON.out.mono ?_
            rintro e w5 ⟨rfl, wv5, sv5, h5⟩
            clear b0 b1 b2 b3 i0 i1 i2 i3 i4 i5 HON
            by_cases hf : F = 0
            · subst hf
              rw [if_pos rfl] at h5
              have HE := hide (HV2.out.trans (if_pos rfl))
              have H5 := hide h5
              clear HV2 h5
              go_wp2_with fail
              go_roundg (121 - (s.n + 1))
              case measure => omega
              case rel => exact ⟨vone (wordI i.seed i.me) x t, wv5, sv5, H5.out, HT1.out (by first | rfl | trivial), by rw [vone_n, htn.out]; omega, by rw [vone_n, htn.out], by rw [vone_n, htn.out]; exact HE.out.symm⟩
            · rw [if_neg hf] at h5
              have HE := hide (HV2.out.trans (if_neg hf))
              have hfb : (F != 0) = true := by rw [bne_iff_ne]; exact hf
              have c6 := h5.cells.2.2.2.2.2.2
              have f6 := h5.blk.frozen 6
              have H5 := hide (h5.setF F)
              clear HV2 h5 hf
              go_wp2_with fail
              go_ret
              exact ⟨b, gb, wv5, sv5, rfl, by rw [HE.out]; exact H5.out.lower HBW.out⟩
end Go.Proofs.Ytpfcmfannkbipaa
end
