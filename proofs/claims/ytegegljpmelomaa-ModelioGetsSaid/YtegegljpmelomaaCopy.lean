/- The walk of model.Copy. UNDER WAY. -/
import Derived.Test.YtegegljpmelomaaLaw05b
import Derived.Test.YtegegljpmelomaaOwn
import Derived.Test.YtegegljpmelomaaAllocs
set_option linter.unusedVariables false
set_option maxRecDepth 20000
namespace Go.Proofs.Ytegegljpmelomaa
open Go.RowKit Go.Deep

attribute [local go_sem] run_store_float
theorem inf_int : (Try.prog.info? 3).map (fun i => (i.zero, i.size, i.bytes)) = some (some (.int .i64 0), 1, 8) := by kernel_rfl
theorem inf_fl : (Try.prog.info? 22).map (fun i => (i.zero, i.size, i.bytes)) = some (some (.float .f64 0), 1, 8) := by kernel_rfl
theorem inf_ins : (Try.prog.info? 34).map (fun i => (i.zero, i.size, i.bytes)) = some (some (.agg #[.int .i64 0, .int .i64 0, .int .i64 0, .int .i64 0]), 4, 32) := by kernel_rfl
theorem inf_insl : (Try.prog.info? 38).map (fun i => (i.zero, i.size, i.bytes)) = some (some (.slice none 0 0), 1, 24) := by kernel_rfl
theorem inf_lp : (Try.prog.info? 41).map (fun i => (i.zero, i.size, i.bytes)) = some (some (.agg #[.int .i64 0, .slice none 0 0]), 2, 32) := by kernel_rfl
theorem inf_init : (Try.prog.info? 43).map (fun i => (i.zero, i.size, i.bytes)) = some (some (.agg #[.float .f64 0, .int .i64 0, .int .i64 0]), 3, 24) := by kernel_rfl
theorem one_int (x : Int) : ∀ u ∈ encInt x, u.oneCell' = true := by intro u hu; simp [encInt] at hu; subst hu; rfl
theorem one_fl (x : Nat) : ∀ u ∈ encFl x, u.oneCell' = true := by intro u hu; simp [encFl] at hu; subst hu; rfl
theorem one_ins (x : Ins4) : ∀ u ∈ encIns x, u.oneCell' = true := by intro u hu; simp [encIns] at hu; rcases hu with rfl | rfl | rfl | rfl <;> rfl
theorem one_sl {α : Type} (x : Sl α) : ∀ u ∈ encSl x, u.oneCell' = true := by intro u hu; simp [encSl] at hu; subst hu; rfl
theorem one_lp (x : LP2) : ∀ u ∈ encLp x, u.oneCell' = true := by intro u hu; simp [encLp] at hu; rcases hu with rfl | rfl <;> rfl
theorem one_init (x : Init3) : ∀ u ∈ encInit x, u.oneCell' = true := by intro u hu; simp [encInit] at hu; rcases hu with rfl | rfl | rfl <;> rfl

/-- A model of no great size. -/
def Mdl.small (m : Mdl) : Prop := m.dl.L.length ≤ 1000 ∧ m.pl.L.length ≤ 1000 ∧ m.ll.L.length ≤ 1000 ∧ m.il.L.length ≤ 1000 ∧ (∀ s ∈ m.pl.L, s.L.length ≤ 1000) ∧ ∀ x ∈ m.ll.L, x.2.L.length ≤ 1000

/-- How far a copy has come: what lies where. -/
structure CopyS (w : World) (B : Nat) (M : Array Value) (seed : Int) (fin : Nat) (D P L I : Value) (dl : List Nat) (cp : List (Sl Ins4)) (cl : List LP2) (wr : World) : Prop where
  bel : Below w.heap.size w wr
  siz : B ≤ wr.heap.size
  bge : w.heap.size + 1 + 1 < B
  box : Blk wr w.heap.size 28 M
  res : Blk wr (w.heap.size + 1) 28 #[.int .i64 0, .float .f64 0, .slice none 0 0, .slice none 0 0, .slice none 0 0, .slice none 0 0]
  out : Blk wr (w.heap.size + 1 + 1) 28 #[.int .i64 seed, .float .f64 fin, D, P, L, I]
  dls : OwnR 22 1 encFl wr B D dl
  pls : OwnR 38 1 encSl wr B P cp
  ps : ∀ s ∈ cp, OwnR 34 4 encIns wr B s.val s.L
  lls : OwnR 41 2 encLp wr B L cl
  ls : ∀ x ∈ cl, OwnR 3 1 encInt wr B x.2.val x.2.L
section
variable {w wr w' : World} {B : Nat} {M : Array Value} {seed : Int} {fin : Nat} {D P L I : Value} {dl : List Nat} {cp : List (Sl Ins4)} {cl : List LP2}
theorem CopyS.below (h : CopyS w B M seed fin D P L I dl cp cl wr) (hb : Below wr.heap.size wr w') : CopyS w B M seed fin D P L I dl cp cl w' :=
  ⟨below_after h.bel hb, Nat.le_trans h.siz hb.size, h.bge, h.box.below hb h.box.lt, h.res.below hb h.res.lt, h.out.below hb h.out.lt, h.dls.below hb, h.pls.below hb, fun s hs => (h.ps s hs).below hb, h.lls.below hb, fun x hx => (h.ls x hx).below hb⟩
theorem CopyS.drew (h : CopyS w B M seed fin D P L I dl cp cl wr) : CopyS w B M seed fin D P L I dl cp cl wr.drew := h.below (Below.refl _ _).drew
theorem CopyS.draws (h : CopyS w B M seed fin D P L I dl cp cl wr) (n : Nat) : CopyS w B M seed fin D P L I dl cp cl (wr.drewN n) := h.below (below_drewN (Below.refl _ _) n)
/-- A program is appended. -/
theorem CopyS.addP (h : CopyS w B M seed fin D P L I dl cp cl wr) (x : Sl Ins4) (hx : x.At InsAt 4 wr) (hn : x.L.length ≤ 1000) (hc : cp.length ≤ 1000) (ty ty2 : TypeId) :
    ∃ (s : Sl Ins4) (w1 : World) (q : Sl (Sl Ins4)) (w2 : World), s.L = x.L ∧ (Builtin.append_ #[38, 38] ty #[.slice none 0 0, x.val]).run Try.prog wr = .ok s.val w1 ∧
      (Builtin.append_ #[24, 24] ty2 #[P, .slice (some ⟨w1.heap.size, 0, none⟩) 1 1]).run Try.prog (w1.alloc (.cells #[s.val] 38)) = .ok q.val w2 ∧
      q.L = cp ++ [s] ∧ Below wr.heap.size wr w1 ∧ CopyS w B M seed fin D P L I dl cp cl w1 ∧ CopyS w B M seed fin D q.val L I dl (cp ++ [s]) cl (w2.setCell ⟨w.heap.size + 1 + 1, 3, none⟩ q.val) ∧
      w2.cell? ⟨w.heap.size + 1 + 1, 3, none⟩ = some P ∧ w2.frozen? ⟨w.heap.size + 1 + 1, 3, none⟩ = false := by
  obtain ⟨v1, w1, hrun, hown, hext⟩ := run_append_src (P := Try.prog) 34 38 ty 4 32 (.agg #[.int .i64 0, .int .i64 0, .int .i64 0, .int .i64 0]) encIns (by decide) (fun _ => rfl) one_ins Try.underlying38 inf_ins rfl wr B _ (.slice none 0 0) [] x.L x.A x.L.length x.c OwnR.nil
    (hx.1.reads (size := 4) (by decide) (fun _ => rfl) lays_ins) rfl (by simp; omega) (by simp; omega) h.siz
  rw [List.nil_append] at hown
  obtain ⟨s, rfl, hsL, _, _⟩ := hown.form
  have hb1 : Below wr.heap.size wr w1 := hext.below (Nat.le_refl _) (by simp [Value.ownBlock])
  have h1 := h.below hb1
  obtain ⟨v2, w2, hrun2, hown2, hext2⟩ := run_append_one (P := Try.prog) 38 24 ty2 1 24 (.slice none 0 0) encSl (by decide) (fun _ => rfl) one_sl Try.underlying24 inf_insl rfl w1 B P cp s #[s.val] rfl h1.pls (by omega) (by omega) h1.siz
  obtain ⟨q, rfl, hqL, _, _⟩ := hown2.form
  have hg := hext2.1
  have hB1 := h.bge
  have hblk : ∀ {g : Nat} {cs : Array Value}, Blk w1 g 28 cs → g < B → Blk w2 g 28 cs := fun hb hlt => OwnR.blk h1.pls hb hlt hg
  have o2 := hblk h1.out (by omega)
  refine ⟨s, w1, q, w2, hsL, hrun, hrun2, hqL, hb1, h1, ⟨?_, ?_, h.bge, ?_, ?_, ?_, ?_, ?_, ?_, ?_, ?_⟩, o2.cell 3, o2.frozen 3⟩
  · refine Below.setCell ?_ (by simp only; omega) _
    exact (h1.bel.trans ((Below.refl w.heap.size w1).grown hg (Nat.le_trans (by omega) h1.siz) fun k hk => Nat.le_trans (by omega) (h1.pls.base k hk)))
  · simpa [World.setCell] using Nat.le_trans h1.siz hg.size
  · exact (hblk h1.box (by omega)).far (p := ⟨w.heap.size + 1 + 1, 3, none⟩) (by simp only; omega) _
  · exact (hblk h1.res (by omega)).far (p := ⟨w.heap.size + 1 + 1, 3, none⟩) (by simp only; omega) _
  · have := o2.set_ 3 q.val
    simpa using this
  · exact (h1.dls.other h1.pls (by decide) hg).setCell (by simp only; omega) _
  · exact hown2.setCell (by simp only; omega) _
  · intro t ht
    rcases List.mem_append.1 ht with ht | ht
    · exact ((h1.ps t ht).other h1.pls (by decide) hg).setCell (by simp only; omega) _
    · have e : t = s := by simpa using ht
      subst e
      rw [hsL]
      exact (hown.other h1.pls (by decide) hg).setCell (by simp only; omega) _
  · exact (h1.lls.other h1.pls (by decide) hg).setCell (by simp only; omega) _
  · exact fun t ht => ((h1.ls t ht).other h1.pls (by decide) hg).setCell (by simp only; omega) _
/-- A process is appended. -/
theorem CopyS.addL (h : CopyS w B M seed fin D P L I dl cp cl wr) (p : Int) (x : Sl Int) (hx : x.At IntAt 1 wr) (hn : x.L.length ≤ 1000) (hc : cl.length ≤ 1000) (ty ty2 : TypeId) :
    ∃ (s : Sl Int) (w1 : World) (q : Sl LP2) (w2 : World), s.L = x.L ∧ (Builtin.append_ #[39, 39] ty #[.slice none 0 0, x.val]).run Try.prog wr = .ok s.val w1 ∧
      (Builtin.append_ #[25, 25] ty2 #[L, .slice (some ⟨w1.heap.size, 0, none⟩) 1 1]).run Try.prog (w1.alloc (.cells #[.int .i64 p, s.val] 41)) = .ok q.val w2 ∧
      q.L = cl ++ [(p, s)] ∧ Below wr.heap.size wr w1 ∧ CopyS w B M seed fin D P L I dl cp cl w1 ∧ CopyS w B M seed fin D P q.val I dl cp (cl ++ [(p, s)]) (w2.setCell ⟨w.heap.size + 1 + 1, 4, none⟩ q.val) ∧
      w2.cell? ⟨w.heap.size + 1 + 1, 4, none⟩ = some L ∧ w2.frozen? ⟨w.heap.size + 1 + 1, 4, none⟩ = false := by
  obtain ⟨v1, w1, hrun, hown, hext⟩ := run_append_src (P := Try.prog) 3 39 ty 1 8 (.int .i64 0) encInt (by decide) (fun _ => rfl) one_int Try.underlying39 inf_int rfl wr B _ (.slice none 0 0) [] x.L x.A x.L.length x.c OwnR.nil
    (hx.1.reads (size := 1) (by decide) (fun _ => rfl) lays_int) rfl (by simp; omega) (by simp; omega) h.siz
  rw [List.nil_append] at hown
  obtain ⟨s, rfl, hsL, _, _⟩ := hown.form
  have hb1 : Below wr.heap.size wr w1 := hext.below (Nat.le_refl _) (by simp [Value.ownBlock])
  have h1 := h.below hb1
  obtain ⟨v2, w2, hrun2, hown2, hext2⟩ := run_append_one (P := Try.prog) 41 25 ty2 2 32 (.agg #[.int .i64 0, .slice none 0 0]) encLp (by decide) (fun _ => rfl) one_lp Try.underlying25 inf_lp rfl w1 B L cl (p, s) #[.int .i64 p, s.val] rfl h1.lls (by omega) (by omega) h1.siz
  obtain ⟨q, rfl, hqL, _, _⟩ := hown2.form
  have hg := hext2.1
  have hB1 := h.bge
  have hblk : ∀ {g : Nat} {cs : Array Value}, Blk w1 g 28 cs → g < B → Blk w2 g 28 cs := fun hb hlt => OwnR.blk h1.lls hb hlt hg
  have o2 := hblk h1.out (by omega)
  refine ⟨s, w1, q, w2, hsL, hrun, hrun2, hqL, hb1, h1, ⟨?_, ?_, h.bge, ?_, ?_, ?_, ?_, ?_, ?_, ?_, ?_⟩, o2.cell 4, o2.frozen 4⟩
  · refine Below.setCell ?_ (by simp only; omega) _
    exact (h1.bel.trans ((Below.refl w.heap.size w1).grown hg (Nat.le_trans (by omega) h1.siz) fun k hk => Nat.le_trans (by omega) (h1.lls.base k hk)))
  · simpa [World.setCell] using Nat.le_trans h1.siz hg.size
  · exact (hblk h1.box (by omega)).far (p := ⟨w.heap.size + 1 + 1, 4, none⟩) (by simp only; omega) _
  · exact (hblk h1.res (by omega)).far (p := ⟨w.heap.size + 1 + 1, 4, none⟩) (by simp only; omega) _
  · have := o2.set_ 4 q.val
    simpa using this
  · exact (h1.dls.other h1.lls (by decide) hg).setCell (by simp only; omega) _
  · exact (h1.pls.other h1.lls (by decide) hg).setCell (by simp only; omega) _
  · exact fun t ht => ((h1.ps t ht).other h1.lls (by decide) hg).setCell (by simp only; omega) _
  · exact hown2.setCell (by simp only; omega) _
  · intro t ht
    rcases List.mem_append.1 ht with ht | ht
    · exact ((h1.ls t ht).other h1.lls (by decide) hg).setCell (by simp only; omega) _
    · have e : t = (p, s) := by simpa using ht
      subst e
      show OwnR 3 1 encInt _ B s.val s.L
      rw [hsL]
      exact (hown.other h1.lls (by decide) hg).setCell (by simp only; omega) _
/-- The delays, copied at first. -/
theorem copy_begin (w : World) (M : Array Value) (seed : Int) (fin : Nat) (x : Sl Nat) (hx : x.At FlAt 1 w) (hn : x.L.length ≤ 1000) (ty : TypeId) (w0 : World) (hw0 : w0 = allocs w [(M, 28), (#[.int .i64 0, .float .f64 0, .slice none 0 0, .slice none 0 0, .slice none 0 0, .slice none 0 0], 28), (#[.int .i64 seed, .float .f64 fin, .slice none 0 0, .slice none 0 0, .slice none 0 0, .slice none 0 0], 28)]) :
    ∃ (q : Sl Nat) (w1 : World), q.L = x.L ∧ (Builtin.append_ #[23, 23] ty #[.slice none 0 0, x.val]).run Try.prog w0 = .ok q.val w1 ∧
      CopyS w (w.heap.size + 3) M seed fin q.val (.slice none 0 0) (.slice none 0 0) (.slice none 0 0) x.L [] [] (w1.setCell ⟨w.heap.size + 1 + 1, 2, none⟩ q.val) ∧
      w1.cell? ⟨w.heap.size + 1 + 1, 2, none⟩ = some (.slice none 0 0) ∧ w1.frozen? ⟨w.heap.size + 1 + 1, 2, none⟩ = false := by
  have hb0 := allocs_below [(M, 28), (#[.int .i64 0, .float .f64 0, .slice none 0 0, .slice none 0 0, .slice none 0 0, .slice none 0 0], 28), (#[.int .i64 seed, .float .f64 fin, .slice none 0 0, .slice none 0 0, .slice none 0 0, .slice none 0 0], 28)] w
  have hz0 := allocs_size [(M, 28), (#[.int .i64 0, .float .f64 0, .slice none 0 0, .slice none 0 0, .slice none 0 0, .slice none 0 0], 28), (#[.int .i64 seed, .float .f64 fin, .slice none 0 0, .slice none 0 0, .slice none 0 0, .slice none 0 0], 28)] w
  have hB0 := allocs_blk [(M, 28), (#[.int .i64 0, .float .f64 0, .slice none 0 0, .slice none 0 0, .slice none 0 0, .slice none 0 0], 28), (#[.int .i64 seed, .float .f64 fin, .slice none 0 0, .slice none 0 0, .slice none 0 0, .slice none 0 0], 28)] w
  rw [← hw0] at hb0 hz0 hB0
  simp only [List.length_cons, List.length_nil] at hz0
  have b0 : Blk w0 w.heap.size _ _ := hB0 0 _ rfl
  have b1 : Blk w0 (w.heap.size + 1) _ _ := hB0 1 _ rfl
  have b2 : Blk w0 (w.heap.size + 1 + 1) _ _ := hB0 2 _ rfl
  obtain ⟨v1, w1, hrun, hown, hext⟩ := run_append_src (P := Try.prog) 22 23 ty 1 8 (.float .f64 0) encFl (by decide) (fun _ => rfl) one_fl Try.underlying23 inf_fl rfl w0 (w.heap.size + 3) _ (.slice none 0 0) [] x.L x.A x.L.length x.c OwnR.nil
    ((hx.1.below FlAt.keeps hb0).reads (size := 1) (by decide) (fun _ => rfl) lays_fl) rfl (by simp; omega) (by simp; omega) (by omega)
  rw [List.nil_append] at hown
  obtain ⟨q, rfl, hL, _, _⟩ := hown.form
  have hb1 := hext.below hb0.size (by simp [Value.ownBlock])
  have b0 := b0.grown hext.1 (by simp [Value.ownBlock])
  have b1 := b1.grown hext.1 (by simp [Value.ownBlock])
  have b2 := b2.grown hext.1 (by simp [Value.ownBlock])
  refine ⟨q, w1, hL, hrun, ⟨?_, ?_, by omega, ?_, ?_, ?_, ?_, ?_, ?_, ?_, ?_⟩, b2.cell 2, b2.frozen 2⟩
  · exact (hb0.trans hb1).setCell (by simp only; omega) _
  · have := hext.1.size
    simp [World.setCell]
    omega
  · exact b0.far (p := ⟨w.heap.size + 1 + 1, 2, none⟩) (by simp only; omega) _
  · exact b1.far (p := ⟨w.heap.size + 1 + 1, 2, none⟩) (by simp only; omega) _
  · have := b2.set_ 2 q.val
    simpa using this
  · exact hown.setCell (by simp only; omega) _
  · exact OwnR.nil
  · simp
  · exact OwnR.nil
  · simp
/-- The events at first, copied at last. -/
theorem CopyS.addI (h : CopyS w B M seed fin D P L I dl cp cl wr) (x : Sl Init3) (hx : x.At InitAt 3 wr) (hn : x.L.length ≤ 1000) (ty : TypeId) :
    ∃ (q : Sl Init3) (w1 : World), q.L = x.L ∧ (Builtin.append_ #[26, 26] ty #[.slice none 0 0, x.val]).run Try.prog wr = .ok q.val w1 ∧
      CopyS w B M seed fin D P L q.val dl cp cl (w1.setCell ⟨w.heap.size + 1 + 1, 5, none⟩ q.val) ∧ OwnR 43 3 encInit (w1.setCell ⟨w.heap.size + 1 + 1, 5, none⟩ q.val) B q.val x.L ∧
      w1.cell? ⟨w.heap.size + 1 + 1, 5, none⟩ = some I ∧ w1.frozen? ⟨w.heap.size + 1 + 1, 5, none⟩ = false := by
  obtain ⟨v1, w1, hrun, hown, hext⟩ := run_append_src (P := Try.prog) 43 26 ty 3 24 (.agg #[.float .f64 0, .int .i64 0, .int .i64 0]) encInit (by decide) (fun _ => rfl) one_init Try.underlying26 inf_init rfl wr B _ (.slice none 0 0) [] x.L x.A x.L.length x.c OwnR.nil
    (hx.1.reads (size := 3) (by decide) (fun _ => rfl) lays_init) rfl (by simp; omega) (by simp; omega) h.siz
  rw [List.nil_append] at hown
  obtain ⟨q, rfl, hL, _, _⟩ := hown.form
  have hb1 : Below wr.heap.size wr w1 := hext.below (Nat.le_refl _) (by simp [Value.ownBlock])
  have h1 := h.below hb1
  have hB1 := h.bge
  refine ⟨q, w1, hL, hrun, ⟨?_, ?_, h.bge, ?_, ?_, ?_, ?_, ?_, ?_, ?_, ?_⟩, ?_, h1.out.cell 5, h1.out.frozen 5⟩
  · exact h1.bel.setCell (by simp only; omega) _
  · simpa [World.setCell] using h1.siz
  · exact h1.box.far (p := ⟨w.heap.size + 1 + 1, 5, none⟩) (by simp only; omega) _
  · exact h1.res.far (p := ⟨w.heap.size + 1 + 1, 5, none⟩) (by simp only; omega) _
  · have := h1.out.set_ 5 q.val
    simpa using this
  · exact h1.dls.setCell (by simp only; omega) _
  · exact h1.pls.setCell (by simp only; omega) _
  · exact fun t ht => (h1.ps t ht).setCell (by simp only; omega) _
  · exact h1.lls.setCell (by simp only; omega) _
  · exact fun t ht => (h1.ls t ht).setCell (by simp only; omega) _
  · exact hown.setCell (by simp only; omega) _
end
end Go.Proofs.Ytegegljpmelomaa
