/- Texts of this claim in one. No condition. -/
import Derived.Test.YtpfcmfannkbipaaJ06
import Derived.Test.YtpfcmfannkbipaaJ13
import Derived.Test.YtpfcmfannkbipaaJ20
section
set_option linter.unusedVariables false
set_option linter.unusedSimpArgs false
set_option maxRecDepth 20000
namespace Go.Proofs.Ytpfcmfannkbipaa
open Go.RowKit Go.Deep

attribute [local go_sem] run_store_float
theorem inf_fl : (Try.prog.info? 27).map (fun i => (i.zero, i.size, i.bytes)) = some (some (.float .f64 0), 1, 8) := by kernel_rfl
theorem inf_ins : (Try.prog.info? 142).map (fun i => (i.zero, i.size, i.bytes)) = some (some (.agg #[.int .i64 0, .int .i64 0, .int .i64 0, .int .i64 0]), 4, 32) := by kernel_rfl
theorem inf_insl : (Try.prog.info? 118).map (fun i => (i.zero, i.size, i.bytes)) = some (some (.slice none 0 0), 1, 24) := by kernel_rfl
theorem inf_lp : (Try.prog.info? 120).map (fun i => (i.zero, i.size, i.bytes)) = some (some (.agg #[.int .i64 0, .slice none 0 0]), 2, 32) := by kernel_rfl
theorem inf_init : (Try.prog.info? 125).map (fun i => (i.zero, i.size, i.bytes)) = some (some (.agg #[.float .f64 0, .int .i64 0, .int .i64 0]), 3, 24) := by kernel_rfl
theorem one_fl (x : Nat) : ∀ u ∈ encFl x, u.oneCell' = true := by intro u hu; simp [encFl] at hu; subst hu; rfl
theorem one_ins (x : Ins4) : ∀ u ∈ encIns x, u.oneCell' = true := by intro u hu; simp [encIns] at hu; rcases hu with rfl | rfl | rfl | rfl <;> rfl
theorem one_sl {α : Type} (x : Sl α) : ∀ u ∈ encSl x, u.oneCell' = true := by intro u hu; simp [encSl] at hu; subst hu; rfl
theorem one_lp (x : LP2) : ∀ u ∈ encLp x, u.oneCell' = true := by intro u hu; simp [encLp] at hu; rcases hu with rfl | rfl <;> rfl
theorem one_init (x : Init3) : ∀ u ∈ encInit x, u.oneCell' = true := by intro u hu; simp [encInit] at hu; rcases hu with rfl | rfl | rfl <;> rfl

/-- A model of no great size. -/
def Mdl.small (m : Mdl) : Prop := m.dl.L.length ≤ 1000 ∧ m.pl.L.length ≤ 1000 ∧ m.ll.L.length ≤ 1000 ∧ m.il.L.length ≤ 1000 ∧ (∀ s ∈ m.pl.L, s.L.length ≤ 1000) ∧ ∀ x ∈ m.ll.L, x.2.L.length ≤ 1000

/-- How far a copy has come: what lies where. -/
structure CopyS (w : World) (B : Nat) (M : Array Value) (seed : Int) (fin : Nat) (D P L I : Value) (dl : List Nat) (cp : List (Sl Ins4)) (cl : List LP2) (wr : World) : Prop where
  bel : Below w.heap.size w wr
  siz : B ≤ wr.heap.size
  bge : w.heap.size + 1 + 1 < B
  box : Blk wr w.heap.size 58 M
  res : Blk wr (w.heap.size + 1) 58 #[.int .i64 0, .float .f64 0, .slice none 0 0, .slice none 0 0, .slice none 0 0, .slice none 0 0]
  out : Blk wr (w.heap.size + 1 + 1) 58 #[.int .i64 seed, .float .f64 fin, D, P, L, I]
  dls : OwnR 27 1 encFl wr B D dl
  pls : OwnR 118 1 encSl wr B P cp
  ps : ∀ s ∈ cp, OwnR 142 4 encIns wr B s.val s.L
  lls : OwnR 120 2 encLp wr B L cl
  ls : ∀ x ∈ cl, OwnR 3 1 encInt wr B x.2.val x.2.L
section
variable {w wr w' : World} {B : Nat} {M : Array Value} {seed : Int} {fin : Nat} {D P L I : Value} {dl : List Nat} {cp : List (Sl Ins4)} {cl : List LP2}
theorem CopyS.below (h : CopyS w B M seed fin D P L I dl cp cl wr) (hb : Below wr.heap.size wr w') : CopyS w B M seed fin D P L I dl cp cl w' :=
  ⟨below_after h.bel hb, Nat.le_trans h.siz hb.size, h.bge, h.box.below hb h.box.lt, h.res.below hb h.res.lt, h.out.below hb h.out.lt, h.dls.below hb, h.pls.below hb, fun s hs => (h.ps s hs).below hb, h.lls.below hb, fun x hx => (h.ls x hx).below hb⟩
theorem CopyS.drew (h : CopyS w B M seed fin D P L I dl cp cl wr) : CopyS w B M seed fin D P L I dl cp cl wr.drew := h.below (Below.refl _ _).drew
theorem CopyS.draws (h : CopyS w B M seed fin D P L I dl cp cl wr) (n : Nat) : CopyS w B M seed fin D P L I dl cp cl (wr.drewN n) := h.below (below_drewN (Below.refl _ _) n)
/-- A program is appended. -/
theorem CopyS.addP (h : CopyS w B M seed fin D P L I dl cp cl wr) (x : Sl Ins4) (hx : x.At InsAt 4 wr) (hn : x.L.length ≤ 1000) (hc : cp.length ≤ 1000) (ty ty2 : TypeId) :
    ∃ (s : Sl Ins4) (w1 : World) (q : Sl (Sl Ins4)) (w2 : World), s.L = x.L ∧ (Builtin.append_ #[118, 118] ty #[.slice none 0 0, x.val]).run Try.prog wr = .ok s.val w1 ∧
      (Builtin.append_ #[54, 54] ty2 #[P, .slice (some ⟨w1.heap.size, 0, none⟩) 1 1]).run Try.prog (w1.alloc (.cells #[s.val] 118)) = .ok q.val w2 ∧
      q.L = cp ++ [s] ∧ Below wr.heap.size wr w1 ∧ CopyS w B M seed fin D P L I dl cp cl w1 ∧ CopyS w B M seed fin D q.val L I dl (cp ++ [s]) cl (w2.setCell ⟨w.heap.size + 1 + 1, 3, none⟩ q.val) ∧
      w2.cell? ⟨w.heap.size + 1 + 1, 3, none⟩ = some P ∧ w2.frozen? ⟨w.heap.size + 1 + 1, 3, none⟩ = false := by
  obtain ⟨v1, w1, hrun, hown, hext⟩ := run_append_src (P := Try.prog) 142 118 ty 4 32 (.agg #[.int .i64 0, .int .i64 0, .int .i64 0, .int .i64 0]) encIns (by decide) (fun _ => rfl) one_ins Try.underlying118 inf_ins rfl wr B _ (.slice none 0 0) [] x.L x.A x.L.length x.c OwnR.nil
    (hx.1.reads (size := 4) (by decide) (fun _ => rfl) lays_ins) rfl (by simp; omega) (by simp; omega) h.siz
  rw [List.nil_append] at hown
  obtain ⟨s, rfl, hsL, _, _⟩ := hown.form
  have hb1 : Below wr.heap.size wr w1 := hext.below (Nat.le_refl _) (by simp [Value.ownBlock])
  have h1 := h.below hb1
  obtain ⟨v2, w2, hrun2, hown2, hext2⟩ := run_append_one (P := Try.prog) 118 54 ty2 1 24 (.slice none 0 0) encSl (by decide) (fun _ => rfl) one_sl Try.underlying54 inf_insl rfl w1 B P cp s #[s.val] rfl h1.pls (by omega) (by omega) h1.siz
  obtain ⟨q, rfl, hqL, _, _⟩ := hown2.form
  have hg := hext2.1
  have hB1 := h.bge
  have hblk : ∀ {g : Nat} {cs : Array Value}, Blk w1 g 58 cs → g < B → Blk w2 g 58 cs := fun hb hlt => OwnR.blk h1.pls hb hlt hg
  have o2 := hblk h1.out (by omega)
  refine ⟨s, w1, q, w2, hsL, hrun, hrun2, hqL, hb1, h1, ⟨?_, ?_, h.bge, ?_, ?_, ?_, ?_, ?_, ?_, ?_, ?_⟩, o2.cell 3, o2.frozen 3⟩
  · refine Below.setCell ?_ (by simp only; omega) _
    exact (h1.bel.trans ((Below.refl w.heap.size w1).grown hg (Nat.le_trans (by omega) h1.siz) fun k hk => Nat.le_trans (by omega) (h1.pls.base k hk)))
  · simpa [World.setCell] using Nat.le_trans h1.siz hg.size
  · exact (hblk h1.box (by omega)).far (p := ⟨w.heap.size + 1 + 1, 3, none⟩) (by simp only; omega) _
  · exact (hblk h1.res (by omega)).far (p := ⟨w.heap.size + 1 + 1, 3, none⟩) (by simp only; omega) _
  · have := o2.set_ 3 q.val
    simpa using this
  · exact (h1.dls.other h1.pls (by decide) hg).setCell (by simp only; omega) _
  · exact hown2.setCell (by simp only; omega) _
  · intro t ht
    rcases List.mem_append.1 ht with ht | ht
    · exact ((h1.ps t ht).other h1.pls (by decide) hg).setCell (by simp only; omega) _
    · have e : t = s := by simpa using ht
      subst e
      rw [hsL]
      exact (hown.other h1.pls (by decide) hg).setCell (by simp only; omega) _
  · exact (h1.lls.other h1.pls (by decide) hg).setCell (by simp only; omega) _
  · exact fun t ht => ((h1.ls t ht).other h1.pls (by decide) hg).setCell (by simp only; omega) _
/-- A process is appended. -/
theorem CopyS.addL (h : CopyS w B M seed fin D P L I dl cp cl wr) (p : Int) (x : Sl Int) (hx : x.At IntAt 1 wr) (hn : x.L.length ≤ 1000) (hc : cl.length ≤ 1000) (ty ty2 : TypeId) :
    ∃ (s : Sl Int) (w1 : World) (q : Sl LP2) (w2 : World), s.L = x.L ∧ (Builtin.append_ #[59, 59] ty #[.slice none 0 0, x.val]).run Try.prog wr = .ok s.val w1 ∧
      (Builtin.append_ #[55, 55] ty2 #[L, .slice (some ⟨w1.heap.size, 0, none⟩) 1 1]).run Try.prog (w1.alloc (.cells #[.int .i64 p, s.val] 120)) = .ok q.val w2 ∧
      q.L = cl ++ [(p, s)] ∧ Below wr.heap.size wr w1 ∧ CopyS w B M seed fin D P L I dl cp cl w1 ∧ CopyS w B M seed fin D P q.val I dl cp (cl ++ [(p, s)]) (w2.setCell ⟨w.heap.size + 1 + 1, 4, none⟩ q.val) ∧
      w2.cell? ⟨w.heap.size + 1 + 1, 4, none⟩ = some L ∧ w2.frozen? ⟨w.heap.size + 1 + 1, 4, none⟩ = false := by
  obtain ⟨v1, w1, hrun, hown, hext⟩ := run_append_src (P := Try.prog) 3 59 ty 1 8 (.int .i64 0) encInt (by decide) (fun _ => rfl) one_int Try.underlying59 inf_int rfl wr B _ (.slice none 0 0) [] x.L x.A x.L.length x.c OwnR.nil
    (hx.1.reads (size := 1) (by decide) (fun _ => rfl) lays_int) rfl (by simp; omega) (by simp; omega) h.siz
  rw [List.nil_append] at hown
  obtain ⟨s, rfl, hsL, _, _⟩ := hown.form
  have hb1 : Below wr.heap.size wr w1 := hext.below (Nat.le_refl _) (by simp [Value.ownBlock])
  have h1 := h.below hb1
  obtain ⟨v2, w2, hrun2, hown2, hext2⟩ := run_append_one (P := Try.prog) 120 55 ty2 2 32 (.agg #[.int .i64 0, .slice none 0 0]) encLp (by decide) (fun _ => rfl) one_lp Try.underlying55 inf_lp rfl w1 B L cl (p, s) #[.int .i64 p, s.val] rfl h1.lls (by omega) (by omega) h1.siz
  obtain ⟨q, rfl, hqL, _, _⟩ := hown2.form
  have hg := hext2.1
  have hB1 := h.bge
  have hblk : ∀ {g : Nat} {cs : Array Value}, Blk w1 g 58 cs → g < B → Blk w2 g 58 cs := fun hb hlt => OwnR.blk h1.lls hb hlt hg
  have o2 := hblk h1.out (by omega)
  refine ⟨s, w1, q, w2, hsL, hrun, hrun2, hqL, hb1, h1, ⟨?_, ?_, h.bge, ?_, ?_, ?_, ?_, ?_, ?_, ?_, ?_⟩, o2.cell 4, o2.frozen 4⟩
  · refine Below.setCell ?_ (by simp only; omega) _
    exact (h1.bel.trans ((Below.refl w.heap.size w1).grown hg (Nat.le_trans (by omega) h1.siz) fun k hk => Nat.le_trans (by omega) (h1.lls.base k hk)))
  · simpa [World.setCell] using Nat.le_trans h1.siz hg.size
  · exact (hblk h1.box (by omega)).far (p := ⟨w.heap.size + 1 + 1, 4, none⟩) (by simp only; omega) _
  · exact (hblk h1.res (by omega)).far (p := ⟨w.heap.size + 1 + 1, 4, none⟩) (by simp only; omega) _
  · have := o2.set_ 4 q.val
    simpa using this
  · exact (h1.dls.other h1.lls (by decide) hg).setCell (by simp only; omega) _
  · exact (h1.pls.other h1.lls (by decide) hg).setCell (by simp only; omega) _
  · exact fun t ht => ((h1.ps t ht).other h1.lls (by decide) hg).setCell (by simp only; omega) _
  · exact hown2.setCell (by simp only; omega) _
  · intro t ht
    rcases List.mem_append.1 ht with ht | ht
    · exact ((h1.ls t ht).other h1.lls (by decide) hg).setCell (by simp only; omega) _
    · have e : t = (p, s) := by simpa using ht
      subst e
      show OwnR 3 1 encInt _ B s.val s.L
      rw [hsL]
      exact (hown.other h1.lls (by decide) hg).setCell (by simp only; omega) _
/-- The delays, copied at first. -/
theorem copy_begin (w : World) (M : Array Value) (seed : Int) (fin : Nat) (x : Sl Nat) (hx : x.At FlAt 1 w) (hn : x.L.length ≤ 1000) (ty : TypeId) (w0 : World) (hw0 : w0 = allocs w [(M, 58), (#[.int .i64 0, .float .f64 0, .slice none 0 0, .slice none 0 0, .slice none 0 0, .slice none 0 0], 58), (#[.int .i64 seed, .float .f64 fin, .slice none 0 0, .slice none 0 0, .slice none 0 0, .slice none 0 0], 58)]) :
    ∃ (q : Sl Nat) (w1 : World), q.L = x.L ∧ (Builtin.append_ #[53, 53] ty #[.slice none 0 0, x.val]).run Try.prog w0 = .ok q.val w1 ∧
      CopyS w (w.heap.size + 3) M seed fin q.val (.slice none 0 0) (.slice none 0 0) (.slice none 0 0) x.L [] [] (w1.setCell ⟨w.heap.size + 1 + 1, 2, none⟩ q.val) ∧
      w1.cell? ⟨w.heap.size + 1 + 1, 2, none⟩ = some (.slice none 0 0) ∧ w1.frozen? ⟨w.heap.size + 1 + 1, 2, none⟩ = false := by
  have hb0 := allocs_below [(M, 58), (#[.int .i64 0, .float .f64 0, .slice none 0 0, .slice none 0 0, .slice none 0 0, .slice none 0 0], 58), (#[.int .i64 seed, .float .f64 fin, .slice none 0 0, .slice none 0 0, .slice none 0 0, .slice none 0 0], 58)] w
  have hz0 := allocs_size [(M, 58), (#[.int .i64 0, .float .f64 0, .slice none 0 0, .slice none 0 0, .slice none 0 0, .slice none 0 0], 58), (#[.int .i64 seed, .float .f64 fin, .slice none 0 0, .slice none 0 0, .slice none 0 0, .slice none 0 0], 58)] w
  have hB0 := allocs_blk [(M, 58), (#[.int .i64 0, .float .f64 0, .slice none 0 0, .slice none 0 0, .slice none 0 0, .slice none 0 0], 58), (#[.int .i64 seed, .float .f64 fin, .slice none 0 0, .slice none 0 0, .slice none 0 0, .slice none 0 0], 58)] w
  rw [← hw0] at hb0 hz0 hB0
  simp only [List.length_cons, List.length_nil] at hz0
  have b0 : Blk w0 w.heap.size _ _ := hB0 0 _ rfl
  have b1 : Blk w0 (w.heap.size + 1) _ _ := hB0 1 _ rfl
  have b2 : Blk w0 (w.heap.size + 1 + 1) _ _ := hB0 2 _ rfl
  obtain ⟨v1, w1, hrun, hown, hext⟩ := run_append_src (P := Try.prog) 27 53 ty 1 8 (.float .f64 0) encFl (by decide) (fun _ => rfl) one_fl Try.underlying53 inf_fl rfl w0 (w.heap.size + 3) _ (.slice none 0 0) [] x.L x.A x.L.length x.c OwnR.nil
    ((hx.1.below FlAt.keeps hb0).reads (size := 1) (by decide) (fun _ => rfl) lays_fl) rfl (by simp; omega) (by simp; omega) (by omega)
  rw [List.nil_append] at hown
  obtain ⟨q, rfl, hL, _, _⟩ := hown.form
  have hb1 := hext.below hb0.size (by simp [Value.ownBlock])
  have b0 := b0.grown hext.1 (by simp [Value.ownBlock])
  have b1 := b1.grown hext.1 (by simp [Value.ownBlock])
  have b2 := b2.grown hext.1 (by simp [Value.ownBlock])
  refine ⟨q, w1, hL, hrun, ⟨?_, ?_, by omega, ?_, ?_, ?_, ?_, ?_, ?_, ?_, ?_⟩, b2.cell 2, b2.frozen 2⟩
  · exact (hb0.trans hb1).setCell (by simp only; omega) _
  · have := hext.1.size
    simp [World.setCell]
    omega
  · exact b0.far (p := ⟨w.heap.size + 1 + 1, 2, none⟩) (by simp only; omega) _
  · exact b1.far (p := ⟨w.heap.size + 1 + 1, 2, none⟩) (by simp only; omega) _
  · have := b2.set_ 2 q.val
    simpa using this
  · exact hown.setCell (by simp only; omega) _
  · exact OwnR.nil
  · simp
  · exact OwnR.nil
  · simp
/-- The events at first, copied at last. -/
theorem CopyS.addI (h : CopyS w B M seed fin D P L I dl cp cl wr) (x : Sl Init3) (hx : x.At InitAt 3 wr) (hn : x.L.length ≤ 1000) (ty : TypeId) :
    ∃ (q : Sl Init3) (w1 : World), q.L = x.L ∧ (Builtin.append_ #[56, 56] ty #[.slice none 0 0, x.val]).run Try.prog wr = .ok q.val w1 ∧
      CopyS w B M seed fin D P L q.val dl cp cl (w1.setCell ⟨w.heap.size + 1 + 1, 5, none⟩ q.val) ∧ OwnR 125 3 encInit (w1.setCell ⟨w.heap.size + 1 + 1, 5, none⟩ q.val) B q.val x.L ∧
      w1.cell? ⟨w.heap.size + 1 + 1, 5, none⟩ = some I ∧ w1.frozen? ⟨w.heap.size + 1 + 1, 5, none⟩ = false := by
  obtain ⟨v1, w1, hrun, hown, hext⟩ := run_append_src (P := Try.prog) 125 56 ty 3 24 (.agg #[.float .f64 0, .int .i64 0, .int .i64 0]) encInit (by decide) (fun _ => rfl) one_init Try.underlying56 inf_init rfl wr B _ (.slice none 0 0) [] x.L x.A x.L.length x.c OwnR.nil
    (hx.1.reads (size := 3) (by decide) (fun _ => rfl) lays_init) rfl (by simp; omega) (by simp; omega) h.siz
  rw [List.nil_append] at hown
  obtain ⟨q, rfl, hL, _, _⟩ := hown.form
  have hb1 : Below wr.heap.size wr w1 := hext.below (Nat.le_refl _) (by simp [Value.ownBlock])
  have h1 := h.below hb1
  have hB1 := h.bge
  refine ⟨q, w1, hL, hrun, ⟨?_, ?_, h.bge, ?_, ?_, ?_, ?_, ?_, ?_, ?_, ?_⟩, ?_, h1.out.cell 5, h1.out.frozen 5⟩
  · exact h1.bel.setCell (by simp only; omega) _
  · simpa [World.setCell] using h1.siz
  · exact h1.box.far (p := ⟨w.heap.size + 1 + 1, 5, none⟩) (by simp only; omega) _
  · exact h1.res.far (p := ⟨w.heap.size + 1 + 1, 5, none⟩) (by simp only; omega) _
  · have := h1.out.set_ 5 q.val
    simpa using this
  · exact h1.dls.setCell (by simp only; omega) _
  · exact h1.pls.setCell (by simp only; omega) _
  · exact fun t ht => (h1.ps t ht).setCell (by simp only; omega) _
  · exact h1.lls.setCell (by simp only; omega) _
  · exact fun t ht => (h1.ls t ht).setCell (by simp only; omega) _
  · exact hown.setCell (by simp only; omega) _
end
open Go.RowKit Go.Deep

attribute [local go_sem] run_store_float
/-- A model in memory of the call's own. -/
structure OwnM (B : Nat) (c : Mdl) (w : World) : Prop where
  dls : OwnR 27 1 encFl w B c.dl.val c.dl.L
  pls : OwnR 118 1 encSl w B c.pl.val c.pl.L
  ps : ∀ s ∈ c.pl.L, OwnR 142 4 encIns w B s.val s.L
  lls : OwnR 120 2 encLp w B c.ll.val c.ll.L
  ls : ∀ x ∈ c.ll.L, OwnR 3 1 encInt w B x.2.val x.2.L
  ils : OwnR 125 3 encInit w B c.il.val c.il.L
/-- What a model holds, wherever it lies. -/
structure SameCon (c m : Mdl) : Prop where
  seed : c.seed = m.seed
  fin : c.fin = m.fin
  dl : c.dl.L = m.dl.L
  pl : c.pl.L.map (·.L) = m.pl.L.map (·.L)
  ll : c.ll.L.map (fun x => (x.1, x.2.L)) = m.ll.L.map (fun x => (x.1, x.2.L))
  il : c.il.L = m.il.L
theorem OwnM.setCell {B : Nat} {c : Mdl} {w : World} (h : OwnM B c w) {p : Addr} (hp : p.block < B) (u : Value) : OwnM B c (w.setCell p u) :=
  ⟨h.dls.setCell hp u, h.pls.setCell hp u, fun s hs => (h.ps s hs).setCell hp u, h.lls.setCell hp u, fun x hx => (h.ls x hx).setCell hp u, h.ils.setCell hp u⟩
theorem OwnM.below {B : Nat} {c : Mdl} {w w' : World} (h : OwnM B c w) (hb : Below w.heap.size w w') : OwnM B c w' :=
  ⟨h.dls.below hb, h.pls.below hb, fun s hs => (h.ps s hs).below hb, h.lls.below hb, fun x hx => (h.ls x hx).below hb, h.ils.below hb⟩
def Copied (w : World) (m : Mdl) (e : Ending) (w' : World) : Prop := ∃ c : Mdl, e = .returned c.val ∧ SameCon c m ∧ OwnM (w.heap.size + 3) c w' ∧ Below w.heap.size w w'
def CRelP (w : World) (M : Array Value) (seed : Int) (fin : Nat) (D : Value) (dl : List Nat) (pl : List (Sl Ins4)) (i : Value) (wr : World) : Prop :=
  ∃ (k : Nat) (cp : List (Sl Ins4)) (A : Option Addr) (c n : Nat), k ≤ pl.length ∧ i = .int .i64 k ∧ cp.map (·.L) = (pl.take k).map (·.L) ∧ cp.length = n ∧ CopyS w (w.heap.size + 3) M seed fin D (.slice A n c) (.slice none 0 0) (.slice none 0 0) dl cp [] wr
def CRelL (w : World) (M : Array Value) (seed : Int) (fin : Nat) (D P : Value) (dl : List Nat) (cp : List (Sl Ins4)) (ll : List LP2) (i : Value) (wr : World) : Prop :=
  ∃ (k : Nat) (cl : List LP2) (A : Option Addr) (c n : Nat), k ≤ ll.length ∧ i = .int .i64 k ∧ cl.map (fun x => (x.1, x.2.L)) = (ll.take k).map (fun x => (x.1, x.2.L)) ∧ cl.length = n ∧ CopyS w (w.heap.size + 3) M seed fin D P (.slice A n c) (.slice none 0 0) dl cp cl wr
theorem map_take_succ {α β : Type} (f : α → β) {L : List α} {k : Nat} {x : α} (hx : L[k]? = some x) {c : List α} {y : α} (hc : c.map f = (L.take k).map f) (hy : f y = f x) : (c ++ [y]).map f = (L.take (k + 1)).map f := by
  obtain ⟨hk, rfl⟩ := List.getElem?_eq_some_iff.1 hx
  rw [List.take_succ_eq_append_getElem hk, List.map_append, List.map_append, hc]
  simp [hy]
theorem map_len {α β : Type} {f : α → β} {L : List α} {k : Nat} (hk : k ≤ L.length) {c : List α} (hc : c.map f = (L.take k).map f) : c.length = k := by
  have := congrArg List.length hc
  simpa [Nat.min_eq_left hk] using this
set_option maxHeartbeats 2000000 in
theorem copy_any (m : Mdl) (w : World) (h : m.At w) (hsm : m.small) : Calls Try.prog 90 #[m.val] w (Copied w m) := by
  have HC := hide (show ∀ c w', SameCon c m → OwnM (w.heap.size + 3) c w' → Below w.heap.size w w' → Copied w m (.returned c.val) w' from fun c w' h1 h2 h3 => ⟨c, rfl, h1, h2, h3⟩)
  generalize Copied w m = Post at *
  obtain ⟨seed, fin, ⟨dA, dc, dl⟩, ⟨pA, pc, pl⟩, ⟨lA, lc, ll⟩, ⟨iA, ic, il⟩⟩ := m
  obtain ⟨_, _, hd, ⟨pr, p1, p2⟩, ⟨lr, l1, l2⟩, hi⟩ := h
  obtain ⟨z1, z2, z3, z4, z5, z6⟩ := hsm
  simp only [Sl.val, Mdl.val] at p1 p2 l1 l2 z1 z2 z3 z4 z5 z6 pr lr ⊢
  obtain ⟨⟨qA, qc, qL⟩, w1, hqL, hrun, hS, hc, hf⟩ := copy_begin w #[.int .i64 seed, .float .f64 fin, .slice dA dl.length dc, .slice pA pl.length pc, .slice lA ll.length lc, .slice iA il.length ic] seed fin ⟨dA, dc, dl⟩ hd z1 53 _ rfl
  simp only [Sl.val] at hqL hrun hS hc hf
  subst hqL
  have c0 := hS.box.cell 0
  have c1 := hS.box.cell 1
  have c2 := hS.box.cell 2
  have c3 := hS.box.cell 3
  have c4 := hS.box.cell 4
  have c5 := hS.box.cell 5
  have HS := hide hS
  clear hS
  go_enter Try.func90, Try.ntmps90
  go_wp2_with (at_builtin; go_must (refine wpList_of_append rfl _ w1 (.tmp 14) (.tmp 16) 53 _ _ _ rfl rfl rfl hrun ?_))
  clear hrun hc hf c0 c1 c2 c3 c4 c5
  go_loopw [22] (fun i wr => CRelP w #[.int .i64 seed, .float .f64 fin, .slice dA qL.length dc, .slice pA pl.length pc, .slice lA ll.length lc, .slice iA il.length ic] seed fin (.slice qA qL.length qc) qL pl i wr) (fun i _ => pl.length - (intOf i).toNat)
  case atStart => exact ⟨0, [], none, 0, 0, Nat.zero_le _, rfl, rfl, rfl, HS.out⟩
  case round =>
    clear HS
    obtain ⟨k, cp, PA, Pc, pn, hk, rfl, hmap, hpn, hS⟩ := hrel
    have HPN := hide hpn
    have hlen := map_len hk hmap
    by_cases hlt : k < pl.length
    · have hx := List.getElem?_eq_getElem hlt
      obtain ⟨a, rfl, h0, hs⟩ := (pr.below (SlAt.keeps InsAt.keeps 4) hS.bel) k _ hx
      rw [Nat.mul_one] at h0
      have hxl := z5 _ (List.mem_of_getElem? hx)
      generalize pl[k] = x at *
      have hSd := hS.drew
      obtain ⟨s, w2, ⟨QA, Qc, QL⟩, w3, hsL, hr1, hr2, hqL, _, hS1, hS2, hc, hf⟩ := hSd.addP x (hs.below InsAt.keeps (Below.refl _ _).drew) hxl (by omega) 118 54
      have HM := hide (map_take_succ (f := fun s : Sl Ins4 => s.L) hx hmap hsL)
      have hqn : QL.length = pn + 1 := by rw [show QL = _ from hqL]; simp; omega
      have HQN := hide (show (cp ++ [s]).length = pn + 1 by simp; omega)
      clear hqL
      obtain ⟨xA, xc, xl⟩ := x
      obtain ⟨sA, sc, sl⟩ := s
      simp only [Sl.val] at *
      rw [hqn] at hr2 hS2
      clear hqn hpn
      have HS2 := hide hS2
      have e3 := hSd.out.cell 3
      have e4 := hS1.out.cell 3
      have e5 := (hS1.out.alloc (.cells #[.slice sA sl.length sc] 118)).cell 3
      have kI : (k : Int) < (pl.length : Int) := by omega
      clear hmap hx hsL hs hS hS1 hS2 hlen hSd
      go_wp2_with fail
      go_region_law (first
        | (refine step_of_append rfl _ w2 (.const (.slice none 0 0)) (.tmp 28) 118 _ _ _ rfl rfl rfl hr1 ?_)
        | (refine step_of_append rfl _ w3 (.tmp 27) (.tmp 30) 54 _ _ _ rfl rfl rfl hr2 ?_))
      all_goals
        go_wp2
        go_roundw
        case rel => exact ⟨k + 1, _, QA, Qc, pn + 1, by omega, by go_num, HM.out, HQN.out, HS2.out⟩
        case measure => simp [intOf]; omega
    · obtain rfl : k = pl.length := by omega
      have HMP := hide (show cp.map (·.L) = pl.map (·.L) by rw [hmap, List.take_length])
      have c0 := hS.box.cell 0
      have c1 := hS.box.cell 1
      have c2 := hS.box.cell 2
      have c3 := hS.box.cell 3
      have c4 := hS.box.cell 4
      have c5 := hS.box.cell 5
      have HS := hide hS
      clear hmap hlen hS hpn
      go_wp2_with fail
      clear c0 c1 c2 c3 c4 c5
      go_loopw [37] (fun i wr => CRelL w #[.int .i64 seed, .float .f64 fin, .slice dA qL.length dc, .slice pA pl.length pc, .slice lA ll.length lc, .slice iA il.length ic] seed fin (.slice qA qL.length qc) (.slice PA pn Pc) qL cp ll i wr) (fun i _ => ll.length - (intOf i).toNat)
      case atStart => exact ⟨0, [], none, 0, 0, Nat.zero_le _, rfl, rfl, rfl, HS.out⟩
      case round =>
        clear HS
        obtain ⟨k, cl, LA, Lc, ln, hk, rfl, hmap, hln, hS⟩ := hrel
        have HLN := hide hln
        have hlen := map_len hk hmap
        by_cases hlt : k < ll.length
        · have hx := List.getElem?_eq_getElem hlt
          obtain ⟨a, rfl, h0, h1, _, hs⟩ := (lr.below LpAt.keeps hS.bel) k _ hx
          have hxl := z6 _ (List.mem_of_getElem? hx)
          generalize ll[k] = x at *
          obtain ⟨xp, ⟨xA, xc, xl⟩⟩ := x
          simp only [Sl.val] at h0 h1 hxl
          have hSd := (hS.below ((Below.refl _ _).alloc (Nat.le_refl _) (.cells #[.int .i64 xp, .slice xA xl.length xc] 120))).drew
          have hbx := ((Below.refl wr.heap.size wr).alloc (Nat.le_refl _) (.cells #[.int .i64 xp, .slice xA xl.length xc] 120)).drew
          have hX := (Blk.new wr 120 #[.int .i64 xp, .slice xA xl.length xc]).drew
          obtain ⟨⟨sA, sc, sl⟩, w2, ⟨QA, Qc, QL⟩, w3, hsL, hr1, hr2, hqL, hbw, hS1, hS2, hc, hf⟩ := hSd.addL xp ⟨xA, xc, xl⟩ (hs.below IntAt.keeps hbx) hxl (by omega) 59 55
          simp only at hsL
          subst hsL
          have HM := hide (map_take_succ (f := fun x : LP2 => (x.1, x.2.L)) hx hmap (y := (xp, ⟨sA, sc, sl⟩)) rfl)
          have hqn : QL.length = ln + 1 := by rw [show QL = _ from hqL]; simp; omega
          have HQN := hide (show (cl ++ [((xp, ⟨sA, sc, sl⟩) : LP2)]).length = ln + 1 by simp; omega)
          clear hqL
          simp only [Sl.val] at *
          rw [hqn] at hr2 hS2
          clear hqn hln
          have HS2 := hide hS2
          have e3 := hSd.out.cell 4
          have e4 := hS1.out.cell 4
          have e5 := (hS1.out.alloc (.cells #[.int .i64 xp, .slice sA sl.length sc] 120)).cell 4
          have x0 := hX.cell 0
          have x1 := hX.cell 1
          have y0 := keepc hbw x0
          have y1 := keepc hbw x1
          clear hmap hx hs hS hS1 hS2 hlen hSd hX hbx hbw
          go_wp2_with fail
          go_region_law (first
            | (refine step_of_append rfl _ w2 (.const (.slice none 0 0)) (.tmp 46) 59 _ _ _ rfl rfl rfl hr1 ?_)
            | (refine step_of_append rfl _ w3 (.tmp 42) (.tmp 49) 55 _ _ _ rfl rfl rfl hr2 ?_))
          all_goals
            go_wp2
            go_roundw
            case rel => exact ⟨k + 1, _, QA, Qc, ln + 1, by omega, by go_num, HM.out, HQN.out, HS2.out⟩
            case measure => simp [intOf]; omega
        · obtain rfl : k = ll.length := by omega
          have HML := hide (show cl.map (fun x => (x.1, x.2.L)) = ll.map (fun x => (x.1, x.2.L)) by rw [hmap, List.take_length])
          obtain ⟨⟨iA', ic', iL⟩, w2, hiL, hr1, hS2, hI, hc, hf⟩ := hS.addI ⟨iA, ic, il⟩ (hi.below InitAt.keeps hS.bel) z4 56
          simp only [Sl.val] at hiL hr1 hS2 hI hc hf
          subst hiL
          have c0 := hS.box.cell 0
          have c1 := hS.box.cell 1
          have c2 := hS.box.cell 2
          have c3 := hS.box.cell 3
          have c4 := hS.box.cell 4
          have c5 := hS.box.cell 5
          have o5 := hS.out.cell 5
          have d0 := hS2.out.cell 0
          have d1 := hS2.out.cell 1
          have d2 := hS2.out.cell 2
          have d3 := hS2.out.cell 3
          have d4 := hS2.out.cell 4
          have d5 := hS2.out.cell 5
          have r0 := hS2.res.cell 0
          have q0 := hS2.res.frozen 0
          have r1 := hS2.res.cell 1
          have q1 := hS2.res.frozen 1
          have r2 := hS2.res.cell 2
          have q2 := hS2.res.frozen 2
          have r3 := hS2.res.cell 3
          have q3 := hS2.res.frozen 3
          have r4 := hS2.res.cell 4
          have q4 := hS2.res.frozen 4
          have r5 := hS2.res.cell 5
          have q5 := hS2.res.frozen 5
          have HS2 := hide hS2
          have HI := hide hI
          clear hmap hlen hS hS2 hI hln
          go_wp2_with (at_builtin; go_must (refine wpList_of_append rfl _ w2 (.tmp 54) (.tmp 56) 56 _ _ _ rfl rfl rfl hr1 ?_))
          refine bodyPost_ret (v := .agg #[.int .i64 seed, .float .f64 fin, .slice qA qL.length qc, .slice PA pn Pc, .slice LA ln Lc, .slice iA' iL.length ic']) (by simp [results, Try.results90, go_sem, r0, r1, r2, r3, r4, r5]) rfl ?_
          have hpn := HPN.out
          have hln := HLN.out
          subst hpn hln
          have hS3 := HS2.out
          have hO : OwnM (w.heap.size + 3) ⟨seed, fin, ⟨qA, qc, qL⟩, ⟨PA, Pc, cp⟩, ⟨LA, Lc, cl⟩, ⟨iA', ic', iL⟩⟩ _ := ⟨hS3.dls, hS3.pls, hS3.ps, hS3.lls, hS3.ls, HI.out⟩
          have hlt2 : w.heap.size + 1 < w.heap.size + 3 := by omega
          have hle2 : w.heap.size ≤ w.heap.size + 1 := by omega
          exact HC.out ⟨seed, fin, ⟨qA, qc, qL⟩, ⟨PA, Pc, cp⟩, ⟨LA, Lc, cl⟩, ⟨iA', ic', iL⟩⟩ _ ⟨rfl, rfl, rfl, HMP.out, HML.out, rfl⟩
            ((((((hO.setCell hlt2 _).setCell hlt2 _).setCell hlt2 _).setCell hlt2 _).setCell hlt2 _).setCell hlt2 _)
            ((((((hS3.bel.setCell hle2 _).setCell hle2 _).setCell hle2 _).setCell hle2 _).setCell hle2 _).setCell hle2 _)
theorem RowD.each {α : Type} {d : Dec α} {size : Nat} {w : World} {A : Option Addr} {L : List α} (h : RowD d size w A L) {x : α} (hx : x ∈ L) : ∃ a, d w a x := by
  obtain ⟨i, hi, rfl⟩ := List.getElem_of_mem hx
  obtain ⟨a, _, h'⟩ := h i _ (List.getElem?_eq_getElem hi)
  exact ⟨_, h'⟩
theorem mem_map_of {α β : Type} {f : α → β} {a b : List α} (h : a.map f = b.map f) {x : α} (hx : x ∈ a) : ∃ y ∈ b, f y = f x := by
  have : f x ∈ b.map f := by rw [← h]; exact List.mem_map_of_mem hx
  obtain ⟨y, hy, e⟩ := List.mem_map.1 this
  exact ⟨y, hy, e⟩
/-- A model in memory of the call's own, its numbers such as the machine holds, lies where it should. -/
theorem OwnM.at_ {B : Nat} {c m : Mdl} {w w0 : World} (h : OwnM B c w) (hs : SameCon c m) (hm : m.At w0) : c.At w := by
  obtain ⟨m1, m2, m3, m4, m5, m6⟩ := hm
  refine ⟨by rw [hs.seed]; exact m1, by rw [hs.fin]; exact m2, ?_, ?_, ?_, ?_⟩
  · refine OwnR.sl (size := 1) (by decide) (fun _ => rfl) makes_fl h.dls fun x hx => ?_
    rw [hs.dl] at hx
    obtain ⟨a, ha⟩ := m3.1.each hx
    exact ha.2
  · refine OwnR.sl (size := 1) (by decide) (fun _ => rfl) (makes_sl InsAt 4) h.pls fun x hx => ?_
    obtain ⟨y, hy, e⟩ := mem_map_of hs.pl hx
    refine OwnR.sl (size := 4) (by decide) (fun _ => rfl) makes_ins (h.ps x hx) fun z hz => ?_
    rw [← e] at hz
    obtain ⟨a, ha⟩ := m4.1.each hy
    obtain ⟨b, hb⟩ := ha.2.1.each hz
    exact hb.2.2.2.2
  · refine OwnR.sl (size := 2) (by decide) (fun _ => rfl) makes_lp h.lls fun x hx => ?_
    obtain ⟨y, hy, e⟩ := mem_map_of hs.ll hx
    obtain ⟨a, ha⟩ := m5.1.each hy
    simp only [Prod.mk.injEq] at e
    refine ⟨by rw [← e.1]; exact ha.2.2.1, OwnR.sl (size := 1) (by decide) (fun _ => rfl) makes_int (h.ls x hx) fun z hz => ?_⟩
    rw [← e.2] at hz
    obtain ⟨b, hb⟩ := ha.2.2.2.1.each hz
    exact hb.2
  · refine OwnR.sl (size := 3) (by decide) (fun _ => rfl) makes_init h.ils fun x hx => ?_
    rw [hs.il] at hx
    obtain ⟨a, ha⟩ := m6.1.each hx
    exact ha.2.2.2
end Go.Proofs.Ytpfcmfannkbipaa
end
