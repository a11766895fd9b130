/- What stands while a model's copy is written over: the shapes of its rows; what two copies leave. No condition. -/
import Derived.Test.YtegegljpmelomaaLaw05c
import Derived.Test.YtegegljpmelomaaTyped
set_option linter.unusedVariables false
set_option linter.unusedSimpArgs false
set_option maxRecDepth 20000
namespace Go.Proofs.Ytegegljpmelomaa
open Go.RowKit Go.Deep

/-- So many cells lie there, in a block of their own type, from N on. -/
def Shp (N : Nat) (w : World) (e : TypeId) (A : Option Addr) (k : Nat) : Prop := 0 < k → ∃ g cur, A = some ⟨g, 0, none⟩ ∧ N ≤ g ∧ Blk w g e cur ∧ k ≤ cur.size
theorem Shp.of_own {α : Type} {e : TypeId} {size : Nat} {enc : α → List Value} {w : World} {N : Nat} {s : Sl α} (hsz : 0 < size) (h : OwnR e size enc w N s.val s.L) : Shp N w e s.A (s.L.length * size) := by
  intro h0
  have hl : 0 < s.L.length := Nat.pos_of_mul_pos_right h0
  rcases h.2 with ⟨he, h1⟩ | ⟨g, cap, cur, hv, hB, hh, hn, hm, hs, ht⟩
  · omega
  · unfold Sl.val at hv
    injection hv with h1 h2 h3
    refine ⟨g, cur, h1, hB, hh, ?_⟩
    exact Nat.le_trans (Nat.mul_le_mul_right size hn) (by omega)
theorem Shp.set {N : Nat} {w : World} {e : TypeId} {A : Option Addr} {k : Nat} (h : Shp N w e A k) {g : Nat} {t : TypeId} {cs : Array Value} (hb : Blk w g t cs) (j : Nat) (u : Value) : Shp N (w.setCell ⟨g, j, none⟩ u) e A k := by
  intro h0
  obtain ⟨g', cur, hA, hN, hblk, hk⟩ := h h0
  by_cases e1 : g' = g
  · subst e1
    exact ⟨g', _, hA, hN, hblk.set_ j u, by simpa using hk⟩
  · exact ⟨g', cur, hA, hN, hblk.far (p := ⟨g, j, none⟩) e1 u, hk⟩
theorem Shp.below {N : Nat} {w w' : World} {e : TypeId} {A : Option Addr} {k : Nat} (h : Shp N w e A k) (hb : Below w.heap.size w w') : Shp N w' e A k := fun h0 => by
  obtain ⟨g, cur, h1, h2, h3, h4⟩ := h h0
  exact ⟨g, cur, h1, h2, h3.below hb h3.lt, h4⟩
/-- A model's cells. -/
def Mdl.cs (m : Mdl) : Array Value := #[.int .i64 m.seed, .float .f64 m.fin, m.dl.val, m.pl.val, m.ll.val, m.il.val]
/-- What stands while the copy c is written over. -/
structure Lent (N : Nat) (W1 : World) (gc gd : Nat) (C : Array Value) (c : Mdl) (wr : World) : Prop where
  b : Below N W1 wr
  x : Blk wr gc 28 C
  y : Blk wr gd 28 c.cs
  d : Shp N wr 22 c.dl.A c.dl.L.length
  pt : 0 < c.pl.L.length → ∃ g cs, c.pl.A = some ⟨g, 0, none⟩ ∧ Blk wr g 38 cs ∧ ∀ (i : Nat) (s : Sl Ins4), c.pl.L[i]? = some s → cs[i]? = some s.val
  ps : ∀ s ∈ c.pl.L, Shp N wr 34 s.A (s.L.length * 4)
  lt : 0 < c.ll.L.length → ∃ g cs, c.ll.A = some ⟨g, 0, none⟩ ∧ N ≤ g ∧ Blk wr g 41 cs ∧ c.ll.L.length * 2 ≤ cs.size ∧ ∀ (i : Nat) (x : LP2), c.ll.L[i]? = some x → cs[i * 2 + 1]? = some x.2.val
  ls : ∀ x ∈ c.ll.L, Shp N wr 3 x.2.A x.2.L.length
  i : Shp N wr 43 c.il.A (c.il.L.length * 3)
theorem Lent.drew {N : Nat} {W1 wr : World} {gc gd : Nat} {C : Array Value} {c : Mdl} (h : Lent N W1 gc gd C c wr) : Lent N W1 gc gd C c wr.drew :=
  have hb := (Below.refl wr.heap.size wr).drew
  ⟨h.b.drew, h.x.drew, h.y.drew, h.d.below hb, fun h0 => by obtain ⟨g, cs, h1, h2, h3⟩ := h.pt h0; exact ⟨g, cs, h1, h2.drew, h3⟩, fun s hs => (h.ps s hs).below hb, fun h0 => by obtain ⟨g, cs, h1, h2, h3, h4⟩ := h.lt h0; exact ⟨g, cs, h1, h2, h3.drew, h4⟩, fun x hx => (h.ls x hx).below hb, h.i.below hb⟩
/-- A cell written that holds no slice. -/
theorem Lent.set {N : Nat} {W1 wr : World} {gc gd : Nat} {C : Array Value} {c : Mdl} (h : Lent N W1 gc gd C c wr) {g : Nat} {t : TypeId} {cs : Array Value} (hb : Blk wr g t cs) (hN : N ≤ g) (ht : 28 ≠ t) (ht2 : 38 ≠ t) (j : Nat) (hj : t = 41 → j % 2 = 0) (u : Value) : Lent N W1 gc gd C c (wr.setCell ⟨g, j, none⟩ u) := by
  refine ⟨h.b.setCell (p := ⟨g, j, none⟩) hN u, h.x.far (p := ⟨g, j, none⟩) (Blk.ne_ h.x hb ht) u, h.y.far (p := ⟨g, j, none⟩) (Blk.ne_ h.y hb ht) u, h.d.set hb j u, fun h0 => ?_, fun s hs => (h.ps s hs).set hb j u, fun h0 => ?_, fun x hx => (h.ls x hx).set hb j u, h.i.set hb j u⟩
  · obtain ⟨g', cs', h1, h2, h3⟩ := h.pt h0
    exact ⟨g', cs', h1, h2.far (p := ⟨g, j, none⟩) (Blk.ne_ h2 hb ht2) u, h3⟩
  · obtain ⟨g', cs', h1, h2, h3, h4, h5⟩ := h.lt h0
    by_cases e1 : g' = g
    · subst e1
      have htt : t = 41 := by
        unfold Blk at hb h3
        rw [hb] at h3
        injection h3 with h3
        injection h3
      refine ⟨g', _, h1, h2, h3.set_ j u, by simpa using h4, fun i x hx => ?_⟩
      rw [Array.getElem?_setIfInBounds, if_neg (by have := hj htt; omega)]
      exact h5 i x hx
    · exact ⟨g', cs', h1, h2, h3.far (p := ⟨g, j, none⟩) e1 u, h4, h5⟩
theorem enc_at {α : Type} {enc : α → List Value} {size : Nat} (hsz : 0 < size) (hlen : ∀ x, (enc x).length = size) {e : TypeId} {w : World} {N : Nat} {s : Sl α} (h : OwnR e size enc w N s.val s.L) (h0 : 0 < s.L.length) :
    ∃ g cs, s.A = some ⟨g, 0, none⟩ ∧ N ≤ g ∧ Blk w g e cs ∧ s.L.length * size ≤ cs.size ∧ ∀ (i r : Nat) (x : α), s.L[i]? = some x → r < size → cs[i * size + r]? = (enc x)[r]? := by
  rcases h.2 with ⟨he, h1⟩ | ⟨g, cap, cur, hv, hB, hh, hn, hm, hs, ht⟩
  · omega
  · unfold Sl.val at hv
    injection hv with h1 h2 h3
    have hsz2 : s.L.length * size ≤ cur.size := Nat.le_trans (Nat.mul_le_mul_right size hn) (by omega)
    refine ⟨g, cur, h1, hB, hh, hsz2, fun i r x hx hr => ?_⟩
    have hi : i < s.L.length := (List.getElem?_eq_some_iff.1 hx).1
    have hlt : i * size + r < s.L.length * size := by
      have := Nat.mul_le_mul_right size (show i + 1 ≤ s.L.length from hi)
      rw [Nat.succ_mul] at this
      omega
    rw [← flatMap_at enc size hsz hlen s.L i r x hx hr, ← ht, List.getElem?_take, if_pos hlt, Array.getElem?_toList]
/-- Where it begins. -/
theorem Lent.start {N : Nat} {W1 : World} {gc gd : Nat} {C : Array Value} {c : Mdl} (hx : Blk W1 gc 28 C) (hy : Blk W1 gd 28 c.cs) (h : OwnM N c W1) : Lent N W1 gc gd C c W1 := by
  refine ⟨Below.refl _ _, hx, hy, ?_, fun h0 => ?_, fun s hs => Shp.of_own (by decide) (h.ps s hs), fun h0 => ?_, fun x hx => ?_, Shp.of_own (by decide) h.ils⟩
  · have := Shp.of_own (by decide) h.dls
    rwa [Nat.mul_one] at this
  · obtain ⟨g, cs, h1, _, h3, _, h5⟩ := enc_at (s := c.pl) (size := 1) (by decide) (fun _ => rfl) h.pls h0
    refine ⟨g, cs, h1, h3, fun i s hs => ?_⟩
    have := h5 i 0 s hs (by decide)
    rwa [Nat.mul_one] at this
  · obtain ⟨g, cs, h1, h2, h3, h4, h5⟩ := enc_at (s := c.ll) (size := 2) (by decide) (fun _ => rfl) h.lls h0
    exact ⟨g, cs, h1, h2, h3, h4, fun i x hx => h5 i 1 x hx (by decide)⟩
  · have := Shp.of_own (s := x.2) (by decide) (h.ls x hx)
    rwa [Nat.mul_one] at this

theorem OwnR.lowerL {α : Type} {e : TypeId} {size B N : Nat} {enc : α → List Value} {w : World} {v : Value} {L : List α} (h : OwnR e size enc w B v L) (hN : N ≤ B) : OwnR e size enc w N v L :=
  ⟨h.1, h.2.imp id fun ⟨g, cap, cur, h1, h2, h3⟩ => ⟨g, cap, cur, h1, Nat.le_trans hN h2, h3⟩⟩
theorem OwnR.farL {α : Type} {e : TypeId} {size B : Nat} {enc : α → List Value} {w : World} {v : Value} {L : List α} (h : OwnR e size enc w B v L) {g : Nat} {t : TypeId} {cs : Array Value} (hb : Blk w g t cs) (hne : e ≠ t) (j : Nat) (x : Value) : OwnR e size enc (w.setCell ⟨g, j, none⟩ x) B v L :=
  ownsRow_setCell_other h (own_blk_ne h hb hne) x
theorem OwnR.lowL {α : Type} {e : TypeId} {size B N : Nat} {enc : α → List Value} {w w' : World} {v : Value} {L : List α} (h : OwnR e size enc w B v L) (hl : ∀ k, v.ownBlock = some k → k < N) (hb : Below N w w') : OwnR e size enc w' B v L := by
  refine ⟨h.1, h.2.imp id ?_⟩
  rintro ⟨g, cap, cur, h1, h2, h3, h4⟩
  refine ⟨g, cap, cur, h1, h2, ?_, h4⟩
  rw [hb.block g (hl g (by rw [h1]; rfl))]
  exact h3
theorem OwnM.lower {B N : Nat} {c : Mdl} {w : World} (h : OwnM B c w) (hN : N ≤ B) : OwnM N c w :=
  ⟨h.dls.lowerL hN, h.pls.lowerL hN, fun s hs => (h.ps s hs).lowerL hN, h.lls.lowerL hN, fun x hx => (h.ls x hx).lowerL hN, h.ils.lowerL hN⟩
theorem OwnM.far {B : Nat} {c : Mdl} {w : World} (h : OwnM B c w) {g : Nat} {cs : Array Value} (hb : Blk w g 28 cs) (j : Nat) (u : Value) : OwnM B c (w.setCell ⟨g, j, none⟩ u) :=
  ⟨h.dls.farL hb (by decide) j u, h.pls.farL hb (by decide) j u, fun s hs => (h.ps s hs).farL hb (by decide) j u, h.lls.farL hb (by decide) j u, fun x hx => (h.ls x hx).farL hb (by decide) j u, h.ils.farL hb (by decide) j u⟩
/-- A model's own rows lie below N. -/
structure LowM (N : Nat) (c : Mdl) : Prop where
  dls : ∀ k, c.dl.val.ownBlock = some k → k < N
  pls : ∀ k, c.pl.val.ownBlock = some k → k < N
  ps : ∀ s ∈ c.pl.L, ∀ k, s.val.ownBlock = some k → k < N
  lls : ∀ k, c.ll.val.ownBlock = some k → k < N
  ls : ∀ x ∈ c.ll.L, ∀ k, x.2.val.ownBlock = some k → k < N
  ils : ∀ k, c.il.val.ownBlock = some k → k < N
theorem OwnM.low {B : Nat} {c : Mdl} {w : World} (h : OwnM B c w) : LowM w.heap.size c :=
  ⟨fun k hk => (World.ownsRow.lt h.dls k hk).2, fun k hk => (World.ownsRow.lt h.pls k hk).2, fun s hs k hk => (World.ownsRow.lt (h.ps s hs) k hk).2, fun k hk => (World.ownsRow.lt h.lls k hk).2, fun x hx k hk => (World.ownsRow.lt (h.ls x hx) k hk).2, fun k hk => (World.ownsRow.lt h.ils k hk).2⟩
theorem OwnM.keep {B N : Nat} {c : Mdl} {w w' : World} (h : OwnM B c w) (hl : LowM N c) (hb : Below N w w') : OwnM B c w' :=
  ⟨h.dls.lowL hl.dls hb, h.pls.lowL hl.pls hb, fun s hs => (h.ps s hs).lowL (hl.ps s hs) hb, h.lls.lowL hl.lls hb, fun x hx => (h.ls x hx).lowL (hl.ls x hx) hb, h.ils.lowL hl.ils hb⟩
/-! What the statement's operations leave. -/
def zM : Array Value := #[.int .i64 0, .float .f64 0, .slice none 0 0, .slice none 0 0, .slice none 0 0, .slice none 0 0]
def cpM (m : Mdl) (v : Value) (w : World) : Prop := ∃ c : Mdl, v = c.val ∧ SameCon c m ∧ OwnM 0 c w
def cpN (W0 : World) (m : Mdl) (u v : Value) (w : World) : Prop := ∃ (a c : Mdl) (N : Nat), u = a.val ∧ SameCon a m ∧ OwnM 0 a w ∧ LowM N a ∧ v = c.val ∧ OwnM N c w ∧ W0.heap.size ≤ N
def bxM (W0 : World) (v : Value) (w : World) : Prop := ∃ g, v = .pointer (some ⟨g, 0, none⟩) ∧ W0.heap.size ≤ g ∧ Blk w g 28 zM
def TM (W0 : World) (m : Mdl) (i : Nat) (vs : Nat → Value) (w : World) : Prop := if i = 1 then cpM m (vs 1) w else if i = 3 then cpN W0 m (vs 1) (vs 3) w else bxM W0 (vs i) w
def CM (i : Nat) (v : Value) (b : Nat) : Prop := ¬ (i = 1 ∨ i = 3) ∧ v = .pointer (some ⟨b, 0, none⟩)
theorem TM.below {W0 w w' : World} {m : Mdl} {i : Nat} {vs : Nat → Value} (h : TM W0 m i vs w) (hb : Below w.heap.size w w') : TM W0 m i vs w' := by
  unfold TM at *
  split
  · rename_i hi
    rw [if_pos hi] at h
    obtain ⟨c, h1, h2, h3⟩ := h
    exact ⟨c, h1, h2, h3.below hb⟩
  · rename_i hi
    rw [if_neg hi] at h
    split
    · rename_i hi3
      rw [if_pos hi3] at h
      obtain ⟨a, c, N, h1, h2, h3, h4, h5, h6, h7⟩ := h
      exact ⟨a, c, N, h1, h2, h3.below hb, h4, h5, h6.below hb, h7⟩
    · rename_i hi3
      rw [if_neg hi3] at h
      obtain ⟨g, h1, h2, h3⟩ := h
      exact ⟨g, h1, h2, h3.below hb h3.lt⟩
theorem TM.dep {md : Region.Mode} {ops : Array Oper} (W0 : World) (m : Mdl) (h31 : Region.waitsFor md ops 3 1 = true) : TDep md ops (TM W0 m) := by
  intro i vs vs' w hi hw h
  unfold TM at *
  split
  · rename_i h1
    rw [if_pos h1] at h
    subst h1
    rwa [← hi]
  · rename_i h1
    rw [if_neg h1] at h
    split
    · rename_i h3
      rw [if_pos h3] at h
      subst h3
      rwa [← hi, ← hw 1 h31]
    · rename_i h3
      rw [if_neg h3] at h
      rwa [← hi]
theorem bxM_made {W0 w : World} {m : Mdl} {vs : Nat → Value} {i : Nat} (hi : ¬ (i = 1 ∨ i = 3)) (hW : W0.heap.size ≤ w.heap.size) (hv : vs i = .pointer (some ⟨w.heap.size, 0, none⟩)) :
    TM W0 m i vs (w.alloc (.cells zM 28)) ∧ ∀ g, CM i (.pointer (some ⟨w.heap.size, 0, none⟩)) g → w.heap.size ≤ g ∧ g < (w.alloc (.cells zM 28)).heap.size := by
  refine ⟨by unfold TM; rw [if_neg (fun h => hi (.inl h)), if_neg (fun h => hi (.inr h))]; exact ⟨_, hv, hW, Blk.new _ _ _⟩, fun g hg => ?_⟩
  obtain ⟨_, hg⟩ := hg
  injection hg with hg
  injection hg with hg
  injection hg with hg
  subst hg
  exact ⟨Nat.le_refl _, by simp⟩
/-- What the four leave, together. -/
theorem two_lent {W0 X : World} {m : Mdl} {vs : Nat → Value} (h3 : TM W0 m 3 vs X) (h4 : TM W0 m 4 vs X) (h5 : TM W0 m 5 vs X) (c45 : ∀ g, CM 4 (vs 4) g → ¬ CM 5 (vs 5) g) :
    ∃ a c N gc gd, vs 1 = a.val ∧ vs 3 = c.val ∧ vs 4 = .pointer (some ⟨gc, 0, none⟩) ∧ vs 5 = .pointer (some ⟨gd, 0, none⟩) ∧ SameCon a m ∧ OwnM 0 a X ∧ LowM N a ∧ OwnM N c X ∧ W0.heap.size ≤ N ∧ gc ≠ gd ∧ W0.heap.size ≤ gc ∧ W0.heap.size ≤ gd ∧ Blk X gc 28 zM ∧ Blk X gd 28 zM := by
  obtain ⟨a, c, N, h1, h2, h3, h4', h5', h6, h7⟩ := h3
  obtain ⟨gc, rc, hc, bc⟩ := h4
  obtain ⟨gd, rd, hd, bd⟩ := h5
  refine ⟨a, c, N, gc, gd, h1, h5', rc, rd, h2, h3, h4', h6, h7, fun e => ?_, hc, hd, bc, bd⟩
  subst e
  exact c45 gc ⟨by decide, rc⟩ ⟨by decide, rd⟩
/-- A model laid into a box. -/
abbrev st6 (w : World) (g : Nat) (u0 u1 u2 u3 u4 u5 : Value) : World := (((((w.setCell ⟨g, 0, none⟩ u0).setCell ⟨g, 1, none⟩ u1).setCell ⟨g, 2, none⟩ u2).setCell ⟨g, 3, none⟩ u3).setCell ⟨g, 4, none⟩ u4).setCell ⟨g, 5, none⟩ u5
section
variable {w W : World} {g h : Nat} {u0 u1 u2 u3 u4 u5 c0 c1 c2 c3 c4 c5 : Value}
theorem blk_st6 (hb : Blk w g 28 #[c0, c1, c2, c3, c4, c5]) (u0 u1 u2 u3 u4 u5 : Value) : Blk (st6 w g u0 u1 u2 u3 u4 u5) g 28 #[u0, u1, u2, u3, u4, u5] := by
  have := (((((hb.set_ 0 u0).set_ 1 u1).set_ 2 u2).set_ 3 u3).set_ 4 u4).set_ 5 u5
  simpa using this
theorem blk_far6 {t : TypeId} {cs : Array Value} (hb : Blk w h t cs) (hne : h ≠ g) (u0 u1 u2 u3 u4 u5 : Value) : Blk (st6 w g u0 u1 u2 u3 u4 u5) h t cs :=
  (((((hb.far (p := ⟨g, 0, none⟩) hne u0).far (p := ⟨g, 1, none⟩) hne u1).far (p := ⟨g, 2, none⟩) hne u2).far (p := ⟨g, 3, none⟩) hne u3).far (p := ⟨g, 4, none⟩) hne u4).far (p := ⟨g, 5, none⟩) hne u5
theorem own_st6 {B : Nat} {c : Mdl} (ho : OwnM B c w) (hb : Blk w g 28 #[c0, c1, c2, c3, c4, c5]) (u0 u1 u2 u3 u4 u5 : Value) : OwnM B c (st6 w g u0 u1 u2 u3 u4 u5) :=
  (((((ho.far hb 0 u0).far (hb.set_ 0 u0) 1 u1).far ((hb.set_ 0 u0).set_ 1 u1) 2 u2).far (((hb.set_ 0 u0).set_ 1 u1).set_ 2 u2) 3 u3).far ((((hb.set_ 0 u0).set_ 1 u1).set_ 2 u2).set_ 3 u3) 4 u4).far (((((hb.set_ 0 u0).set_ 1 u1).set_ 2 u2).set_ 3 u3).set_ 4 u4) 5 u5
theorem below_st6 {B : Nat} (hb : Below B W w) (hg : B ≤ g) (u0 u1 u2 u3 u4 u5 : Value) : Below B W (st6 w g u0 u1 u2 u3 u4 u5) :=
  (((((hb.setCell (p := ⟨g, 0, none⟩) hg u0).setCell (p := ⟨g, 1, none⟩) hg u1).setCell (p := ⟨g, 2, none⟩) hg u2).setCell (p := ⟨g, 3, none⟩) hg u3).setCell (p := ⟨g, 4, none⟩) hg u4).setCell (p := ⟨g, 5, none⟩) hg u5
end
end Go.Proofs.Ytegegljpmelomaa
