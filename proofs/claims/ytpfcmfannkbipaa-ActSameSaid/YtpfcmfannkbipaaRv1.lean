/- The reference's run in memory, and the walks of its small parts. No condition but what holds of every run. -/
import Derived.Test.YtpfcmfannkbipaaVm8
set_option linter.unusedVariables false
set_option linter.unusedSimpArgs false
set_option maxRecDepth 20000
namespace Go.Proofs.Ytpfcmfannkbipaa
open Go.RowKit Go.Deep

theorem quot_any (b c : Int) (w : World) (h0 : c ≠ 0) (hb : I64 b) : Calls Try.prog 137 #[.int .i64 b, .int .i64 c] w fun e w' => e = .returned (.tuple #[.int .i64 (quoI b c), .int .i64 (remI b c)]) ∧ ∃ k, w' = w.drewN k := by
  by_cases h1 : c = -1
  · subst h1
    have e1 : quoI b (-1) = wrap64 (-b) := by unfold quoI; rw [Int.tdiv_neg, Int.tdiv_one]
    have e2 : remI b (-1) = 0 := by unfold remI; rw [Int.tmod_neg, Int.tmod_one]
    rw [e1, e2]
    clear e1 e2
    go_enter Try.func137, Try.ntmps137
    go_wp2_with fail
    go_ret2
    exact ⟨rfl, 0, rfl⟩
  · have e1 : (c == -1) = false := by rw [beq_eq_false_iff_ne]; exact h1
    have e2 : remI b c = wrap64 (b - wrap64 (quoI b c * c)) := by
      unfold remI quoI
      have h := Int.mul_tdiv_add_tmod b c
      have hm := tmod_i64 (c := c) hb
      rw [Int.mul_comm] at h
      have h3 : wrap64 (b - wrap64 (wrap64 (b.tdiv c) * c)) = wrap64 (b.tmod c) := by
        have k1 : (b - wrap64 (wrap64 (b.tdiv c) * c)) % 18446744073709551616 = b.tmod c % 18446744073709551616 := by
          have w1 : ∀ n : Int, wrap64 n % 18446744073709551616 = n % 18446744073709551616 := fun n => by unfold wrap64; omega
          rw [Int.sub_emod, w1, Int.mul_emod, w1, ← Int.mul_emod, ← Int.sub_emod]
          congr 1
          omega
        generalize b - wrap64 (wrap64 (b.tdiv c) * c) = X at k1 ⊢
        generalize b.tmod c = Y at k1 ⊢
        unfold wrap64
        omega
      rw [h3]
      generalize b.tmod c = Y at hm ⊢
      unfold wrap64
      omega
    have HE := hide e2
    clear e2
    unfold quoI at HE
    go_enter Try.func137, Try.ntmps137
    go_wp2_with fail
    go_quiet (fail)
    go_wp2_with fail
    go_ret2
    exact ⟨by rw [HE.out]; rfl, _, rfl⟩
/-- What computes, and its fault. -/
theorem two_any (op b c : Int) (w : World) (hop : 3 ≤ op ∧ op ≤ 8) (hb : I64 b) : Calls Try.prog 130 #[.int .i64 op, .int .i64 b, .int .i64 c] w fun e w' => e = .returned (.tuple #[.int .i64 (if twoF op c = 0 then twoI op b c else 0), .int .i64 (twoF op c)]) ∧ ∃ k, w' = w.drewN k := by
  have hcs : op = 3 ∨ op = 4 ∨ op = 5 ∨ op = 6 ∨ op = 7 ∨ op = 8 := by omega
  clear hop
  rcases hcs with rfl | rfl | rfl | rfl | rfl | rfl
  · go_enter Try.func130, Try.ntmps130
    go_wp2_with fail
    go_ret2
    exact ⟨rfl, 0, rfl⟩
  · go_enter Try.func130, Try.ntmps130
    go_wp2_with fail
    go_ret2
    exact ⟨rfl, 0, rfl⟩
  · go_enter Try.func130, Try.ntmps130
    go_wp2_with fail
    go_ret2
    exact ⟨rfl, 0, rfl⟩
  · by_cases hc : c = 0
    · subst hc
      go_enter Try.func130, Try.ntmps130
      go_wp2_with fail
      go_ret2
      exact ⟨rfl, 0, rfl⟩
    · have e1 : twoF 6 c = 0 := if_neg (fun h => hc h.2)
      have hcb : (c == 0) = false := by rw [beq_eq_false_iff_ne]; exact hc
      rw [e1, if_pos rfl]
      have Q := hide (quot_any b c w hc hb)
      clear e1 hc hb
      go_enter Try.func130, Try.ntmps130
      go_wp2_with fail
      refine Q.out.mono ?_
      rintro e w1 ⟨rfl, k, rfl⟩
      go_wp2_with fail
      go_ret2
      exact ⟨rfl, k, rfl⟩
  · by_cases hc : c = 0
    · subst hc
      go_enter Try.func130, Try.ntmps130
      go_wp2_with fail
      go_ret2
      exact ⟨rfl, 0, rfl⟩
    · have e1 : twoF 7 c = 0 := if_neg (fun h => hc h.2)
      have hcb : (c == 0) = false := by rw [beq_eq_false_iff_ne]; exact hc
      rw [e1, if_pos rfl]
      have Q := hide (quot_any b c w hc hb)
      clear e1 hc hb
      go_enter Try.func130, Try.ntmps130
      go_wp2_with fail
      refine Q.out.mono ?_
      rintro e w1 ⟨rfl, k, rfl⟩
      go_wp2_with fail
      go_ret2
      exact ⟨rfl, k, rfl⟩
  · by_cases hlt : b < c
    · have e8 := hide (show twoI 8 b c = 1 from if_pos hlt)
      have e9 : twoF 8 c = 0 := rfl
      rw [e9, if_pos rfl, e8.out]
      clear e9 e8
      go_enter Try.func130, Try.ntmps130
      go_wp2_with fail
      go_ret2
      exact ⟨rfl, 0, rfl⟩
    · have e8 := hide (show twoI 8 b c = 0 from if_neg hlt)
      have e9 : twoF 8 c = 0 := rfl
      rw [e9, if_pos rfl, e8.out]
      clear e9 e8
      go_enter Try.func130, Try.ntmps130
      go_wp2_with fail
      go_ret2
      exact ⟨rfl, 0, rfl⟩

/-! The reference's run in memory. -/
/-- A row stays, when a block of another type is written. -/
theorem OwnR.keepT {α : Type} {e t : TypeId} {size B g : Nat} {enc : α → List Value} {w w' : World} {v : Value} {L : List α} {cs : Array Value} (ho : OwnR e size enc w B v L) (h : Blk w g t cs) (hne : t ≠ e) (hw : w.grownBy w' (some g)) : OwnR e size enc w' B v L := by
  refine World.ownsRow.kept ho hw (.inr fun k => ?_)
  obtain ⟨cur, hc⟩ := ho.typ k
  unfold Blk at h
  rw [h] at hc
  injection hc with hc
  injection hc with _ hc
  exact hne hc
def rcells (gb : Nat) (wv sv : Value) (s : VS) (f : Int) : Array Value := #[.slice (some ⟨gb, 0, none⟩) 8 8, wv, sv, .int .i64 s.d, .int .i64 s.at_, .int .i64 s.n, .int .i64 f]
def gcells (s : VS) : Array Value := (s.g.map (Value.int .i64)).toArray
structure RefS (w0 w : World) (b gb : Nat) (wv sv : Value) (s : VS) (f : Int) : Prop where
  bel : Below w0.heap.size w0 w
  blk : Blk w b 160 (rcells gb wv sv s f)
  grow : Blk w gb 3 (gcells s)
  wrd : OwnR 3 1 encInt w w0.heap.size wv s.w
  snt : OwnR 130 3 encSnt w w0.heap.size sv s.s
  wne : wv.ownBlock ≠ some gb
  lo : w0.heap.size ≤ b
  log : w0.heap.size ≤ gb
section
variable {w0 w w' : World} {b gb : Nat} {wv sv : Value} {s : VS} {f : Int}
theorem RefS.ne (h : RefS w0 w b gb wv sv s f) : b ≠ gb := h.blk.neT h.grow (by decide)
theorem RefS.below (h : RefS w0 w b gb wv sv s f) (hb : Below w.heap.size w w') : RefS w0 w' b gb wv sv s f :=
  ⟨below_after h.bel hb, h.blk.below hb h.blk.lt, h.grow.below hb h.grow.lt, h.wrd.below hb, h.snt.below hb, h.wne, h.lo, h.log⟩
theorem RefS.drew (h : RefS w0 w b gb wv sv s f) : RefS w0 w.drew b gb wv sv s f := h.below (Below.refl _ _).drew
theorem RefS.drewN (h : RefS w0 w b gb wv sv s f) (n : Nat) : RefS w0 (w.drewN n) b gb wv sv s f := h.below (below_drewN (Below.refl _ _) n)
theorem RefS.alloc (h : RefS w0 w b gb wv sv s f) (o : Obj) : RefS w0 (w.alloc o) b gb wv sv s f := h.below ((Below.refl _ _).alloc (Nat.le_refl _) o)
/-- A store into the run's block. -/
theorem RefS.set_ (h : RefS w0 w b gb wv sv s f) (i : Nat) (u : Value) (s' : VS) (f' : Int) (hg : s'.g = s.g) (hw : s'.w = s.w) (hs : s'.s = s.s) (hc : (rcells gb wv sv s f).setIfInBounds i u = rcells gb wv sv s' f') : RefS w0 (w.setCell ⟨b, i, none⟩ u) b gb wv sv s' f' := by
  have hgr : w.grownBy (w.setCell ⟨b, i, none⟩ u) (some b) := only_setCell (World.grownBy.refl w _) (.inl rfl) _
  refine ⟨h.bel.setCell (p := ⟨b, i, none⟩) h.lo _, ?_, ?_, ?_, ?_, h.wne, h.lo, h.log⟩
  · rw [← hc]; exact h.blk.set_ i u
  · unfold gcells; rw [hg]; exact h.grow.far (p := ⟨b, i, none⟩) (Ne.symm h.ne) u
  · rw [hw]; exact h.wrd.keepT h.blk (by decide) hgr
  · rw [hs]; exact h.snt.keepT h.blk (by decide) hgr
theorem RefS.setD (h : RefS w0 w b gb wv sv s f) (d : Int) : RefS w0 (w.setCell ⟨b, 3, none⟩ (.int .i64 d)) b gb wv sv { s with d := d } f := h.set_ 3 _ _ _ rfl rfl rfl rfl
theorem RefS.setAt (h : RefS w0 w b gb wv sv s f) (a : Nat) : RefS w0 (w.setCell ⟨b, 4, none⟩ (.int .i64 a)) b gb wv sv { s with at_ := a } f := h.set_ 4 _ _ _ rfl rfl rfl rfl
theorem RefS.setN (h : RefS w0 w b gb wv sv s f) (a : Nat) : RefS w0 (w.setCell ⟨b, 5, none⟩ (.int .i64 a)) b gb wv sv { s with n := a } f := h.set_ 5 _ _ _ rfl rfl rfl rfl
theorem RefS.setF (h : RefS w0 w b gb wv sv s f) (a : Int) : RefS w0 (w.setCell ⟨b, 6, none⟩ (.int .i64 a)) b gb wv sv s a := h.set_ 6 _ _ _ rfl rfl rfl rfl
theorem RefS.regC (h : RefS w0 w b gb wv sv s f) (h8 : s.g.length = 8) {i : Nat} (hi : i < 8) : w.cell? ⟨gb, i, none⟩ = some (.int .i64 (s.reg i)) := by
  refine (h.grow.cell i).trans ?_
  unfold gcells VS.reg
  rw [List.getElem?_toArray, List.getElem?_map, List.getElem?_eq_getElem (by omega), Int.toNat_natCast, List.getD_eq_getElem?_getD, List.getElem?_eq_getElem (by omega)]
  rfl
theorem RefS.put (h : RefS w0 w b gb wv sv s f) (i : Nat) (v : Int) : RefS w0 (w.setCell ⟨gb, i, none⟩ (.int .i64 v)) b gb wv sv (s.put i v) f := by
  have hgr : w.grownBy (w.setCell ⟨gb, i, none⟩ (.int .i64 v)) (some gb) := only_setCell (World.grownBy.refl w _) (.inl rfl) _
  refine ⟨h.bel.setCell (p := ⟨gb, i, none⟩) h.log _, h.blk.far (p := ⟨gb, i, none⟩) h.ne _, ?_, World.ownsRow.kept h.wrd hgr (.inr fun e => h.wne e), h.snt.keepT h.grow (by decide) hgr, h.wne, h.lo, h.log⟩
  have := h.grow.set_ i (.int .i64 v)
  unfold gcells VS.put
  unfold gcells at this
  rw [List.setIfInBounds_toArray, ← List.map_set] at this
  rw [Int.toNat_natCast]
  exact this
theorem RefS.cells (h : RefS w0 w b gb wv sv s f) : w.cell? ⟨b, 0, none⟩ = some (.slice (some ⟨gb, 0, none⟩) 8 8) ∧ w.cell? ⟨b, 1, none⟩ = some wv ∧ w.cell? ⟨b, 2, none⟩ = some sv ∧ w.cell? ⟨b, 3, none⟩ = some (.int .i64 s.d) ∧ w.cell? ⟨b, 4, none⟩ = some (.int .i64 s.at_) ∧ w.cell? ⟨b, 5, none⟩ = some (.int .i64 s.n) ∧ w.cell? ⟨b, 6, none⟩ = some (.int .i64 f) :=
  ⟨h.blk.cell 0, h.blk.cell 1, h.blk.cell 2, h.blk.cell 3, h.blk.cell 4, h.blk.cell 5, h.blk.cell 6⟩
theorem RefS.wordC {g n c k : Nat} (h : RefS w0 w b gb (.slice (some ⟨g, 0, none⟩) n c) sv s f) (hn : n = s.w.length) (hk : k < n) : w.cell? ⟨g, k, none⟩ = some (.int .i64 (s.w.getD k 0)) ∧ w.frozen? ⟨g, k, none⟩ = false := by
  subst hn
  have hw := h.wrd
  unfold OwnR at hw
  refine ⟨?_, hw.frozenAt k⟩
  rw [hw.cellAt k (by omega), flatMap_int, List.getElem?_map, List.getElem?_eq_getElem hk, List.getD_eq_getElem?_getD, List.getElem?_eq_getElem hk]
  rfl
theorem RefS.setW {g n c : Nat} (h : RefS w0 w b gb (.slice (some ⟨g, 0, none⟩) n c) sv s f) (hn : n = s.w.length) (k : Nat) (v : Int) : RefS w0 (w.setCell ⟨g, k, none⟩ (.int .i64 v)) b gb (.slice (some ⟨g, 0, none⟩) n c) sv { s with w := s.w.set k v } f := by
  subst hn
  have hw := h.wrd
  have hBg := hw.base g rfl
  unfold OwnR at hw
  obtain ⟨h1, h2⟩ := hw.stored k (.int .i64 v)
  obtain ⟨cur, hcur⟩ := h.wrd.typ (g := g) rfl
  have hbg : b ≠ g := h.blk.neT (show Blk w g 3 cur from hcur) (by decide)
  have hgg : gb ≠ g := fun e => h.wne (by rw [e]; rfl)
  refine ⟨h.bel.setCell (p := ⟨g, k, none⟩) hBg _, h.blk.far (p := ⟨g, k, none⟩) hbg _, h.grow.far (p := ⟨g, k, none⟩) hgg _, ?_, h.snt.other h.wrd (by decide) h2, h.wne, h.lo, h.log⟩
  unfold OwnR
  rw [flatMap_int, List.map_set, List.length_set, ← flatMap_int]
  exact h1
/-- An event is sent. -/
theorem RefS.send (h : RefS w0 w b gb wv sv s f) (hl : s.s.length ≤ 4) (x : Snt) (ty : TypeId) :
    ∃ A' c' w1, (Builtin.append_ #[113, 113] ty #[sv, .slice (some ⟨w.heap.size, 0, none⟩) 1 1]).run Try.prog (w.alloc (.cells #[.int .i64 x.1, .int .i64 x.2.1, .int .i64 x.2.2] 130)) = .ok (.slice A' (s.s.length + 1) c') w1 ∧
      w1.cell? ⟨b, 2, none⟩ = some sv ∧ w1.frozen? ⟨b, 2, none⟩ = false ∧ RefS w0 (w1.setCell ⟨b, 2, none⟩ (.slice A' (s.s.length + 1) c')) b gb wv (.slice A' (s.s.length + 1) c') { s with s := s.s ++ [x] } f := by
  obtain ⟨v2, w2, hrun, hown, hext⟩ := run_append_one (P := Try.prog) 130 113 ty 3 24 (.agg #[.int .i64 0, .int .i64 0, .int .i64 0]) encSnt (by decide) (fun _ => rfl) one_snt Try.underlying113 inf_snt rfl w w0.heap.size sv s.s x _ rfl h.snt (by omega) (by omega) h.bel.size
  obtain ⟨⟨sA, sc, sL⟩, hv, hsL, _⟩ := hown.form
  simp only [Sl.val] at hv hsL
  subst hsL
  rw [List.length_append, List.length_singleton] at hv
  subst hv
  have hg := hext.1
  have hblk := h.snt.blkT h.blk (by decide) hg
  have hgrow := h.snt.blkT h.grow (by decide) hg
  have hwrd : OwnR 3 1 encInt w2 w0.heap.size wv s.w := h.wrd.other h.snt (by decide) hg
  have hbel : Below w0.heap.size w0 w2 := h.bel.trans ((Below.refl w0.heap.size w).grown hg h.bel.size fun k hk => h.snt.base k hk)
  have hgr : w2.grownBy (w2.setCell ⟨b, 2, none⟩ (.slice sA (s.s.length + 1) sc)) (some b) := only_setCell (World.grownBy.refl w2 _) (.inl rfl) _
  refine ⟨sA, sc, w2, hrun, hblk.cell 2, hblk.frozen 2, ⟨hbel.setCell (p := ⟨b, 2, none⟩) h.lo _, ?_, hgrow.far (p := ⟨b, 2, none⟩) (Ne.symm h.ne) _, hwrd.keepT hblk (by decide) hgr, OwnR.keepT hown hblk (by decide) hgr, h.wne, h.lo, h.log⟩⟩
  exact hblk.set_ 2 _
end
end Go.Proofs.Ytpfcmfannkbipaa
