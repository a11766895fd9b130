/- Texts of this claim in one. No condition. -/
import Derived.Test.YtpfcmfannkbipaaJ47
import Derived.Test.YtpfcmfannkbipaaJ26
section
set_option linter.unusedVariables false
set_option linter.unusedSimpArgs false
set_option maxRecDepth 20000
namespace Go.Proofs.Ytpfcmfannkbipaa
open Go.RowKit Go.Deep Go.Maps

attribute [local go_sem] run_store_float
section
variable {lo g b : Nat} {m : Mdl} {S : Sl St} {L : List NE} {nx hd : Int} {w w' : World}
/-- A state is written in its place. -/
theorem PSm.setSt (h : PSm lo g b m S L nx hd w) {k : Nat} (hk : k < S.L.length) (x : St) (hx : TRow 3 IntAt 1 w x.wd ∧ I64 x.sent ∧ I64 x.dice) :
    ∃ gS z0 z1 z2, S.A = some ⟨gS, 0, none⟩ ∧ w.cell? ⟨gS, k * 3, none⟩ = some z0 ∧ w.cell? ⟨gS, k * 3 + 1, none⟩ = some z1 ∧ w.cell? ⟨gS, k * 3 + 2, none⟩ = some z2 ∧ w.frozen? ⟨gS, k * 3, none⟩ = false ∧ w.frozen? ⟨gS, k * 3 + 1, none⟩ = false ∧ w.frozen? ⟨gS, k * 3 + 2, none⟩ = false ∧
      PSm lo g b m ⟨S.A, S.c, S.L.set k x⟩ L nx hd (((w.setCell ⟨gS, k * 3, none⟩ x.wd.val).setCell ⟨gS, k * 3 + 1, none⟩ (.int .i64 x.sent)).setCell ⟨gS, k * 3 + 2, none⟩ (.int .i64 x.dice)) ∧
      Off (tch g b S) w (((w.setCell ⟨gS, k * 3, none⟩ x.wd.val).setCell ⟨gS, k * 3 + 1, none⟩ (.int .i64 x.sent)).setCell ⟨gS, k * 3 + 2, none⟩ (.int .i64 x.dice)) := by
  obtain ⟨gS, cur, hA, hB, hblk, hsz, hown⟩ := OwnR.set3 (enc := encSt) (fun _ => rfl) (A := S.A) h.st hk x x.wd.val (.int .i64 x.sent) (.int .i64 x.dice) rfl
  have hob : S.val.ownBlock = some gS := by unfold Sl.val; rw [hA]; rfl
  have ho0 : Off (fun k => k = gS) w (((w.setCell ⟨gS, k * 3, none⟩ x.wd.val).setCell ⟨gS, k * 3 + 1, none⟩ (.int .i64 x.sent)).setCell ⟨gS, k * 3 + 2, none⟩ (.int .i64 x.dice)) :=
    (((Off.refl (fun k => k = gS) w).setCell (p := ⟨gS, k * 3, none⟩) (.inl rfl) _).setCell (p := ⟨gS, k * 3 + 1, none⟩) (.inl rfl) _).setCell (p := ⟨gS, k * 3 + 2, none⟩) (.inl rfl) _
  obtain ⟨z0, u0⟩ : ∃ z, w.cell? ⟨gS, k * 3, none⟩ = some z := ⟨_, (hblk.cell (k * 3)).trans (Array.getElem?_eq_getElem (by omega))⟩
  obtain ⟨z1, u1⟩ : ∃ z, w.cell? ⟨gS, k * 3 + 1, none⟩ = some z := ⟨_, (hblk.cell (k * 3 + 1)).trans (Array.getElem?_eq_getElem (by omega))⟩
  obtain ⟨z2, u2⟩ : ∃ z, w.cell? ⟨gS, k * 3 + 2, none⟩ = some z := ⟨_, (hblk.cell (k * 3 + 2)).trans (Array.getElem?_eq_getElem (by omega))⟩
  have hgg : g ≠ gS := Blk.ne_ h.box hblk (by decide)
  have hint : ∀ k t cs, Blk w k t cs → mtyp t → ¬ k = gS := fun k t cs hk ht e => Blk.ne_ hk hblk (mtyp_ne ht (by decide) (by decide) (by decide) (by decide) (by decide) (by decide)) e
  have hin1 : ∀ k cs, Blk w k 3 cs → ¬ k = gS := fun k cs hk => hint k _ cs hk (.inl rfl)
  refine ⟨gS, z0, z1, z2, hA, u0, u1, u2, hblk.frozen _, hblk.frozen _, hblk.frozen _, ⟨⟨h.ms.1.off ho0 hint, h.ms.2⟩, h.ge, h.geb, ?_, hown, fun s hs => ?_, ?_, h.num⟩, ho0.mono fun k _ e => .inr (.inr (by rw [e]; exact hob))⟩
  · have := ho0.blk h.box hgg
    have e : simC m ⟨S.A, S.c, S.L.set k x⟩ b nx hd = simC m S b nx hd := by unfold simC Sl.val; simp only [List.length_set]
    rw [e]
    exact this
  · rcases List.mem_or_eq_of_mem_set hs with hs | rfl
    · exact ⟨(h.wds s hs).1.off int_local ho0 hin1, (h.wds s hs).2⟩
    · exact ⟨hx.1.off int_local ho0 hin1, hx.2⟩
  · obtain ⟨D, h1, h2⟩ := h.mp
    exact ⟨D, ho0.map h1 (Ne.symm (h.notb hblk)), h2⟩
/-- One more was handled. -/
theorem PSm.hd1 (h : PSm lo g b m S L nx hd w) (v : Int) : PSm lo g b m S L nx v (w.setCell ⟨g, 9, none⟩ (.int .i64 v)) ∧ Off (tch g b S) w (w.setCell ⟨g, 9, none⟩ (.int .i64 v)) := by
  have ho : Off (tch g b S) w (w.setCell ⟨g, 9, none⟩ (.int .i64 v)) := (Off.refl _ w).setCell (p := ⟨g, 9, none⟩) (.inl (.inl rfl)) _
  have ho0 : Off (fun k => k = g) w (w.setCell ⟨g, 9, none⟩ (.int .i64 v)) := (Off.refl (fun k => k = g) w).setCell (p := ⟨g, 9, none⟩) (.inl rfl) _
  have hint : ∀ k cs, Blk w k 3 cs → ¬ tch g b S k := fun k cs hk => h.typ hk (by decide) (by decide)
  refine ⟨⟨⟨h.ms.1.off ho fun k t cs hk ht => h.mty hk ht, h.ms.2⟩, h.ge, h.geb, ?_, ho0.own h.st fun k hk e => ?_, fun s hs => ⟨(h.wds s hs).1.off int_local ho hint, (h.wds s hs).2⟩, ?_, h.num⟩, ho⟩
  · have := h.box.set_ 9 (.int .i64 v)
    simpa [simC] using this
  · obtain ⟨cur, hc⟩ := h.st.typ hk
    exact Blk.ne_ (t := 61) hc h.box (by decide) e
  · obtain ⟨D, h1, h2⟩ := h.mp
    exact ⟨D, ho0.map h1 (Ne.symm h.ne), h2⟩
/-- A box that is the call's own is written. -/
theorem PSm.ownboxT {n : Nat} {t : TypeId} {cs : Array Value} (h : PSm lo g b m S L nx hd w) (hX : Blk w n t cs) (h1 : t ≠ 136) (h2 : 61 ≠ t) (h3 : ∀ u, mtyp u → u ≠ t) (hlo : lo ≤ n) (ho : Off (fun k => k = n) w w') : PSm lo g b m S L nx hd w' :=
  h.off ho (fun k hk e => h.typ hX h1 h2 (e ▸ hk)) fun k u cs' hk hu e => Blk.ne_ hk hX (h3 u hu) e
theorem mtyp_done : ∀ u, mtyp u → u ≠ 39 := fun u h => mtyp_ne h (by decide) (by decide) (by decide) (by decide) (by decide) (by decide)
end
theorem off_set6e {w wr : World} {n : Nat} {T : Nat → Prop} (h : Off T w wr) (hn : T n ∨ w.heap.size ≤ n) (a b c d e f : Value) : Off T w ((((((wr.setCell ⟨n, 0, none⟩ a).setCell ⟨n, 1, none⟩ b).setCell ⟨n, 2, none⟩ c).setCell ⟨n, 3, none⟩ d).setCell ⟨n, 4, none⟩ e).setCell ⟨n, 5, none⟩ f) :=
  (off_set5e h hn a b c d e).setCell (p := ⟨n, 5, none⟩) hn f
theorem hanQ {w w' : World} {sw : Sl Int} {E : Int} {R : StP × List Ev × Int} {e : Ending} (h : HanW w E R e w') : RHanQ w sw E R e w' := by
  obtain ⟨wd, q, rfl, h1, h2, h3, h4, h5, h6, h7⟩ := h
  exact rhanQ (sw := sw) ⟨wd, q, rfl, h1, h2, h3, h4, h7, .inr h5, h6⟩
set_option maxHeartbeats 2000000 in
/-- Nothing waits: nothing is handled. -/
theorem step9p_none {lo g b : Nat} {m : Mdl} {S : Sl St} {nx hd : Int} {w : World} (h : PSm lo g b m S [] nx hd w) (hnx : nx ≤ 1000000000) :
    Calls Try.prog 61 #[.pointer (some ⟨g, 0, none⟩)] w fun x w' => x = .returned stepNone ∧ PSm lo g b m S [] nx hd w' ∧ Off (tch g b S) w w' := by
  have hX := Blk.new w 39 #[.float .f64 0, .int .i64 0, .int .i64 0, .int .i64 0, .int .i64 0, .int .i64 0]
  have hb := (Below.refl w.heap.size w).alloc (Nat.le_refl _) (.cells #[.float .f64 0, .int .i64 0, .int .i64 0, .int .i64 0, .int .i64 0, .int .i64 0] 39)
  have HT := hide (take9_any (h.below hb) hnx)
  have HL := hide (show lo ≤ w.heap.size by have := h.thi (.inl rfl); have := h.ge; omega)
  have HT2 := hide (fun k cs (hk : Blk (w.alloc (.cells #[.float .f64 0, .int .i64 0, .int .i64 0, .int .i64 0, .int .i64 0, .int .i64 0] 39)) k 39 cs) => (h.below hb).typ hk (by decide) (by decide))
  have HB := hide hb
  have HX := hide hX
  clear hb hX h
  go_enter Try.func61, Try.ntmps61
  go_upto_region 1 with fail
  generalize w.alloc (.cells #[.float .f64 0, .int .i64 0, .int .i64 0, .int .i64 0, .int .i64 0, .int .i64 0] 39) = W1 at *
  generalize hn : w.heap.size = n at *
  go_wp2_with fail
  refine HT.out.mono ?_
  rintro x w2 ⟨bb, f, hcase, rfl, hP2, hO2⟩
  obtain ⟨rfl, rfl⟩ : bb = -1 ∧ f = (0, 0, 0, 0, 0) := by
    rcases hcase with ⟨_, h1, h2⟩ | ⟨p, r, h0, _⟩
    · exact ⟨h1, h2⟩
    · cases h0
  rw [show decide ((0 : Int) ≤ -1) = false from rfl]
  have hX2 := hO2.blk HX.out (HT2.out _ _ HX.out)
  have hb3 := (Below.refl w2.heap.size w2).alloc (Nat.le_refl _) (.cells (evC9 (0, 0, 0, 0, 0)) 37)
  have hX3 := hX2.below hb3 hX2.lt
  have hO3 := ((Off.of_below (T := tch g b S) (hn.symm ▸ HB.out)).trans hO2).after hb3
  have HFIN := hide (fun a0 a1 a2 a3 a4 a5 => And.intro ((hP2.below hb3).ownboxT hX3 (by decide) (by decide) mtyp_done HL.out (off_set6e (T := fun k => k = n) (n := n) (Off.refl (fun k => k = n) _) (.inl rfl) a0 a1 a2 a3 a4 a5)) (off_set6e hO3 (.inr (by rw [hn]; exact Nat.le_refl n)) a0 a1 a2 a3 a4 a5))
  have fx0 := hX3.frozen 0
  have fx1 := hX3.frozen 1
  have fx2 := hX3.frozen 2
  have fx3 := hX3.frozen 3
  have fx4 := hX3.frozen 4
  have fx5 := hX3.frozen 5
  have x0 := hX3.cell 0
  have x1 := hX3.cell 1
  have x2 := hX3.cell 2
  have x3 := hX3.cell 3
  have x4 := hX3.cell 4
  have x5 := hX3.cell 5
  simp only [List.getElem?_toArray, List.getElem?_cons_zero, List.getElem?_cons_succ] at x0 x1 x2 x3 x4 x5
  clear hcase hX2 hb3 hX3 hO3 hP2 hO2 HT HT2 HB HX hn
  unfold evC9 at *
  go_wp2_with fail
  refine bodyPost_ret (v := stepNone) (by simp [results, Try.results61, go_sem, stepNone, x0, x1, x2, x3, x4, x5]) rfl ?_
  exact ⟨rfl, HFIN.out _ _ _ _ _ _⟩
end Go.Proofs.Ytpfcmfannkbipaa
end

section
set_option linter.unusedVariables false
set_option linter.unusedSimpArgs false
set_option maxRecDepth 20000
namespace Go.Proofs.Ytpfcmfannkbipaa
open Go.RowKit Go.Deep Go.Maps

attribute [local go_sem] run_store_float
/-- What a step leaves. -/
def Step9pTo (w : World) (lo g b : Nat) (m : Mdl) (S : Sl St) (nx hd : Int) (e : Ev) (r : List NE) (k : Nat) (R : StP × List Ev × Int) (x : Ending) (w' : World) : Prop :=
  ∃ S' : Sl St, x = .returned (.tuple #[.agg (dnC (dnOf e R.2.2)), .bool true]) ∧ S'.val = S.val ∧ PSm lo g b m S' (insNs nx R.2.1 r) (nx + R.2.1.length) (hd + 1) w' ∧ S'.L.map St.pl = (S.L.map St.pl).set k R.1 ∧ Off (tch g b S) w w'
set_option maxHeartbeats 4000000 in
theorem step9p_some {lo g b : Nat} {m : Mdl} {S : Sl St} {n0 : Int} {e : Ev} {r : List NE} {nx hd : Int} {w : World} (h : PSm lo g b m S ((n0, e) :: r) nx hd w) (hok : EvOk e) (hd0 : 0 ≤ e.2.2.2.1) (sk : St) (hsk0 : S.L[e.2.2.2.1.toNat]? = some sk) (hnx : nx ≤ 1000000) (hhd : 0 ≤ hd ∧ hd ≤ 1000000000) (hsS : S.L.length ≤ 1000000) :
    Calls Try.prog 61 #[.pointer (some ⟨g, 0, none⟩)] w (Step9pTo w lo g b m S nx hd e r e.2.2.2.1.toNat (hR m e.2.2.2.1 sk.pl e)) := by
  obtain ⟨et, es, en, ed, ep⟩ := e
  simp only at hd0 hsk0
  obtain ⟨k, rfl⟩ : ∃ k : Nat, ed = k := ⟨ed.toNat, by omega⟩
  rw [Int.toNat_natCast] at hsk0
  have hsk1 := List.mem_of_getElem? hsk0
  have hd1 : (k : Int) < S.L.length := by have := (List.getElem?_eq_some_iff.1 hsk0).1; omega
  simp only [Int.toNat_natCast]
  have HRO := hide (hR_ok (lp := (k : Int)) (s := sk) h.mat ⟨(h.wds _ hsk1).1.at_, (h.wds _ hsk1).2⟩ hok)
  obtain ⟨Post, hPost⟩ : ∃ P, P = Step9pTo w lo g b m S nx hd (et, es, en, (k : Int), ep) r k (hR m (k : Int) sk.pl (et, es, en, (k : Int), ep)) := ⟨_, rfl⟩
  rw [← hPost]
  have HPO := hide hPost
  clear hPost
  have hX := Blk.new w 39 #[.float .f64 0, .int .i64 0, .int .i64 0, .int .i64 0, .int .i64 0, .int .i64 0]
  have hb := (Below.refl w.heap.size w).alloc (Nat.le_refl _) (.cells #[.float .f64 0, .int .i64 0, .int .i64 0, .int .i64 0, .int .i64 0, .int .i64 0] 39)
  have HT := hide (take9_any (h.below hb) (by omega))
  have HL := hide (show lo ≤ w.heap.size by have := h.thi (.inl rfl); have := h.ge; omega)
  have HTy := hide (fun k t cs (hk : Blk (w.alloc (.cells #[.float .f64 0, .int .i64 0, .int .i64 0, .int .i64 0, .int .i64 0, .int .i64 0] 39)) k t cs) (h1 : t ≠ 136) (h2 : 61 ≠ t) => (h.below hb).typ hk h1 h2)
  have HB := hide hb
  have HX := hide hX
  have hn0 : 0 ≤ n0 := (h.num.lo (n0, (et, es, en, (k : Int), ep)) (by simp)).1
  have hnx0 := h.num.nx
  clear hb hX h
  go_enter Try.func61, Try.ntmps61
  go_upto_region 1 with fail
  generalize w.alloc (.cells #[.float .f64 0, .int .i64 0, .int .i64 0, .int .i64 0, .int .i64 0, .int .i64 0] 39) = W1 at *
  generalize hn : w.heap.size = n at *
  have HN := hide hn
  clear hn
  go_wp2_with fail
  refine HT.out.mono ?_
  rintro x w2 ⟨bb, f, hcase, rfl, hP2, hO2⟩
  obtain ⟨rfl, rfl⟩ : bb = n0 ∧ f = (et, es, en, (k : Int), ep) := by
    rcases hcase with ⟨h0, _⟩ | ⟨p, r', h0, h1, h2⟩
    · cases h0
    · cases h0
      exact ⟨h1, h2⟩
  clear hcase
  rw [decide_eq_true hn0]
  simp only [List.tail_cons] at hP2
  have hX2 := hO2.blk HX.out (HTy.out _ _ _ HX.out (by decide) (by decide))
  have hE3 := Blk.new w2 37 (evC9 (et, es, en, (k : Int), ep))
  have hb3 := (Below.refl w2.heap.size w2).alloc (Nat.le_refl _) (.cells (evC9 (et, es, en, (k : Int), ep)) 37)
  have hX3 := hX2.below hb3 hX2.lt
  have hO3 := ((Off.of_below (T := tch g b S) (HN.out.symm ▸ HB.out)).trans hO2).after hb3
  have hM3 := hP2.below hb3
  clear hX2 hP2 hO2 hb3 HT HTy HB HX
  unfold evC9 at *
  go_upto_region 6 with fail
  generalize hW3 : w2.alloc (.cells #[.float .f64 et, .int .i64 es, .int .i64 en, .int .i64 (k : Int), .int .i64 ep] 37) = W3 at *
  generalize w2.heap.size = gE at *
  clear hW3
  have hTS : TRow 61 StB 3 W3 S := TRow.of_own (ok := fun _ _ => True) (by decide) (fun _ => rfl) makes_stb hM3.st (fun _ _ => trivial)
  obtain ⟨bS, hbS, t0, t1, t2⟩ := hTS.at_.1 k _ hsk0
  have hws := hM3.wds _ hsk1
  have HRH := hide (fun W (hb : Below W3.heap.size W3 W) => Calls.mono (R := HanW W (hE m (k : Int) sk.pl (et, es, en, (k : Int), ep)) (hR m (k : Int) sk.pl (et, es, en, (k : Int), ep))) (handlew_any m (k : Int) sk (et, es, en, (k : Int), ep) W (hM3.mat.below hb) ⟨hws.1.at_.below IntAt.keeps hb, hws.2⟩ hok) (fun _ _ h => hanQ (sw := sk.wd) h))
  have b6 : W3.cell? ⟨g, 6, none⟩ = some (.slice (some bS) S.L.length S.c) := by rw [← hbS]; exact hM3.box.cell 6
  have HSS : Hid (∀ W', Below W3.heap.size W3 W' → (W'.cell? ⟨g, 0, none⟩ = some (.int .i64 m.seed) ∧ W'.cell? ⟨g, 1, none⟩ = some (.float .f64 m.fin) ∧ W'.cell? ⟨g, 2, none⟩ = some m.dl.val ∧ W'.cell? ⟨g, 3, none⟩ = some m.pl.val ∧ W'.cell? ⟨g, 4, none⟩ = some m.ll.val ∧ W'.cell? ⟨g, 5, none⟩ = some m.il.val ∧ W'.cell? ⟨g, 6, none⟩ = some (.slice (some bS) S.L.length S.c) ∧ W'.cell? ⟨gE, 0, none⟩ = some (.float .f64 et) ∧ W'.cell? ⟨gE, 1, none⟩ = some (.int .i64 es) ∧ W'.cell? ⟨gE, 2, none⟩ = some (.int .i64 en) ∧ W'.cell? ⟨gE, 3, none⟩ = some (.int .i64 k) ∧ W'.cell? ⟨gE, 4, none⟩ = some (.int .i64 ep) ∧ W'.cell? (bS.add (k * 3)) = some sk.wd.val ∧ W'.cell? ⟨(bS.add (k * 3)).block, (bS.add (k * 3)).off + 1, none⟩ = some (.int .i64 sk.sent) ∧ W'.cell? ⟨(bS.add (k * 3)).block, (bS.add (k * 3)).off + 2, none⟩ = some (.int .i64 sk.dice) ∧ Below W3.heap.size W3 W')) :=
    hide fun W' h => ⟨keepc h (hM3.box.cell 0), keepc h (hM3.box.cell 1), keepc h (hM3.box.cell 2), keepc h (hM3.box.cell 3), keepc h (hM3.box.cell 4), keepc h (hM3.box.cell 5), keepc h b6, keepc h (hE3.cell 0), keepc h (hE3.cell 1), keepc h (hE3.cell 2), keepc h (hE3.cell 3), keepc h (hE3.cell 4), keepc h t0, keepc h t1, keepc h t2, h⟩
  have hD : Below W3.heap.size W3 W3.drew := (Below.refl _ _).drew
  generalize hRe : hR m (k : Int) sk.pl (et, es, en, (k : Int), ep) = R at HRH HRO
  generalize hE m (k : Int) sk.pl (et, es, en, (k : Int), ep) = F at HRH
  have HM3 := hide hM3
  have HE3 := hide hE3
  have HX3 := hide hX3
  have HO3 := hide hO3
  have HRe := hide hRe
  have kL : (k : Int) < (S.L.length : Int) := hd1
  have kJ : (0 : Int) ≤ (k : Int) := hd0
  have kN : k < S.L.length := by omega
  have HWS := hide hws
  clear hM3 hE3 hX3 hO3 hws hRe hok t0 t1 t2 b6 hsk1 hsk0 hbS hd0 hd1 hTS
  go_cut [6, 7, 8, 9] (fun x l f e wx => StC W3 sk.wd R x l f wx)
  case first =>
    go_region_held3 (fun W' => W'.cell? ⟨g, 0, none⟩ = some (.int .i64 m.seed) ∧ W'.cell? ⟨g, 1, none⟩ = some (.float .f64 m.fin) ∧ W'.cell? ⟨g, 2, none⟩ = some m.dl.val ∧ W'.cell? ⟨g, 3, none⟩ = some m.pl.val ∧ W'.cell? ⟨g, 4, none⟩ = some m.ll.val ∧ W'.cell? ⟨g, 5, none⟩ = some m.il.val ∧ W'.cell? ⟨g, 6, none⟩ = some (.slice (some bS) S.L.length S.c) ∧ W'.cell? ⟨gE, 0, none⟩ = some (.float .f64 et) ∧ W'.cell? ⟨gE, 1, none⟩ = some (.int .i64 es) ∧ W'.cell? ⟨gE, 2, none⟩ = some (.int .i64 en) ∧ W'.cell? ⟨gE, 3, none⟩ = some (.int .i64 k) ∧ W'.cell? ⟨gE, 4, none⟩ = some (.int .i64 ep) ∧ W'.cell? (bS.add (k * 3)) = some sk.wd.val ∧ W'.cell? ⟨(bS.add (k * 3)).block, (bS.add (k * 3)).off + 1, none⟩ = some (.int .i64 sk.sent) ∧ W'.cell? ⟨(bS.add (k * 3)).block, (bS.add (k * 3)).off + 2, none⟩ = some (.int .i64 sk.dice) ∧ Below W3.heap.size W3 W')
      (first
        | exact HSS.out _ hD
        | (go_split_ands; exact HSS.out _ (below_after (by assumption) hbR))
        | (go_split_ands; with_reducible exact HSS.out _ (Below.alloc (by assumption) (Below.size (by assumption)) _))
        | (go_split_ands; with_reducible exact HSS.out _ (Below.swap (by assumption) hsR hsR))
        | (go_split_ands; exact HSS.out _ (Below.setCell (Below.setCell (Below.setCell (by assumption) (by simp) _) (by simp) _) (by simp) _)))
      (first
        | (go_at_call 41; go_split_ands; refine (HRH.out _ (by assumption)).mono ?_; rintro e wR ⟨rA, rc, qA, qc, rfl, hr5, hr6, hr7, hbR⟩; have hsR := Nat.le_trans (Below.size (by assumption : Below W3.heap.size W3 _)) hbR.size; try (have hG : Blk wR W3.heap.size 61 #[.slice none 0 0, .int .i64 0, .int .i64 0] := Blk.below (by first | exact (Blk.new W3 _ _).drew | exact Blk.new W3.drew _ _) hbR (by simp); have g0 := hG.cell 0; have g1 := hG.cell 1; have g2 := hG.cell 2; have u0 := hG.frozen 0; have u1 := hG.frozen 1; have u2 := hG.frozen 2; simp only [List.getElem?_toArray, List.getElem?_cons_zero, List.getElem?_cons_succ] at g0 g1 g2)))
    all_goals go_split_ands
    all_goals (try go_wp2_with fail)
    all_goals go_meet
    all_goals first
      | (have hbb : Below W3.heap.size W3 wR := below_after (((Below.refl _ _).alloc (Nat.le_refl _) _).drew) hbR
         have h1 : (⟨rA, rc, R.1.1⟩ : Sl Int) = sk.wd ∨ OwnR 3 1 encInt wR (W3.heap.size + 1) (.slice rA R.1.1.length rc) R.1.1 := by have := hr5.out; simpa using this
         have h2 : OwnR 37 5 encEv wR (W3.heap.size + 1) (.slice qA R.2.1.length qc) R.2.1 := by have := hr6.out; simpa using this
         with_reducible exact stC_first rfl (Nat.le_refl _) (by assumption) hr7.out hbb h1 h2)
      | (have hbb : Below W3.heap.size W3 wR := below_after hD hbR
         have h1 : (⟨rA, rc, R.1.1⟩ : Sl Int) = sk.wd ∨ OwnR 3 1 encInt wR W3.heap.size (.slice rA R.1.1.length rc) R.1.1 := hr5.out
         have h2 : OwnR 37 5 encEv wR W3.heap.size (.slice qA R.2.1.length qc) R.2.1 := hr6.out
         with_reducible exact stC_late hr7.out hbb h1 h2)
  case rest =>
    obtain ⟨gx, wA, wk, qA, qc, rfl, rfl, rfl, hgx, hB, hW5, hQ6, hz7, hb4⟩ := hcut
    have hb5 := hb4.drew
    have hM4 := HM3.out.below hb5
    have hE4 := (HE3.out.below hb5 HE3.out.lt)
    have hX4 := (HX3.out.below hb5 HX3.out.lt)
    have hwd : TRow 3 IntAt 1 wc.drew ⟨wA, wk, R.1.1⟩ := by
      rcases hW5 with h | h
      · rw [h]; exact HWS.out.1.below IntAt.keeps hb5
      · exact TRow.of_own (s := ⟨wA, wk, R.1.1⟩) (ok := fun _ z => I64 z) (by decide) (fun _ => rfl) makes_int h.drew hz7
    have hQ : TRow 37 EvB 5 wc.drew ⟨qA, qc, R.2.1⟩ := TRow.of_own (s := ⟨qA, qc, R.2.1⟩) (ok := fun _ _ => True) (by decide) (fun _ => rfl) makes_evb hQ6.drew (fun _ _ => trivial)
    have hBd := hB.drew
    obtain ⟨gS, z0, z1, z2, hSA, u0, u1, u2, v0, v1, v2, hM6, hO6⟩ := hM4.setSt kN ⟨⟨wA, wk, R.1.1⟩, R.1.2.1, R.1.2.2⟩ ⟨hwd, HRO.out.si, HRO.out.di⟩
    have g6 := hM4.box.cell 6
    have e3 := hE4.cell 3
    have b0 := hBd.cell 0
    have b1 := hBd.cell 1
    have b2 := hBd.cell 2
    simp only [simC, Sl.val, hSA, List.getElem?_toArray, List.getElem?_cons_zero, List.getElem?_cons_succ] at g6 e3 b0 b1 b2
    have HE6 := hide (hO6.blk hE4 (hM4.typ hE4 (by decide) (by decide)))
    have HX6 := hide (hO6.blk hX4 (hM4.typ hX4 (by decide) (by decide)))
    have HQ6 := hide (hQ.off evb_local hO6 (fun k cs hk => hM4.typ hk (by decide) (by decide)))
    have HO6 := hide ((HO3.out.after hb5).trans hO6)
    have HM6 := hide hM6
    clear hb5 hM4 hE4 hX4 hwd hQ hBd hM6 hO6 hB hW5 hQ6 hz7 hb4 HSS HRH hD HM3 HE3 HX3 HO3 HWS
    simp only [Sl.val] at HM6 HO6 HE6 HX6 HQ6
    go_upto_region 7 with fail
    refine wp_region_still_tail 8 (by kernel_rfl) (by kernel_rfl) ?_
    change wpStill _ _ (World.drew wc) _ _ _
    change wpStill _ _ _ (fun a' => wpList Try.prog _ _ _ a' (World.drew wc)) _ _
    generalize World.drew wc = wd at *
    simp only [List.take_succ_cons, List.take_zero, List.drop_succ_cons, List.drop_zero]
    repeat still_step
    refine wpStill_nil ?_
    go_upto_region 8 with fail
    generalize World.setCell (World.setCell (World.setCell wd _ _) _ _) _ _ = w6 at *
    clear u0 u1 u2 v0 v1 v2 g6 e3 b0 b1 b2
    obtain ⟨S6, hS6⟩ : ∃ S6 : Sl St, S6 = ⟨S.A, S.c, S.L.set k ⟨⟨wA, wk, R.1.1⟩, R.1.2.1, R.1.2.2⟩⟩ := ⟨_, rfl⟩
    rw [← hS6] at HM6
    have HSV := hide (show S6.val = S.val by rw [hS6]; unfold Sl.val; simp only [List.length_set])
    have HSM := hide (show S6.L.map St.pl = (S.L.map St.pl).set k R.1 by rw [hS6]; simp only [List.map_set]; rfl)
    have HTC := hide (show tch g b S6 = tch g b S by unfold tch; rw [HSV.out])
    clear hS6 hSA
    have hel := HRO.out.el
    have HPT := hide (put9p_any HM6.out ⟨qA, qc, R.2.1⟩ HQ6.out (by simp only; omega))
    obtain ⟨⟨r11, r12, r13⟩, r2, r3⟩ := R
    simp only [Sl.val] at HPT hel HSM ⊢
    go_wp2_with fail
    refine HPT.out.mono ?_
    rintro x w7 ⟨rfl, hP7, hO7⟩
    have hE7 := hO7.blk HE6.out (HM6.out.typ HE6.out (by decide) (by decide))
    have hX7 := hO7.blk HX6.out (HM6.out.typ HX6.out (by decide) (by decide))
    have hO7' := HO6.out.trans (HTC.out ▸ hO7)
    obtain ⟨hP8, hO8⟩ := hP7.hd1 (hd + 1)
    have hE8 := hO8.blk hE7 (hP7.typ hE7 (by decide) (by decide))
    have hX8 := hO8.blk hX7 (hP7.typ hX7 (by decide) (by decide))
    have hO9 := hO7'.trans (HTC.out ▸ hO8)
    have c9 := hP7.box.cell 9
    have f9 := hP7.box.frozen 9
    simp only [simC, List.getElem?_toArray, List.getElem?_cons_zero, List.getElem?_cons_succ] at c9
    have HE8 := hide hE8
    have HX8 := hide hX8
    have HO9 := hide hO9
    have HP8 := hide hP8
    clear hE7 hX7 hO7' hP8 hO8 hE8 hX8 hO9 hP7 hO7 HPT HE6 HX6 HQ6 HO6 HM6
    go_upto_region 10 with fail
    generalize World.setCell w7 _ _ = w8 at *
    clear c9 f9
    have HFIN := hide (fun a0 a1 a2 a3 a4 a5 => And.intro (HP8.out.ownboxT HX8.out (by decide) (by decide) mtyp_done HL.out (off_set6e (T := fun k => k = n) (n := n) (Off.refl (fun k => k = n) _) (.inl rfl) a0 a1 a2 a3 a4 a5)) (off_set6e HO9.out (.inr (by rw [HN.out]; exact Nat.le_refl n)) a0 a1 a2 a3 a4 a5))
    have HEND := hide (show ∀ W, PSm lo g b m S6 (insNs nx r2 r) (nx + r2.length) (hd + 1) W ∧ Off (tch g b S) w W → Post (.returned (.tuple #[.agg #[.float .f64 et, .int .i64 es, .int .i64 en, .int .i64 (k : Int), .int .i64 ep, .int .i64 r3], .bool true])) W by
      rintro W ⟨h1, h2⟩
      rw [HPO.out, HRe.out]
      exact ⟨S6, rfl, HSV.out, h1, HSM.out, h2⟩)
    have hX8 := HX8.out
    have hE8 := HE8.out
    have fx0 := hX8.frozen 0
    have fx1 := hX8.frozen 1
    have fx2 := hX8.frozen 2
    have fx3 := hX8.frozen 3
    have fx4 := hX8.frozen 4
    have fx5 := hX8.frozen 5
    have x0 := hX8.cell 0
    have x1 := hX8.cell 1
    have x2 := hX8.cell 2
    have x3 := hX8.cell 3
    have x4 := hX8.cell 4
    have x5 := hX8.cell 5
    simp only [List.getElem?_toArray, List.getElem?_cons_zero, List.getElem?_cons_succ] at x0 x1 x2 x3 x4 x5
    have e0 := hE8.cell 0
    have e1 := hE8.cell 1
    have e2 := hE8.cell 2
    have e3 := hE8.cell 3
    have e4 := hE8.cell 4
    simp only [List.getElem?_toArray, List.getElem?_cons_zero, List.getElem?_cons_succ] at e0 e1 e2 e3 e4
    clear hX8 hE8 HX8 HE8 HP8 HO9 HPO HRe HRO HSV HSM HTC
    go_wp2_with fail
    refine bodyPost_ret (v := .tuple #[.agg #[.float .f64 et, .int .i64 es, .int .i64 en, .int .i64 (k : Int), .int .i64 ep, .int .i64 r3], .bool true]) (by simp [results, Try.results61, go_sem, x0, x1, x2, x3, x4, x5]) rfl ?_
    exact HEND.out _ (HFIN.out _ _ _ _ _ _)
end Go.Proofs.Ytpfcmfannkbipaa
end
