/- The walks of modelio.list, at each type, and of what it is handed. No condition but sizes that any memory has. Printed by wip/tools/mio.py. -/
import Derived.Test.YtegegljpmelomaaMioW
import Derived.Test.YtegegljpmelomaaTree
set_option linter.unusedVariables false
set_option linter.unusedSimpArgs false
set_option maxRecDepth 20000
namespace Go.Proofs.Ytegegljpmelomaa
open Go.RowKit Go.Deep
attribute [local go_sem] run_store_float

def LayRel {α : Type} (w0 w : World) (v : Value) (l : List UInt8) (lay : α → List Nat) (L : List α) (b i : Value) (wr : World) : Prop :=
  ∃ k : Nat, k ≤ L.length ∧ i = .int .i64 k ∧ PutTo w0 (l ++ wsB (Mio.ofI L.length :: (L.take k).flatMap lay)) b wr ∧ Ext w wr v b
theorem flat_take {α β : Type} (f : α → List β) {L : List α} {k : Nat} {x : α} (hx : L[k]? = some x) : (L.take (k + 1)).flatMap f = (L.take k).flatMap f ++ f x := by
  obtain ⟨hk, rfl⟩ := List.getElem?_eq_some_iff.1 hx
  rw [List.take_succ_eq_append_getElem hk, List.flatMap_append]
  simp
theorem list_next {α : Type} (lay : α → List Nat) {l : List UInt8} {n : Int} {L : List α} {k : Nat} {x : α} (hx : L[k]? = some x) : (l ++ wsB (Mio.ofI n :: (L.take k).flatMap lay)) ++ wsB (lay x) = l ++ wsB (Mio.ofI n :: (L.take (k + 1)).flatMap lay) := by
  rw [flat_take lay hx, List.append_assoc, ← wsB_app, List.cons_append]
theorem list_fits {α : Type} (lay : α → List Nat) (l : List UInt8) (n : Int) {L : List α} {k : Nat} {x : α} (hx : L[k]? = some x) {N : Nat} (h : l.length + (wsB (Mio.layL lay L)).length ≤ N) : (l ++ wsB (Mio.ofI n :: (L.take k).flatMap lay)).length + (wsB (lay x)).length ≤ N := by
  have e : (L.take (k + 1)).flatMap lay ++ (L.drop (k + 1)).flatMap lay = L.flatMap lay := by rw [← List.flatMap_append, List.take_append_drop]
  have e1 := congrArg List.length e
  rw [flat_take lay hx] at e1
  simp only [List.length_append] at e1
  simp only [List.length_append, wsB_len, List.length_cons, Mio.layL] at h ⊢
  omega
theorem list_end {α : Type} (lay : α → List Nat) (l : List UInt8) (L : List α) : l ++ wsB (Mio.ofI L.length :: (L.take L.length).flatMap lay) = l ++ wsB (Mio.layL lay L) := by rw [List.take_length]; rfl
def layPr (s : Sl Ins4) : List Nat := Mio.layL Mio.layIns s.L
def layLp2 (x : LP2) : List Nat := Mio.layLP (x.1, x.2.L)
theorem two_in {p : Int → Prop} {a b : Int} (ha : p a) (hb : p b) : ∀ x ∈ [a, b], p x := fun x hx => by
  rcases List.mem_cons.1 hx with rfl | hx
  · exact ha
  · rw [List.mem_singleton.1 hx]; exact hb
theorem four_in {p : Int → Prop} {a b c d : Int} (ha : p a) (hb : p b) (hc : p c) (hd : p d) : ∀ x ∈ [a, b, c, d], p x := fun x hx => by
  rcases List.mem_cons.1 hx with rfl | hx
  · exact ha
  rcases List.mem_cons.1 hx with rfl | hx
  · exact hb
  · exact two_in hc hd x hx
theorem list_head (l : List UInt8) (n : Int) : l ++ wsB ([n].map Mio.ofI) = l ++ wsB (Mio.ofI n :: []) := rfl
theorem list_fl (w0 : World) (v : Value) (l : List UInt8) (s : Sl (Nat)) (w : World) (hp : PutTo w0 l v w) (hs : s.At FlAt 1 w0) (hl : l.length + (wsB (Mio.layL Mio.layF s.L)).length ≤ 70368744177664) :
    Calls Try.prog 50 #[v, s.val, .func (.func 49) #[] #[]] w (PutsTo w0 w v (l ++ wsB (Mio.layL Mio.layF s.L))) := by
  have HR := hide (show ∀ b wr, PutTo w0 (l ++ wsB (Mio.ofI s.L.length :: (s.L.take s.L.length).flatMap Mio.layF)) b wr → Ext w wr v b → PutsTo w0 w v (l ++ wsB (Mio.layL Mio.layF s.L)) (.returned b) wr from fun b wr h hx => puts_ret h hx (list_end Mio.layF l s.L))
  generalize PutsTo w0 w v (l ++ wsB (Mio.layL Mio.layF s.L)) = Post at *
  obtain ⟨A, c, L⟩ := s
  obtain ⟨hr, hn, hc⟩ := hs
  simp only [Sl.val] at *
  have HL := hide hl
  have HG := hide hr
  have hnn : L.length ≤ 9223372036854775807 := by omega
  have hi0 := ints_new w0 v l 3 [(L.length : Int)] w _ rfl hp (fun x hx => by rw [List.mem_singleton.1 hx]; unfold I64; omega) 1 rfl #[.int .i64 L.length] rfl (by simp only [wsB_len, Mio.layL, List.length_cons] at hl; omega)
  clear hl hr hp hn hc
  go_enter Try.func50, Try.ntmps50
  go_wp2_with fail
  refine hi0.mono ?_
  rintro e w1 ⟨v1, rfl, hp1, hx1⟩
  have HP1 := hide hp1
  have HX1 := hide hx1
  clear hi0 hp1 hx1
  go_wp2_with fail
  go_loopw [0, 16] (fun b i wr => LayRel w0 w v l Mio.layF L b i wr) (fun _ i _ => L.length - (intOf i).toNat)
  case atStart => exact ⟨0, Nat.zero_le _, rfl, HP1.out, HX1.out⟩
  case round =>
    clear HP1 HX1
    obtain ⟨k, hk, rfl, hp, hx⟩ := hrel
    have HP := hide hp
    have HE := hide hx
    clear hp hx
    by_cases hlt : k < L.length
    · have hx := List.getElem?_eq_getElem hlt
      have q := (HG.out k _ hx).choose_spec.2.2
      obtain ⟨a, rfl, h0, hi⟩ := (HG.out.below FlAt.keeps HP.out.bel) k _ hx
      rw [Nat.mul_one] at h0
      generalize L[k] = x at *
      have HF := hide (list_fits Mio.layF l L.length hx HL.out)
      have HN := hide (list_next Mio.layF (l := l) (n := L.length) hx)
      have HO := hide (fun (V : Value) (W : World) h => float_put w0 V _ x W h q HF.out)
      clear hx q hi
      have HB := hide (show Below wr.heap.size wr wr from Below.refl _ _)
      have hone := HO.out _ wr (HP.out.below HB.out)
      go_wp2_with fail
      refine hone.mono ?_
      rintro e w2 ⟨v2, rfl, hp2, hx2⟩
      rw [HN.out] at hp2
      have HP2 := hide hp2
      have HE2 := hide ((HE.out.trans (Ext.of_below HB.out)).trans hx2)
      clear hp2 hx2 hone h0
      go_wp2_with fail
      go_roundw
      case rel => exact ⟨k + 1, by omega, by go_num, HP2.out, HE2.out⟩
      case measure => simp [intOf]; omega
    · obtain rfl : k = L.length := by omega
      go_wp2_with fail
      exact HR.out _ _ HP.out HE.out
theorem word_put (w0 : World) (v : Value) (l : List UInt8) (x : Int) (w : World) (hp : PutTo w0 l v w) (hx : I64 x) (hl : l.length + (wsB (Mio.layI x)).length ≤ 70368744177664) :
    Calls Try.prog 48 #[v, .int .i64 x] w (PutsTo w0 w v (l ++ wsB (Mio.layI x))) := by
  have HR := hide (show ∀ b wr, PutTo w0 (l ++ wsB (Mio.layI x)) b wr → Ext w wr v b → PutsTo w0 w v (l ++ wsB (Mio.layI x)) (.returned b) wr from fun b wr h hx => puts_ret h hx rfl)
  generalize PutsTo w0 w v (l ++ wsB (Mio.layI x)) = Post at *
  have hc := ints_new w0 v l 3 [x] w _ rfl hp (by simpa using hx) 1 rfl #[.int .i64 x] rfl (by rw [wsB_len] at hl; exact hl)
  clear hp hl
  go_enter Try.func48, Try.ntmps48
  go_wp2_with fail
  refine hc.mono ?_
  rintro e w1 ⟨v1, rfl, hp1, hx1⟩
  go_wp2_with fail
  exact HR.out _ _ hp1 hx1
theorem list_int (w0 : World) (v : Value) (l : List UInt8) (s : Sl (Int)) (w : World) (hp : PutTo w0 l v w) (hs : s.At IntAt 1 w0) (hl : l.length + (wsB (Mio.layL Mio.layI s.L)).length ≤ 70368744177664) :
    Calls Try.prog 56 #[v, s.val, .func (.func 48) #[] #[]] w (PutsTo w0 w v (l ++ wsB (Mio.layL Mio.layI s.L))) := by
  have HR := hide (show ∀ b wr, PutTo w0 (l ++ wsB (Mio.ofI s.L.length :: (s.L.take s.L.length).flatMap Mio.layI)) b wr → Ext w wr v b → PutsTo w0 w v (l ++ wsB (Mio.layL Mio.layI s.L)) (.returned b) wr from fun b wr h hx => puts_ret h hx (list_end Mio.layI l s.L))
  generalize PutsTo w0 w v (l ++ wsB (Mio.layL Mio.layI s.L)) = Post at *
  obtain ⟨A, c, L⟩ := s
  obtain ⟨hr, hn, hc⟩ := hs
  simp only [Sl.val] at *
  have HL := hide hl
  have HG := hide hr
  have hnn : L.length ≤ 9223372036854775807 := by omega
  have hi0 := ints_new w0 v l 3 [(L.length : Int)] w _ rfl hp (fun x hx => by rw [List.mem_singleton.1 hx]; unfold I64; omega) 1 rfl #[.int .i64 L.length] rfl (by simp only [wsB_len, Mio.layL, List.length_cons] at hl; omega)
  clear hl hr hp hn hc
  go_enter Try.func56, Try.ntmps56
  go_wp2_with fail
  refine hi0.mono ?_
  rintro e w1 ⟨v1, rfl, hp1, hx1⟩
  have HP1 := hide hp1
  have HX1 := hide hx1
  clear hi0 hp1 hx1
  go_wp2_with fail
  go_loopw [0, 16] (fun b i wr => LayRel w0 w v l Mio.layI L b i wr) (fun _ i _ => L.length - (intOf i).toNat)
  case atStart => exact ⟨0, Nat.zero_le _, rfl, HP1.out, HX1.out⟩
  case round =>
    clear HP1 HX1
    obtain ⟨k, hk, rfl, hp, hx⟩ := hrel
    have HP := hide hp
    have HE := hide hx
    clear hp hx
    by_cases hlt : k < L.length
    · have hx := List.getElem?_eq_getElem hlt
      have q := (HG.out k _ hx).choose_spec.2.2
      obtain ⟨a, rfl, h0, hi⟩ := (HG.out.below IntAt.keeps HP.out.bel) k _ hx
      rw [Nat.mul_one] at h0
      generalize L[k] = x at *
      have HF := hide (list_fits Mio.layI l L.length hx HL.out)
      have HN := hide (list_next Mio.layI (l := l) (n := L.length) hx)
      have HO := hide (fun (V : Value) (W : World) h => word_put w0 V _ x W h q HF.out)
      clear hx q hi
      have HB := hide (show Below wr.heap.size wr wr from Below.refl _ _)
      have hone := HO.out _ wr (HP.out.below HB.out)
      go_wp2_with fail
      refine hone.mono ?_
      rintro e w2 ⟨v2, rfl, hp2, hx2⟩
      rw [HN.out] at hp2
      have HP2 := hide hp2
      have HE2 := hide ((HE.out.trans (Ext.of_below HB.out)).trans hx2)
      clear hp2 hx2 hone h0
      go_wp2_with fail
      go_roundw
      case rel => exact ⟨k + 1, by omega, by go_num, HP2.out, HE2.out⟩
      case measure => simp [intOf]; omega
    · obtain rfl : k = L.length := by omega
      go_wp2_with fail
      exact HR.out _ _ HP.out HE.out
theorem ins_put (w0 : World) (v : Value) (l : List UInt8) (x : Ins4) (w : World) (hp : PutTo w0 l v w) (hx : I64 x.1 ∧ I64 x.2.1 ∧ I64 x.2.2.1 ∧ I64 x.2.2.2) (hl : l.length + (wsB (Mio.layIns x)).length ≤ 70368744177664) :
    Calls Try.prog 46 #[v, .agg #[.int .i64 x.1, .int .i64 x.2.1, .int .i64 x.2.2.1, .int .i64 x.2.2.2]] w (PutsTo w0 w v (l ++ wsB (Mio.layIns x))) := by
  have HR := hide (show ∀ b wr, PutTo w0 (l ++ wsB (Mio.layIns x)) b wr → Ext w wr v b → PutsTo w0 w v (l ++ wsB (Mio.layIns x)) (.returned b) wr from fun b wr h hx => puts_ret h hx rfl)
  generalize PutsTo w0 w v (l ++ wsB (Mio.layIns x)) = Post at *
  obtain ⟨x1, x2, x3, x4⟩ := x
  obtain ⟨b1, b2, b3, b4⟩ := hx
  simp only at *
  have hb0 : Below w.heap.size w (w.alloc (.cells #[.int .i64 x1, .int .i64 x2, .int .i64 x3, .int .i64 x4] 34)) := (Below.refl _ _).alloc (Nat.le_refl _) _
  have hc := ints_new w0 v l 3 [x1, x2, x3, x4] _ (w.heap.size + 1) (by simp) (hp.below hb0) (four_in b1 b2 b3 b4) 4 rfl #[.int .i64 x1, .int .i64 x2, .int .i64 x3, .int .i64 x4] rfl (by rw [wsB_len, show (Mio.layIns (x1, x2, x3, x4)).length = 4 from rfl] at hl; omega)
  have HB := hide hb0
  have HE := hide (show l ++ wsB ([x1, x2, x3, x4].map Mio.ofI) = l ++ wsB (Mio.layIns (x1, x2, x3, x4)) by simp only [Mio.layIns, List.map_cons, List.map_nil])
  clear hp hl hb0 b1 b2 b3 b4
  go_enter Try.func46, Try.ntmps46
  go_wp2_with fail
  refine hc.mono ?_
  rintro e w1 ⟨v1, rfl, hp1, hx1⟩
  go_wp2_with fail
  have hx2 := (Ext.of_below HB.out).trans hx1
  rw [HE.out] at hp1
  exact HR.out _ _ hp1 hx2
theorem list_ins (w0 : World) (v : Value) (l : List UInt8) (s : Sl (Ins4)) (w : World) (hp : PutTo w0 l v w) (hs : s.At InsAt 4 w0) (hl : l.length + (wsB (Mio.layL Mio.layIns s.L)).length ≤ 70368744177664) :
    Calls Try.prog 53 #[v, s.val, .func (.func 46) #[] #[]] w (PutsTo w0 w v (l ++ wsB (Mio.layL Mio.layIns s.L))) := by
  have HR := hide (show ∀ b wr, PutTo w0 (l ++ wsB (Mio.ofI s.L.length :: (s.L.take s.L.length).flatMap Mio.layIns)) b wr → Ext w wr v b → PutsTo w0 w v (l ++ wsB (Mio.layL Mio.layIns s.L)) (.returned b) wr from fun b wr h hx => puts_ret h hx (list_end Mio.layIns l s.L))
  generalize PutsTo w0 w v (l ++ wsB (Mio.layL Mio.layIns s.L)) = Post at *
  obtain ⟨A, c, L⟩ := s
  obtain ⟨hr, hn, hc⟩ := hs
  simp only [Sl.val] at *
  have HL := hide hl
  have HG := hide hr
  have hnn : L.length ≤ 9223372036854775807 := by omega
  have hi0 := ints_new w0 v l 3 [(L.length : Int)] w _ rfl hp (fun x hx => by rw [List.mem_singleton.1 hx]; unfold I64; omega) 1 rfl #[.int .i64 L.length] rfl (by simp only [wsB_len, Mio.layL, List.length_cons] at hl; omega)
  clear hl hr hp hn hc
  go_enter Try.func53, Try.ntmps53
  go_wp2_with fail
  refine hi0.mono ?_
  rintro e w1 ⟨v1, rfl, hp1, hx1⟩
  have HP1 := hide hp1
  have HX1 := hide hx1
  clear hi0 hp1 hx1
  go_wp2_with fail
  go_loopw [0, 16] (fun b i wr => LayRel w0 w v l Mio.layIns L b i wr) (fun _ i _ => L.length - (intOf i).toNat)
  case atStart => exact ⟨0, Nat.zero_le _, rfl, HP1.out, HX1.out⟩
  case round =>
    clear HP1 HX1
    obtain ⟨k, hk, rfl, hp, hx⟩ := hrel
    have HP := hide hp
    have HE := hide hx
    clear hp hx
    by_cases hlt : k < L.length
    · have hx := List.getElem?_eq_getElem hlt
      have q := (HG.out k _ hx).choose_spec.2.2.2.2.2
      obtain ⟨a, rfl, h0, h1, h2, h3, hi⟩ := (HG.out.below InsAt.keeps HP.out.bel) k _ hx
      generalize L[k] = x at *
      have HF := hide (list_fits Mio.layIns l L.length hx HL.out)
      have HN := hide (list_next Mio.layIns (l := l) (n := L.length) hx)
      have HO := hide (fun (V : Value) (W : World) h => ins_put w0 V _ x W h q HF.out)
      clear hx q hi
      obtain ⟨x1, x2, x3, x4⟩ := x
      have HB := hide (show Below wr.heap.size wr (wr.alloc (.cells #[.int .i64 x1, .int .i64 x2, .int .i64 x3, .int .i64 x4] 34)) from (Below.refl _ _).alloc (Nat.le_refl _) _)
      have hone := HO.out _ (wr.alloc (.cells #[.int .i64 x1, .int .i64 x2, .int .i64 x3, .int .i64 x4] 34)) (HP.out.below HB.out)
      go_wp2_with fail
      refine hone.mono ?_
      rintro e w2 ⟨v2, rfl, hp2, hx2⟩
      rw [HN.out] at hp2
      have HP2 := hide hp2
      have HE2 := hide ((HE.out.trans (Ext.of_below HB.out)).trans hx2)
      clear hp2 hx2 hone h0 h1 h2 h3
      go_wp2_with fail
      go_roundw
      case rel => exact ⟨k + 1, by omega, by go_num, HP2.out, HE2.out⟩
      case measure => simp [intOf]; omega
    · obtain rfl : k = L.length := by omega
      go_wp2_with fail
      exact HR.out _ _ HP.out HE.out
theorem prog_put (w0 : World) (v : Value) (l : List UInt8) (x : Sl Ins4) (w : World) (hp : PutTo w0 l v w) (hx : x.At InsAt 4 w0) (g : Nat) (hg : w0.cell? ⟨g, 0, none⟩ = some (.func (.func 46) #[] #[])) (hl : l.length + (wsB (layPr x)).length ≤ 70368744177664) :
    Calls Try.prog 52 #[v, x.val, .pointer (some ⟨g, 0, none⟩)] w (PutsTo w0 w v (l ++ wsB (layPr x))) := by
  have HR := hide (show ∀ b wr, PutTo w0 (l ++ wsB (layPr x)) b wr → Ext w wr v b → PutsTo w0 w v (l ++ wsB (layPr x)) (.returned b) wr from fun b wr h hx => puts_ret h hx rfl)
  generalize PutsTo w0 w v (l ++ wsB (layPr x)) = Post at *
  have hg1 := keepc hp.bel hg
  have hc := list_ins w0 v l x w hp hx hl
  clear hp hl hx hg
  obtain ⟨xA, xc, xl⟩ := x
  simp only [Sl.val] at *
  go_enter Try.func52, Try.ntmps52
  go_wp2_with fail
  refine hc.mono ?_
  rintro e w1 ⟨v1, rfl, hp1, hx1⟩
  go_wp2_with fail
  exact HR.out _ _ hp1 hx1
theorem list_prog (w0 : World) (v : Value) (l : List UInt8) (s : Sl (Sl Ins4)) (w : World) (hp : PutTo w0 l v w) (hs : s.At (SlAt InsAt 4) 1 w0) (hl : l.length + (wsB (Mio.layL layPr s.L)).length ≤ 70368744177664) (g : Nat) (hg : w0.cell? ⟨g, 0, none⟩ = some (.func (.func 46) #[] #[])) :
    Calls Try.prog 51 #[v, s.val, .func (.func 52) #[] #[.pointer (some ⟨g, 0, none⟩)]] w (PutsTo w0 w v (l ++ wsB (Mio.layL layPr s.L))) := by
  have HR := hide (show ∀ b wr, PutTo w0 (l ++ wsB (Mio.ofI s.L.length :: (s.L.take s.L.length).flatMap layPr)) b wr → Ext w wr v b → PutsTo w0 w v (l ++ wsB (Mio.layL layPr s.L)) (.returned b) wr from fun b wr h hx => puts_ret h hx (list_end layPr l s.L))
  generalize PutsTo w0 w v (l ++ wsB (Mio.layL layPr s.L)) = Post at *
  obtain ⟨A, c, L⟩ := s
  obtain ⟨hr, hn, hc⟩ := hs
  simp only [Sl.val] at *
  have HL := hide hl
  have HG := hide hr
  have hnn : L.length ≤ 9223372036854775807 := by omega
  have hi0 := ints_new w0 v l 3 [(L.length : Int)] w _ rfl hp (fun x hx => by rw [List.mem_singleton.1 hx]; unfold I64; omega) 1 rfl #[.int .i64 L.length] rfl (by simp only [wsB_len, Mio.layL, List.length_cons] at hl; omega)
  clear hl hr hp hn hc
  go_enter Try.func51, Try.ntmps51
  go_wp2_with fail
  refine hi0.mono ?_
  rintro e w1 ⟨v1, rfl, hp1, hx1⟩
  have HP1 := hide hp1
  have HX1 := hide hx1
  clear hi0 hp1 hx1
  go_wp2_with fail
  go_loopw [0, 16] (fun b i wr => LayRel w0 w v l layPr L b i wr) (fun _ i _ => L.length - (intOf i).toNat)
  case atStart => exact ⟨0, Nat.zero_le _, rfl, HP1.out, HX1.out⟩
  case round =>
    clear HP1 HX1
    obtain ⟨k, hk, rfl, hp, hx⟩ := hrel
    have HP := hide hp
    have HE := hide hx
    clear hp hx
    by_cases hlt : k < L.length
    · have hx := List.getElem?_eq_getElem hlt
      have q := (HG.out k _ hx).choose_spec.2.2
      obtain ⟨a, rfl, h0, hi⟩ := (HG.out.below (SlAt.keeps InsAt.keeps 4) HP.out.bel) k _ hx
      rw [Nat.mul_one] at h0
      generalize L[k] = x at *
      have HF := hide (list_fits layPr l L.length hx HL.out)
      have HN := hide (list_next layPr (l := l) (n := L.length) hx)
      have HO := hide (fun (V : Value) (W : World) h => prog_put w0 V _ x W h q g hg HF.out)
      clear hx q hi
      obtain ⟨xA, xc, xl⟩ := x
      simp only [Sl.val] at *
      have HB := hide (show Below wr.heap.size wr wr from Below.refl _ _)
      have hone := HO.out _ wr (HP.out.below HB.out)
      go_wp2_with fail
      refine hone.mono ?_
      rintro e w2 ⟨v2, rfl, hp2, hx2⟩
      rw [HN.out] at hp2
      have HP2 := hide hp2
      have HE2 := hide ((HE.out.trans (Ext.of_below HB.out)).trans hx2)
      clear hp2 hx2 hone h0
      go_wp2_with fail
      go_roundw
      case rel => exact ⟨k + 1, by omega, by go_num, HP2.out, HE2.out⟩
      case measure => simp [intOf]; omega
    · obtain rfl : k = L.length := by omega
      go_wp2_with fail
      exact HR.out _ _ HP.out HE.out
theorem init_put (w0 : World) (v : Value) (l : List UInt8) (x : Init3) (w : World) (hp : PutTo w0 l v w) (hx : x.1 < 18446744073709551616 ∧ I64 x.2.1 ∧ I64 x.2.2) (hl : l.length + (wsB (Mio.layIni x)).length ≤ 70368744177664) :
    Calls Try.prog 58 #[v, .agg #[.float .f64 x.1, .int .i64 x.2.1, .int .i64 x.2.2]] w (PutsTo w0 w v (l ++ wsB (Mio.layIni x))) := by
  have HR := hide (show ∀ b wr, PutTo w0 (l ++ wsB (Mio.layIni x)) b wr → Ext w wr v b → PutsTo w0 w v (l ++ wsB (Mio.layIni x)) (.returned b) wr from fun b wr h hx => puts_ret h hx rfl)
  generalize PutsTo w0 w v (l ++ wsB (Mio.layIni x)) = Post at *
  obtain ⟨x1, x2, x3⟩ := x
  obtain ⟨b1, b2, b3⟩ := hx
  simp only at *
  rw [wsB_len, show (Mio.layIni (x1, x2, x3)).length = 3 from rfl] at hl
  have HB := hide (show Below w.heap.size w ((w.alloc (.cells #[.float .f64 x1, .int .i64 x2, .int .i64 x3] 43)).drew) from ((Below.refl _ _).alloc (Nat.le_refl _) _).drew)
  have HP0 := hide (hp.below HB.out)
  have HNE := hide (show some w.heap.size ≠ v.ownBlock from fun e => hp.ne e.symm)
  have hX := (Blk.new w 43 #[.float .f64 x1, .int .i64 x2, .int .i64 x3]).drew
  have HN1 := hide (show v.ownBlock ≠ some (w.heap.size + 1) by have := HP0.out.ne; simpa using this)
  have HC := hide (show ∀ X, Blk X w.heap.size 43 #[.float .f64 x1, .int .i64 x2, .int .i64 x3] → (X.cell? ⟨w.heap.size, 0, none⟩ = some (.float .f64 x1) ∧ X.cell? ⟨w.heap.size, 1, none⟩ = some (.int .i64 x2) ∧ X.cell? ⟨w.heap.size, 2, none⟩ = some (.int .i64 x3)) from fun X h => ⟨h.cell 0, h.cell 1, h.cell 2⟩)
  have HE := hide (show (l ++ wsB (Mio.layF x1)) ++ wsB ([x2, x3].map Mio.ofI) = l ++ wsB (Mio.layIni (x1, x2, x3)) by rw [List.append_assoc, ← wsB_app]; rfl)
  have HL2 := hide (show (l ++ wsB (Mio.layF x1)).length + 8 * 2 ≤ 70368744177664 by rw [List.length_append, wsB_len, show (Mio.layF x1).length = 1 from rfl]; omega)
  clear hp
  go_enter Try.func58, Try.ntmps58
  go_wp2_with fail
  refine wp_region_tree (fun X => X.cell? ⟨w.heap.size, 0, none⟩ = some (.float .f64 x1) ∧ X.cell? ⟨w.heap.size, 1, none⟩ = some (.int .i64 x2) ∧ X.cell? ⟨w.heap.size, 2, none⟩ = some (.int .i64 x3)) [0, 1, 2, 4, 5, 6, 7] 9 4 (by kernel_rfl) (by kernel_rfl) (HC.out _ hX) ?_
  simp only [List.filterMap_cons, List.filterMap_nil, List.getElem?_cons_succ, List.getElem?_cons_zero]
  repeat (refine head_step ?_ (by rfl) ?_ (fun _ _ _ h => h) ?_; rotate_left; (intro w' hs; obtain ⟨z0, z1, z2⟩ := hs; go_simp; (try with_reducible rfl)); (try simp only [Act.put, List.setIfInBounds_toArray, List.set_cons_zero, List.set_cons_succ]))
  refine head_nil ?_
  refine tree_two 3 8 (by kernel_rfl) rfl rfl ?_ ?_
  · refine midc_call (g := 49) (args := #[v, .float .f64 x1]) (w' := (w.alloc (.cells #[.float .f64 x1, .int .i64 x2, .int .i64 x3] 43)).drew) (by rfl) (by go_simp) ((float_put w0 v l x1 _ HP0.out b1 (by omega)).mono ?_)
    rintro e wA ⟨vA, rfl, hpA, hxA⟩
    refine ⟨_, rfl, HC.out _ (hX.grown hxA.1 HNE.out), ?_⟩
    simp only [Act.put, List.setIfInBounds_toArray, List.set_cons_zero, List.set_cons_succ]
    refine midc_nil ?_
    refine tree_one 8 (by kernel_rfl) rfl ?_
    refine midc_step _ (wA.alloc (.cells #[.int .i64 x2, .int .i64 x3] 3)) (by rfl) (by go_simp; try (first | rfl | exact ⟨rfl, rfl⟩)) (HC.out _ ((hX.grown hxA.1 HNE.out).alloc _)) ?_
    simp only [Act.put, List.setIfInBounds_toArray, List.set_cons_zero, List.set_cons_succ]
    refine midc_nil ?_
    refine tree_list _ 9 (by decide) rfl (by kernel_rfl) rfl ?_
    have hc := ints_new w0 vA _ 3 [x2, x3] wA _ rfl hpA (two_in b2 b3) 2 rfl #[.int .i64 x2, .int .i64 x3] rfl (HL2.out)
    have HX := hide ((Ext.of_below HB.out).trans hxA)
    clear hpA hxA hX
    go_wp2_with fail
    refine hc.mono ?_
    rintro e wB ⟨vB, rfl, hpB, hxB⟩
    have HX2 := hide (HX.out.trans hxB)
    go_wp2_with fail
    exact HR.out _ _ (HE.out ▸ hpB) HX2.out
  · refine midc_step _ ((w.alloc (.cells #[.float .f64 x1, .int .i64 x2, .int .i64 x3] 43)).drew.alloc (.cells #[.int .i64 x2, .int .i64 x3] 3)) (by rfl) (by go_simp; try (first | rfl | exact ⟨rfl, rfl⟩)) (HC.out _ (hX.alloc _)) ?_
    simp only [Act.put, List.setIfInBounds_toArray, List.set_cons_zero, List.set_cons_succ]
    refine midc_nil ?_
    refine tree_one 3 (by kernel_rfl) rfl ?_
    have hY : Blk ((w.alloc (.cells #[.float .f64 x1, .int .i64 x2, .int .i64 x3] 43)).drew.alloc (.cells #[.int .i64 x2, .int .i64 x3] 3)) (w.heap.size + 1) 3 #[.int .i64 x2, .int .i64 x3] := by
      have := Blk.new ((w.alloc (.cells #[.float .f64 x1, .int .i64 x2, .int .i64 x3] 43)).drew) 3 #[.int .i64 x2, .int .i64 x3]
      simpa using this
    refine midc_call (g := 49) (args := #[v, .float .f64 x1]) (w' := (w.alloc (.cells #[.float .f64 x1, .int .i64 x2, .int .i64 x3] 43)).drew.alloc (.cells #[.int .i64 x2, .int .i64 x3] 3)) (by rfl) (by go_simp) ((float_put w0 v l x1 _ (HP0.out.below ((Below.refl _ _).alloc (Nat.le_refl _) _)) b1 (by omega)).mono ?_)
    rintro e wA ⟨vA, rfl, hpA, hxA⟩
    refine ⟨_, rfl, HC.out _ ((hX.alloc _).grown hxA.1 HNE.out), ?_⟩
    simp only [Act.put, List.setIfInBounds_toArray, List.set_cons_zero, List.set_cons_succ]
    refine midc_nil ?_
    refine tree_list _ 9 (by decide) rfl (by kernel_rfl) rfl ?_
    have hc := ints_row w0 vA _ 3 [x2, x3] wA hpA (two_in b2 b3) 2 rfl (hY.grown hxA.1 (fun e => HN1.out e.symm)) rfl (hxA.ne HN1.out hY.lt) (HL2.out)
    have HX := hide (((Ext.of_below HB.out).trans (Ext.of_below ((Below.refl _ _).alloc (Nat.le_refl _) _))).trans hxA)
    clear hpA hxA hX hY
    go_wp2_with fail
    refine hc.mono ?_
    rintro e wB ⟨vB, rfl, hpB, hxB⟩
    have HX2 := hide (HX.out.trans hxB)
    go_wp2_with fail
    exact HR.out _ _ (HE.out ▸ hpB) HX2.out
theorem list_init (w0 : World) (v : Value) (l : List UInt8) (s : Sl (Init3)) (w : World) (hp : PutTo w0 l v w) (hs : s.At InitAt 3 w0) (hl : l.length + (wsB (Mio.layL Mio.layIni s.L)).length ≤ 70368744177664) :
    Calls Try.prog 57 #[v, s.val, .func (.func 58) #[] #[]] w (PutsTo w0 w v (l ++ wsB (Mio.layL Mio.layIni s.L))) := by
  have HR := hide (show ∀ b wr, PutTo w0 (l ++ wsB (Mio.ofI s.L.length :: (s.L.take s.L.length).flatMap Mio.layIni)) b wr → Ext w wr v b → PutsTo w0 w v (l ++ wsB (Mio.layL Mio.layIni s.L)) (.returned b) wr from fun b wr h hx => puts_ret h hx (list_end Mio.layIni l s.L))
  generalize PutsTo w0 w v (l ++ wsB (Mio.layL Mio.layIni s.L)) = Post at *
  obtain ⟨A, c, L⟩ := s
  obtain ⟨hr, hn, hc⟩ := hs
  simp only [Sl.val] at *
  have HL := hide hl
  have HG := hide hr
  have hnn : L.length ≤ 9223372036854775807 := by omega
  have hi0 := ints_new w0 v l 3 [(L.length : Int)] w _ rfl hp (fun x hx => by rw [List.mem_singleton.1 hx]; unfold I64; omega) 1 rfl #[.int .i64 L.length] rfl (by simp only [wsB_len, Mio.layL, List.length_cons] at hl; omega)
  clear hl hr hp hn hc
  go_enter Try.func57, Try.ntmps57
  go_wp2_with fail
  refine hi0.mono ?_
  rintro e w1 ⟨v1, rfl, hp1, hx1⟩
  have HP1 := hide hp1
  have HX1 := hide hx1
  clear hi0 hp1 hx1
  go_wp2_with fail
  go_loopw [0, 16] (fun b i wr => LayRel w0 w v l Mio.layIni L b i wr) (fun _ i _ => L.length - (intOf i).toNat)
  case atStart => exact ⟨0, Nat.zero_le _, rfl, HP1.out, HX1.out⟩
  case round =>
    clear HP1 HX1
    obtain ⟨k, hk, rfl, hp, hx⟩ := hrel
    have HP := hide hp
    have HE := hide hx
    clear hp hx
    by_cases hlt : k < L.length
    · have hx := List.getElem?_eq_getElem hlt
      have q := (HG.out k _ hx).choose_spec.2.2.2.2
      obtain ⟨a, rfl, h0, h1, h2, hi⟩ := (HG.out.below InitAt.keeps HP.out.bel) k _ hx
      generalize L[k] = x at *
      have HF := hide (list_fits Mio.layIni l L.length hx HL.out)
      have HN := hide (list_next Mio.layIni (l := l) (n := L.length) hx)
      have HO := hide (fun (V : Value) (W : World) h => init_put w0 V _ x W h q HF.out)
      clear hx q hi
      obtain ⟨x1, x2, x3⟩ := x
      have HB := hide (show Below wr.heap.size wr (wr.alloc (.cells #[.float .f64 x1, .int .i64 x2, .int .i64 x3] 43)) from (Below.refl _ _).alloc (Nat.le_refl _) _)
      have hone := HO.out _ (wr.alloc (.cells #[.float .f64 x1, .int .i64 x2, .int .i64 x3] 43)) (HP.out.below HB.out)
      go_wp2_with fail
      refine hone.mono ?_
      rintro e w2 ⟨v2, rfl, hp2, hx2⟩
      rw [HN.out] at hp2
      have HP2 := hide hp2
      have HE2 := hide ((HE.out.trans (Ext.of_below HB.out)).trans hx2)
      clear hp2 hx2 hone h0 h1 h2
      go_wp2_with fail
      go_roundw
      case rel => exact ⟨k + 1, by omega, by go_num, HP2.out, HE2.out⟩
      case measure => simp [intOf]; omega
    · obtain rfl : k = L.length := by omega
      go_wp2_with fail
      exact HR.out _ _ HP.out HE.out
theorem lp_put (w0 : World) (v : Value) (l : List UInt8) (x : LP2) (w : World) (hp : PutTo w0 l v w) (hx : I64 x.1 ∧ x.2.At IntAt 1 w0) (g : Nat) (hg : w0.cell? ⟨g, 0, none⟩ = some (.func (.func 48) #[] #[])) (hl : l.length + (wsB (layLp2 x)).length ≤ 70368744177664) :
    Calls Try.prog 55 #[v, .agg #[.int .i64 x.1, x.2.val], .pointer (some ⟨g, 0, none⟩)] w (PutsTo w0 w v (l ++ wsB (layLp2 x))) := by
  have HR := hide (show ∀ b wr, PutTo w0 (l ++ wsB (layLp2 x)) b wr → Ext w wr v b → PutsTo w0 w v (l ++ wsB (layLp2 x)) (.returned b) wr from fun b wr h hx => puts_ret h hx rfl)
  generalize PutsTo w0 w v (l ++ wsB (layLp2 x)) = Post at *
  obtain ⟨xp, ⟨sA, sc, sl⟩⟩ := x
  obtain ⟨b1, hs⟩ := hx
  simp only [Sl.val] at *
  have HL := hide hl
  have HB := hide (show Below w.heap.size w ((w.alloc (.cells #[.int .i64 xp, .slice sA sl.length sc] 41)).drew) from ((Below.refl _ _).alloc (Nat.le_refl _) _).drew)
  have HP0 := hide (hp.below HB.out)
  have HNE := hide (show some w.heap.size ≠ v.ownBlock from fun e => hp.ne e.symm)
  have hX := (Blk.new w 41 #[.int .i64 xp, .slice sA sl.length sc]).drew
  have HC := hide (show ∀ X, Blk X w.heap.size 41 #[.int .i64 xp, .slice sA sl.length sc] → X.cell? ⟨g, 0, none⟩ = some (.func (.func 48) #[] #[]) → (X.cell? ⟨w.heap.size, 0, none⟩ = some (.int .i64 xp) ∧ X.cell? ⟨w.heap.size, 1, none⟩ = some (.slice sA sl.length sc) ∧ X.cell? ⟨g, 0, none⟩ = some (.func (.func 48) #[] #[])) from fun X h h2 => ⟨h.cell 0, h.cell 1, h2⟩)
  have HE := hide (show (l ++ wsB ([xp].map Mio.ofI)) ++ wsB (Mio.layL Mio.layI sl) = l ++ wsB (layLp2 (xp, ⟨sA, sc, sl⟩)) by rw [List.append_assoc, ← wsB_app]; rfl)
  have HZ := hide (show (wsB (layLp2 (xp, ⟨sA, sc, sl⟩))).length = 8 + (wsB (Mio.layL Mio.layI sl)).length by rw [wsB_len, wsB_len, show layLp2 (xp, ⟨sA, sc, sl⟩) = Mio.ofI xp :: Mio.layL Mio.layI sl from rfl, List.length_cons]; omega)
  have HL1 := hide (show l.length + 8 * 1 ≤ 70368744177664 by have := HL.out; have := HZ.out; omega)
  have HL2 := hide (show (l ++ wsB ([xp].map Mio.ofI)).length + (wsB (Mio.layL Mio.layI sl)).length ≤ 70368744177664 by have := HL.out; have := HZ.out; rw [List.length_append, wsB_len, List.length_map, List.length_singleton]; omega)
  have hg1 := keepc HP0.out.bel hg
  have HG := hide hg
  clear hp hl hg
  go_enter Try.func55, Try.ntmps55
  go_wp2_with fail
  refine wp_region_tree (fun X => X.cell? ⟨w.heap.size, 0, none⟩ = some (.int .i64 xp) ∧ X.cell? ⟨w.heap.size, 1, none⟩ = some (.slice sA sl.length sc) ∧ X.cell? ⟨g, 0, none⟩ = some (.func (.func 48) #[] #[])) [0, 1, 2, 5, 6, 7] 8 4 (by kernel_rfl) (by kernel_rfl) (HC.out _ hX hg1) ?_
  simp only [List.filterMap_cons, List.filterMap_nil, List.getElem?_cons_succ, List.getElem?_cons_zero]
  repeat (refine head_step ?_ (by rfl) ?_ (fun _ _ _ h => h) ?_; rotate_left; (intro w' hs; obtain ⟨z0, z1, z2⟩ := hs; go_simp; (try with_reducible rfl)); (try simp only [Act.put, List.setIfInBounds_toArray, List.set_cons_zero, List.set_cons_succ]))
  refine head_nil ?_
  refine tree_one 3 (by kernel_rfl) rfl ?_
  refine midc_step _ ((w.alloc (.cells #[.int .i64 xp, .slice sA sl.length sc] 41)).drew.alloc (.cells #[.int .i64 xp] 3)) (by rfl) (by go_simp; try (first | rfl | exact ⟨rfl, rfl⟩)) (HC.out _ (hX.alloc _) (keepc ((Below.refl _ _).alloc (Nat.le_refl _) _) hg1)) ?_
  simp only [Act.put, List.setIfInBounds_toArray, List.set_cons_zero, List.set_cons_succ]
  refine midc_nil ?_
  refine tree_one 4 (by kernel_rfl) rfl ?_
  refine midc_call (g := 47) (args := #[v, .slice (some ⟨w.heap.size + 1, 0, none⟩) 1 1]) (w' := (w.alloc (.cells #[.int .i64 xp, .slice sA sl.length sc] 41)).drew.alloc (.cells #[.int .i64 xp] 3)) (by rfl) (by go_simp) ((ints_new w0 v l 3 [xp] ((w.alloc (.cells #[.int .i64 xp, .slice sA sl.length sc] 41)).drew) (w.heap.size + 1) (by simp) HP0.out (by simpa using b1) 1 rfl #[.int .i64 xp] rfl HL1.out).mono ?_)
  rintro e wA ⟨vA, rfl, hpA, hxA⟩
  have hg2 := keepc hpA.bel HG.out
  refine ⟨_, rfl, HC.out _ (hX.grown hxA.1 HNE.out) hg2, ?_⟩
  simp only [Act.put, List.setIfInBounds_toArray, List.set_cons_zero, List.set_cons_succ]
  refine midc_nil ?_
  refine tree_list _ 8 (by decide) rfl (by kernel_rfl) rfl ?_
  have hc := list_int w0 vA _ ⟨sA, sc, sl⟩ wA hpA hs HL2.out
  simp only [Sl.val] at hc
  have HX := hide ((Ext.of_below HB.out).trans hxA)
  clear hpA hxA hX hg1 hg2 hs
  go_wp2_with fail
  refine hc.mono ?_
  rintro e wB ⟨vB, rfl, hpB, hxB⟩
  have HX2 := hide (HX.out.trans hxB)
  go_wp2_with fail
  exact HR.out _ _ (HE.out ▸ hpB) HX2.out
theorem list_lp (w0 : World) (v : Value) (l : List UInt8) (s : Sl (LP2)) (w : World) (hp : PutTo w0 l v w) (hs : s.At LpAt 2 w0) (hl : l.length + (wsB (Mio.layL layLp2 s.L)).length ≤ 70368744177664) (g : Nat) (hg : w0.cell? ⟨g, 0, none⟩ = some (.func (.func 48) #[] #[])) :
    Calls Try.prog 54 #[v, s.val, .func (.func 55) #[] #[.pointer (some ⟨g, 0, none⟩)]] w (PutsTo w0 w v (l ++ wsB (Mio.layL layLp2 s.L))) := by
  have HR := hide (show ∀ b wr, PutTo w0 (l ++ wsB (Mio.ofI s.L.length :: (s.L.take s.L.length).flatMap layLp2)) b wr → Ext w wr v b → PutsTo w0 w v (l ++ wsB (Mio.layL layLp2 s.L)) (.returned b) wr from fun b wr h hx => puts_ret h hx (list_end layLp2 l s.L))
  generalize PutsTo w0 w v (l ++ wsB (Mio.layL layLp2 s.L)) = Post at *
  obtain ⟨A, c, L⟩ := s
  obtain ⟨hr, hn, hc⟩ := hs
  simp only [Sl.val] at *
  have HL := hide hl
  have HG := hide hr
  have hnn : L.length ≤ 9223372036854775807 := by omega
  have hi0 := ints_new w0 v l 3 [(L.length : Int)] w _ rfl hp (fun x hx => by rw [List.mem_singleton.1 hx]; unfold I64; omega) 1 rfl #[.int .i64 L.length] rfl (by simp only [wsB_len, Mio.layL, List.length_cons] at hl; omega)
  clear hl hr hp hn hc
  go_enter Try.func54, Try.ntmps54
  go_wp2_with fail
  refine hi0.mono ?_
  rintro e w1 ⟨v1, rfl, hp1, hx1⟩
  have HP1 := hide hp1
  have HX1 := hide hx1
  clear hi0 hp1 hx1
  go_wp2_with fail
  go_loopw [0, 16] (fun b i wr => LayRel w0 w v l layLp2 L b i wr) (fun _ i _ => L.length - (intOf i).toNat)
  case atStart => exact ⟨0, Nat.zero_le _, rfl, HP1.out, HX1.out⟩
  case round =>
    clear HP1 HX1
    obtain ⟨k, hk, rfl, hp, hx⟩ := hrel
    have HP := hide hp
    have HE := hide hx
    clear hp hx
    by_cases hlt : k < L.length
    · have hx := List.getElem?_eq_getElem hlt
      have q := (HG.out k _ hx).choose_spec.2.2.2
      obtain ⟨a, rfl, h0, h1, hi, hj⟩ := (HG.out.below LpAt.keeps HP.out.bel) k _ hx
      generalize L[k] = x at *
      have HF := hide (list_fits layLp2 l L.length hx HL.out)
      have HN := hide (list_next layLp2 (l := l) (n := L.length) hx)
      have HO := hide (fun (V : Value) (W : World) h => lp_put w0 V _ x W h q g hg HF.out)
      clear hx q hi hj
      obtain ⟨xp, ⟨xA, xc, xl⟩⟩ := x
      simp only [Sl.val] at *
      have HB := hide (show Below wr.heap.size wr (wr.alloc (.cells #[.int .i64 xp, .slice xA xl.length xc] 41)) from (Below.refl _ _).alloc (Nat.le_refl _) _)
      have hone := HO.out _ (wr.alloc (.cells #[.int .i64 xp, .slice xA xl.length xc] 41)) (HP.out.below HB.out)
      go_wp2_with fail
      refine hone.mono ?_
      rintro e w2 ⟨v2, rfl, hp2, hx2⟩
      rw [HN.out] at hp2
      have HP2 := hide hp2
      have HE2 := hide ((HE.out.trans (Ext.of_below HB.out)).trans hx2)
      clear hp2 hx2 hone h0 h1
      go_wp2_with fail
      go_roundw
      case rel => exact ⟨k + 1, by omega, by go_num, HP2.out, HE2.out⟩
      case measure => simp [intOf]; omega
    · obtain rfl : k = L.length := by omega
      go_wp2_with fail
      exact HR.out _ _ HP.out HE.out
end Go.Proofs.Ytegegljpmelomaa
