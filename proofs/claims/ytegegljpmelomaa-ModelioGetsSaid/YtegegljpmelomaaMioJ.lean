/- The walks of modelio.items, at each type, and of what it is handed. No condition but that the bytes are a string of the machine. Printed by wip/tools/mior.py. -/
import Derived.Test.YtegegljpmelomaaMioI
import Derived.Test.YtegegljpmelomaaCopy
import Derived.Deep.DeepCutAuto
set_option linter.unusedVariables false
set_option linter.unusedSimpArgs false
set_option maxRecDepth 20000
namespace Go.Proofs.Ytegegljpmelomaa
open Go.RowKit Go.Deep
attribute [local go_sem] run_store_float

def okFl (_ : World) (_ : Nat) (x : Nat) : Prop := x < 18446744073709551616
def okInt (_ : World) (_ : Nat) (x : Int) : Prop := I64 x
def okIns (_ : World) (_ : Nat) (x : Ins4) : Prop := I64 x.1 ∧ I64 x.2.1 ∧ I64 x.2.2.1 ∧ I64 x.2.2.2
def okIni (_ : World) (_ : Nat) (x : Init3) : Prop := x.1 < 18446744073709551616 ∧ I64 x.2.1 ∧ I64 x.2.2
def okPr (w : World) (B : Nat) (x : Sl Ins4) : Prop := OwnR 34 4 encIns w B x.val x.L ∧ ∀ z ∈ x.L, okIns w B z
def okLp (w : World) (B : Nat) (x : LP2) : Prop := I64 x.1 ∧ OwnR 3 1 encInt w B x.2.val x.2.L ∧ ∀ z ∈ x.2.L, I64 z
theorem keep_fl : Keep 22 1 encFl okFl := ⟨fun h _ _ => h, fun h _ => h, fun h _ _ => h⟩
theorem keep_int : Keep 3 1 encInt okInt := ⟨fun h _ _ => h, fun h _ => h, fun h _ _ => h⟩
theorem keep_ins : Keep 34 4 encIns okIns := ⟨fun h _ _ => h, fun h _ => h, fun h _ _ => h⟩
theorem keep_ini : Keep 43 3 encInit okIni := ⟨fun h _ _ => h, fun h _ => h, fun h _ _ => h⟩
theorem keep_pr : Keep 38 1 encSl okPr := ⟨fun h hg hB => ⟨h.1.keepg hg hB, h.2⟩, fun h hN => ⟨h.1.low6 hN, h.2⟩, fun h ho hg => ⟨h.1.other ho (by decide) hg, h.2⟩⟩
theorem keep_lp : Keep 41 2 encLp okLp := ⟨fun h hg hB => ⟨h.1, h.2.1.keepg hg hB, h.2.2⟩, fun h hN => ⟨h.1, h.2.1.low6 hN, h.2.2⟩, fun h ho hg => ⟨h.1, h.2.1.other ho (by decide) hg, h.2.2⟩⟩
theorem int_one {w : World} {g : Nat} {s : ByteArray} {st : RSt} (hs : s.size ≤ 9223372036854775807) (h : RdAt w g s st) : Calls Try.prog 62 #[.pointer (some ⟨g, 0, none⟩)] w (OneRd (Value.int .i64) okInt id Mio.pI w g s st) :=
  (int_rd hs h).mono fun e w' h => h
theorem float_one {w : World} {g : Nat} {s : ByteArray} {st : RSt} (hs : s.size ≤ 9223372036854775807) (h : RdAt w g s st) : Calls Try.prog 63 #[.pointer (some ⟨g, 0, none⟩)] w (OneRd (Value.float .f64) okFl id Mio.pF w g s st) :=
  (float_rd hs h).mono fun e w' h => h
/-- What the test ahead of the items finds. -/
def ItTest {β : Type} (p : List Nat → Mio.Rd β) (w : World) (g : Nat) (s : ByteArray) (n : Int) (T : Mio.Rd (List β)) (b : Value) (wx : World) : Prop :=
  ∃ bb, b = .bool bb ∧ w.grownBy wx (some g) ∧ ((bb = true ∧ (∃ q : Int, Blk wx g 83 #[.string s, .int .i64 q, .int .i64 0]) ∧ T = .error 6) ∨ (bb = false ∧ ∃ st : RSt, RdAt wx g s st ∧ Start p n T st))
def vIns (x : Ins4) : Value := .agg #[.int .i64 x.1, .int .i64 x.2.1, .int .i64 x.2.2.1, .int .i64 x.2.2.2]
def vIni (x : Init3) : Value := .agg #[.float .f64 x.1, .int .i64 x.2.1, .int .i64 x.2.2]
def vLp (x : LP2) : Value := .agg #[.int .i64 x.1, x.2.val]
theorem ins_aft (st : RSt) : aft (goR st Mio.pIns) = aft (goR (aft (goR (aft (goR (aft (goR st Mio.pI)) Mio.pI)) Mio.pI)) Mio.pI) := by
  rcases st with e | _ | ⟨a, _ | ⟨b, _ | ⟨c, _ | ⟨d, r⟩⟩⟩⟩ <;> rfl
theorem ins_con {st : RSt} {a b c d : Int} (h1 : ∀ y r, goR st Mio.pI = .ok (y, r) → a = y) (h2 : ∀ y r, goR (aft (goR st Mio.pI)) Mio.pI = .ok (y, r) → b = y) (h3 : ∀ y r, goR (aft (goR (aft (goR st Mio.pI)) Mio.pI)) Mio.pI = .ok (y, r) → c = y)
    (h4 : ∀ y r, goR (aft (goR (aft (goR (aft (goR st Mio.pI)) Mio.pI)) Mio.pI)) Mio.pI = .ok (y, r) → d = y) : ∀ y r, goR st Mio.pIns = .ok (y, r) → (a, b, c, d) = y := by
  intro y r h
  rcases st with e | _ | ⟨a', _ | ⟨b', _ | ⟨c', _ | ⟨d', r'⟩⟩⟩⟩
  · cases h
  · cases h
  · cases h
  · cases h
  · cases h
  · cases h
    rw [h1 _ _ rfl, h2 _ _ rfl, h3 _ _ rfl, h4 _ _ rfl]
theorem ini_aft (st : RSt) : aft (goR st Mio.pIni) = aft (goR (aft (goR (aft (goR st Mio.pF)) Mio.pI)) Mio.pI) := by
  rcases st with e | _ | ⟨a, _ | ⟨b, _ | ⟨c, r⟩⟩⟩ <;> rfl
theorem ini_con {st : RSt} {a : Nat} {b c : Int} (h1 : ∀ y r, goR st Mio.pF = .ok (y, r) → a = y) (h2 : ∀ y r, goR (aft (goR st Mio.pF)) Mio.pI = .ok (y, r) → b = y) (h3 : ∀ y r, goR (aft (goR (aft (goR st Mio.pF)) Mio.pI)) Mio.pI = .ok (y, r) → c = y) : ∀ y r, goR st Mio.pIni = .ok (y, r) → (a, b, c) = y := by
  intro y r h
  rcases st with e | _ | ⟨a', _ | ⟨b', _ | ⟨c', r'⟩⟩⟩
  · cases h
  · cases h
  · cases h
  · cases h
  · cases h
    rw [h1 _ _ rfl, h2 _ _ rfl, h3 _ _ rfl]
theorem lp_aft (st : RSt) : aft (goR st Mio.pLP) = aft (goR (aft (goR st Mio.pI)) (Mio.pL Mio.pI)) := by
  rcases st with e | _ | ⟨a, r⟩
  · rfl
  · rfl
  · show aft (Mio.thenR (Mio.pL Mio.pI r) _) = aft (Mio.pL Mio.pI r)
    cases Mio.pL Mio.pI r with
    | error e => rfl
    | ok q => rfl
theorem lp_con {st : RSt} {a : Int} {l : List Int} (h1 : ∀ y r, goR st Mio.pI = .ok (y, r) → a = y) (h2 : ∀ y r, goR (aft (goR st Mio.pI)) (Mio.pL Mio.pI) = .ok (y, r) → l.map id = y) : ∀ y r, goR st Mio.pLP = .ok (y, r) → (a, l) = y := by
  intro y r h
  rcases st with e | _ | ⟨a', r'⟩
  · cases h
  · cases h
  · have h' : Mio.thenR (Mio.pL Mio.pI r') (fun l r => .ok ((Mio.toI a', l), r)) = .ok (y, r) := h
    cases hp : Mio.pL Mio.pI r' with
    | error e =>
      rw [hp] at h'
      cases h'
    | ok q =>
      obtain ⟨l', r2⟩ := q
      rw [hp] at h'
      cases h'
      have e1 := h1 _ _ rfl
      have e2 := h2 l' r hp
      rw [List.map_id] at e2
      rw [e1, e2]
theorem items_fl {w : World} {g : Nat} {s : ByteArray} {st : RSt} (hs : s.size ≤ 9223372036854775807) (h : RdAt w g s st)  : Calls Try.prog 64 #[.pointer (some ⟨g, 0, none⟩), .func (.func 63) #[.pointer (some ⟨g, 0, none⟩)] #[]] w (ItemsRd 22 1 encFl okFl id Mio.pF w g s st) := by
  have hg := h.lt
  have HE := hide (show ∀ (n : Int) (k : Nat) (out : Sl (Nat)) (st1 : RSt) (wr : World), OwnR 22 1 encFl wr w.heap.size out.val out.L → (∀ x ∈ out.L, okFl wr w.heap.size x) → w.grownBy wr (some g) → RdAt wr g s st1 → Going id Mio.pF n (goR st (Mio.pL Mio.pF)) k out.L st1 → (∀ ws, st1 = .ok ws → ¬ (k : Int) < n) → ItemsRd 22 1 encFl okFl id Mio.pF w g s st (.returned out.val) wr from fun n k out st1 wr a b c d e f => it_end rfl a b c d e f)
  generalize ItemsRd 22 1 encFl okFl id Mio.pF w g s st = Post at *
  have HH := hide h
  have HG := hide hg
  have hint := int_rd hs h
  clear h hg
  go_enter Try.func64, Try.ntmps64
  go_wp2_with fail
  refine hint.mono ?_
  rintro e w1 ⟨n, rfl, hn, hg1, hr1, hc1⟩
  unfold I64 at hn
  have HN := hide hc1
  have HG1 := hide hg1
  clear hint hg1 hc1
  go_upto_region 2 with fail
  go_cut [22] (fun b wx => ItTest Mio.pF w g s n (goR st (Mio.pL Mio.pF)) b wx)
  case first =>
    generalize hst : aft (goR st Mio.pI) = st1 at *
    cases st1 with
    | error er =>
      have HB := hide (start_bad (p := Mio.pF) hst)
      obtain ⟨he, q, hX⟩ := hr1
      have c2 := hX.cell 2
      simp only [List.getElem?_toArray, List.getElem?_cons_zero, List.getElem?_cons_succ] at c2
      have HX := hide hX
      clear hst hX
      go_wp2_with fail
      go_meet
      exact ⟨false, rfl, HG1.out, .inr ⟨rfl, .error er, ⟨he, q, HX.out⟩, HB.out⟩⟩
    | ok ws =>
      have HB := hide (start_good (p := Mio.pF) hst HN.out)
      obtain ⟨kk, rfl, hk8, hX⟩ := hr1
      have c2 := hX.cell 2
      simp only [List.getElem?_toArray, List.getElem?_cons_zero, List.getElem?_cons_succ] at c2
      have HX := hide hX
      have HK := hide hk8
      clear hst hX hk8
      by_cases h1 : n < 0
      · have HT := hide (HB.out.1 (.inl h1))
        go_wp2_with fail
        go_meet
        exact ⟨true, rfl, HG1.out, .inl ⟨rfl, ⟨_, HX.out⟩, HT.out⟩⟩
      · by_cases h2 : 48 < n
        · have HT := hide (HB.out.1 (.inr h2))
          go_wp2_with fail
          go_meet
          exact ⟨true, rfl, HG1.out, .inl ⟨rfl, ⟨_, HX.out⟩, HT.out⟩⟩
        · have HT := hide (HB.out.2 (by omega))
          go_wp2_with fail
          go_meet
          exact ⟨false, rfl, HG1.out, .inr ⟨rfl, .ok _, ⟨kk, rfl, HK.out, HX.out⟩, by omega, by omega, HT.out.symm⟩⟩
  case rest =>
    clear hr1 HN HG1
    go_upto_if 22 with fail
    go_cut [] (fun wx => ItStart Mio.pF w g s n (goR st (Mio.pL Mio.pF)) wx)
    case first =>
      obtain ⟨bb, rfl, hg2, hw⟩ := hcut
      rcases hw with ⟨rfl, ⟨q, hX⟩, hT⟩ | ⟨rfl, st1, h1, h2⟩
      · have f2 := hX.frozen 2
        have c2 := hX.cell 2
        simp only [List.getElem?_toArray, List.getElem?_cons_zero, List.getElem?_cons_succ] at c2
        have HX := hide hX
        have HT := hide hT
        have HG2 := hide hg2
        clear hX hT hg2
        go_wp2_with fail
        go_meet
        exact ⟨.error 6, only_setCell HG2.out (.inl rfl) _, ⟨by decide, q, by simpa using HX.out.set_ 2 (.int .i64 6)⟩, HT.out⟩
      · have H12 := hide (And.intro hg2 (And.intro h1 h2))
        clear hg2 h1 h2
        go_wp2_with fail
        go_meet
        exact ⟨st1, H12.out.1, H12.out.2.1, H12.out.2.2⟩
    case rest =>
      have HC := hide hcut
      clear hcut
      go_wp2_with fail
      go_loopw [6, 7] (fun o i wr => ItRel 22 1 encFl okFl id Mio.pF w g s n (goR st (Mio.pL Mio.pF)) o i wr) (fun _ i _ => (n - intOf i).toNat)
      case atStart => exact it_first HC.out
      case round =>
        clear HC
        obtain ⟨k, out, st1, rfl, rfl, ho, hok, hl, hk, hg2, hr, hG⟩ := hrel
        have HO := hide ho
        have HOK := hide hok
        have HG2 := hide hg2
        have HRD := hide hr
        have HGO := hide hG
        clear ho hok hg2 hG
        by_cases hlt : (k : Int) < n
        · cases st1 with
          | error er =>
            obtain ⟨he, q, hX⟩ := hr
            have c2 := hX.cell 2
            simp only [List.getElem?_toArray, List.getElem?_cons_zero, List.getElem?_cons_succ] at c2
            clear hX
            go_wp2_with fail
            exact HE.out n k out _ wr HO.out HOK.out HG2.out HRD.out HGO.out (fun ws e => by cases e)
          | ok ws =>
            obtain ⟨kk, hws, hk8, hX⟩ := hr
            have c2 := hX.cell 2
            simp only [List.getElem?_toArray, List.getElem?_cons_zero, List.getElem?_cons_succ] at c2
            have hone := float_one hs HRD.out
            have HCAP := hide (show n ≤ 48 from HGO.out.2.1)
            clear hws hk8 hX
            go_wp2_with fail
            refine hone.mono ?_
            rintro e w2 ⟨x, rfl, hx, hg3, hrd2, hcon⟩
            clear hone c2
            have ho2 := HO.out.keepg hg3 HG.out
            obtain ⟨v', w3, hrun, ho3, hx3⟩ := run_append_one (P := Try.prog) 22 23 23 1 8 (.float .f64 0) encFl (by decide) (fun _ => rfl) one_fl Try.underlying23 inf_fl rfl w2 w.heap.size out.val out.L x #[.float .f64 x] rfl ho2 (by have := HCAP.out; omega) (by have := HCAP.out; omega) (Nat.le_trans HG2.out.size hg3.size)
            have HNX := hide (it_next keep_fl HG.out HO.out HOK.out hl HG2.out HGO.out hlt hx hg3 hrd2 hcon ho3 hx3)
            clear hx hg3 hrd2 hcon ho2 ho3 hx3
            go_wp2_with (at_builtin; go_must (refine wpList_of_append rfl _ w3 (.tmp 38) (.tmp 41) 23 _ _ _ rfl rfl rfl hrun ?_))
            clear hrun
            have kI : (k : Int) + 1 ≤ 48 := by have := HCAP.out; omega
            go_roundw
            case rel => exact HNX.out
            case measure => simp [intOf]; omega
        · clear hr
          go_wp2_with fail
          exact HE.out n k out _ wr HO.out HOK.out HG2.out HRD.out HGO.out (fun ws e => by omega)
theorem items_int {w : World} {g : Nat} {s : ByteArray} {st : RSt} (hs : s.size ≤ 9223372036854775807) (h : RdAt w g s st)  : Calls Try.prog 70 #[.pointer (some ⟨g, 0, none⟩), .func (.func 62) #[.pointer (some ⟨g, 0, none⟩)] #[]] w (ItemsRd 3 1 encInt okInt id Mio.pI w g s st) := by
  have hg := h.lt
  have HE := hide (show ∀ (n : Int) (k : Nat) (out : Sl (Int)) (st1 : RSt) (wr : World), OwnR 3 1 encInt wr w.heap.size out.val out.L → (∀ x ∈ out.L, okInt wr w.heap.size x) → w.grownBy wr (some g) → RdAt wr g s st1 → Going id Mio.pI n (goR st (Mio.pL Mio.pI)) k out.L st1 → (∀ ws, st1 = .ok ws → ¬ (k : Int) < n) → ItemsRd 3 1 encInt okInt id Mio.pI w g s st (.returned out.val) wr from fun n k out st1 wr a b c d e f => it_end rfl a b c d e f)
  generalize ItemsRd 3 1 encInt okInt id Mio.pI w g s st = Post at *
  have HH := hide h
  have HG := hide hg
  have hint := int_rd hs h
  clear h hg
  go_enter Try.func70, Try.ntmps70
  go_wp2_with fail
  refine hint.mono ?_
  rintro e w1 ⟨n, rfl, hn, hg1, hr1, hc1⟩
  unfold I64 at hn
  have HN := hide hc1
  have HG1 := hide hg1
  clear hint hg1 hc1
  go_upto_region 2 with fail
  go_cut [22] (fun b wx => ItTest Mio.pI w g s n (goR st (Mio.pL Mio.pI)) b wx)
  case first =>
    generalize hst : aft (goR st Mio.pI) = st1 at *
    cases st1 with
    | error er =>
      have HB := hide (start_bad (p := Mio.pI) hst)
      obtain ⟨he, q, hX⟩ := hr1
      have c2 := hX.cell 2
      simp only [List.getElem?_toArray, List.getElem?_cons_zero, List.getElem?_cons_succ] at c2
      have HX := hide hX
      clear hst hX
      go_wp2_with fail
      go_meet
      exact ⟨false, rfl, HG1.out, .inr ⟨rfl, .error er, ⟨he, q, HX.out⟩, HB.out⟩⟩
    | ok ws =>
      have HB := hide (start_good (p := Mio.pI) hst HN.out)
      obtain ⟨kk, rfl, hk8, hX⟩ := hr1
      have c2 := hX.cell 2
      simp only [List.getElem?_toArray, List.getElem?_cons_zero, List.getElem?_cons_succ] at c2
      have HX := hide hX
      have HK := hide hk8
      clear hst hX hk8
      by_cases h1 : n < 0
      · have HT := hide (HB.out.1 (.inl h1))
        go_wp2_with fail
        go_meet
        exact ⟨true, rfl, HG1.out, .inl ⟨rfl, ⟨_, HX.out⟩, HT.out⟩⟩
      · by_cases h2 : 48 < n
        · have HT := hide (HB.out.1 (.inr h2))
          go_wp2_with fail
          go_meet
          exact ⟨true, rfl, HG1.out, .inl ⟨rfl, ⟨_, HX.out⟩, HT.out⟩⟩
        · have HT := hide (HB.out.2 (by omega))
          go_wp2_with fail
          go_meet
          exact ⟨false, rfl, HG1.out, .inr ⟨rfl, .ok _, ⟨kk, rfl, HK.out, HX.out⟩, by omega, by omega, HT.out.symm⟩⟩
  case rest =>
    clear hr1 HN HG1
    go_upto_if 22 with fail
    go_cut [] (fun wx => ItStart Mio.pI w g s n (goR st (Mio.pL Mio.pI)) wx)
    case first =>
      obtain ⟨bb, rfl, hg2, hw⟩ := hcut
      rcases hw with ⟨rfl, ⟨q, hX⟩, hT⟩ | ⟨rfl, st1, h1, h2⟩
      · have f2 := hX.frozen 2
        have c2 := hX.cell 2
        simp only [List.getElem?_toArray, List.getElem?_cons_zero, List.getElem?_cons_succ] at c2
        have HX := hide hX
        have HT := hide hT
        have HG2 := hide hg2
        clear hX hT hg2
        go_wp2_with fail
        go_meet
        exact ⟨.error 6, only_setCell HG2.out (.inl rfl) _, ⟨by decide, q, by simpa using HX.out.set_ 2 (.int .i64 6)⟩, HT.out⟩
      · have H12 := hide (And.intro hg2 (And.intro h1 h2))
        clear hg2 h1 h2
        go_wp2_with fail
        go_meet
        exact ⟨st1, H12.out.1, H12.out.2.1, H12.out.2.2⟩
    case rest =>
      have HC := hide hcut
      clear hcut
      go_wp2_with fail
      go_loopw [6, 7] (fun o i wr => ItRel 3 1 encInt okInt id Mio.pI w g s n (goR st (Mio.pL Mio.pI)) o i wr) (fun _ i _ => (n - intOf i).toNat)
      case atStart => exact it_first HC.out
      case round =>
        clear HC
        obtain ⟨k, out, st1, rfl, rfl, ho, hok, hl, hk, hg2, hr, hG⟩ := hrel
        have HO := hide ho
        have HOK := hide hok
        have HG2 := hide hg2
        have HRD := hide hr
        have HGO := hide hG
        clear ho hok hg2 hG
        by_cases hlt : (k : Int) < n
        · cases st1 with
          | error er =>
            obtain ⟨he, q, hX⟩ := hr
            have c2 := hX.cell 2
            simp only [List.getElem?_toArray, List.getElem?_cons_zero, List.getElem?_cons_succ] at c2
            clear hX
            go_wp2_with fail
            exact HE.out n k out _ wr HO.out HOK.out HG2.out HRD.out HGO.out (fun ws e => by cases e)
          | ok ws =>
            obtain ⟨kk, hws, hk8, hX⟩ := hr
            have c2 := hX.cell 2
            simp only [List.getElem?_toArray, List.getElem?_cons_zero, List.getElem?_cons_succ] at c2
            have hone := int_one hs HRD.out
            have HCAP := hide (show n ≤ 48 from HGO.out.2.1)
            clear hws hk8 hX
            go_wp2_with fail
            refine hone.mono ?_
            rintro e w2 ⟨x, rfl, hx, hg3, hrd2, hcon⟩
            clear hone c2
            have ho2 := HO.out.keepg hg3 HG.out
            obtain ⟨v', w3, hrun, ho3, hx3⟩ := run_append_one (P := Try.prog) 3 39 39 1 8 (.int .i64 0) encInt (by decide) (fun _ => rfl) one_int Try.underlying39 inf_int rfl w2 w.heap.size out.val out.L x #[.int .i64 x] rfl ho2 (by have := HCAP.out; omega) (by have := HCAP.out; omega) (Nat.le_trans HG2.out.size hg3.size)
            have HNX := hide (it_next keep_int HG.out HO.out HOK.out hl HG2.out HGO.out hlt hx hg3 hrd2 hcon ho3 hx3)
            clear hx hg3 hrd2 hcon ho2 ho3 hx3
            go_wp2_with (at_builtin; go_must (refine wpList_of_append rfl _ w3 (.tmp 38) (.tmp 41) 39 _ _ _ rfl rfl rfl hrun ?_))
            clear hrun
            have kI : (k : Int) + 1 ≤ 48 := by have := HCAP.out; omega
            go_roundw
            case rel => exact HNX.out
            case measure => simp [intOf]; omega
        · clear hr
          go_wp2_with fail
          exact HE.out n k out _ wr HO.out HOK.out HG2.out HRD.out HGO.out (fun ws e => by omega)
theorem ins_one {w : World} {g : Nat} {s : ByteArray} {st : RSt} (hs : s.size ≤ 9223372036854775807) (h : RdAt w g s st) (gr : Nat) (hgr : w.cell? ⟨gr, 0, none⟩ = some (.pointer (some ⟨g, 0, none⟩))) (hrg : gr ≠ g) : Calls Try.prog 61 #[.pointer (some ⟨gr, 0, none⟩)] w (OneRd vIns okIns id Mio.pIns w g s st) := by
  have hlt := h.lt
  have HD := hide (show ∀ x w', okIns w' w.heap.size x → w.grownBy w' (some g) → RdAt w' g s (aft (goR st Mio.pIns)) → (∀ y r, goR st Mio.pIns = .ok (y, r) → id x = y) → OneRd vIns okIns id Mio.pIns w g s st (.returned (vIns x)) w' from fun x w' a b c d => ⟨x, rfl, a, b, c, d⟩)
  generalize OneRd vIns okIns id Mio.pIns w g s st = Post at *
  have hb0 : Below w.heap.size w ((w.alloc (.cells #[.int .i64 0, .int .i64 0, .int .i64 0, .int .i64 0] 34)).drew) := ((Below.refl _ _).alloc (Nat.le_refl _) _).drew
  have hg0 : World.grownBy ((w.alloc (.cells #[.int .i64 0, .int .i64 0, .int .i64 0, .int .i64 0] 34)).drew) ((w.alloc (.cells #[.int .i64 0, .int .i64 0, .int .i64 0, .int .i64 0] 34)).drew) (some g) := World.grownBy.refl _ _
  have hX0 := (Blk.new w 34 #[.int .i64 0, .int .i64 0, .int .i64 0, .int .i64 0]).drew
  have hgr0 := keepc hb0 hgr
  have HR0 := hide (h.below hb0)
  have HB0 := hide hb0
  have HX0 := hide hX0
  have HLT := hide hlt
  have HC := hide (show ∀ X, World.grownBy ((w.alloc (.cells #[.int .i64 0, .int .i64 0, .int .i64 0, .int .i64 0] 34)).drew) X (some g) → X.cell? ⟨gr, 0, none⟩ = some (.pointer (some ⟨g, 0, none⟩)) from fun X hg => keepg hg hgr0 hrg)
  clear h hgr hb0 hX0 hrg hlt
  go_enter Try.func61, Try.ntmps61
  go_wp2_with fail
  refine wp_region_tree (fun X => X.cell? ⟨gr, 0, none⟩ = some (.pointer (some ⟨g, 0, none⟩))) [0, 2, 4, 6] 8 6 (by kernel_rfl) (by kernel_rfl) (HC.out _ hg0) ?_
  simp only [List.filterMap_cons, List.filterMap_nil, List.getElem?_cons_succ, List.getElem?_cons_zero]
  repeat (refine head_step ?_ (by rfl) ?_ (fun _ _ _ h => h) ?_; rotate_left; (intro w' hs; have z0 := hs; go_simp; (try with_reducible rfl)); (try simp only [Act.put, List.setIfInBounds_toArray, List.set_cons_zero, List.set_cons_succ]))
  refine head_nil ?_
  refine tree_one 1 (by kernel_rfl) rfl ?_
  refine midc_call (g := 62) (args := #[.pointer (some ⟨g, 0, none⟩)]) (w' := (w.alloc (.cells #[.int .i64 0, .int .i64 0, .int .i64 0, .int .i64 0] 34)).drew) (by rfl) (by go_simp) ((int_rd hs HR0.out).mono ?_)
  rintro e w1 ⟨n1, rfl, i1, hg1, hr1, c1⟩
  have hh1 := grown_trans_g hg0 hg1
  refine ⟨_, rfl, HC.out _ hh1, ?_⟩
  simp only [Act.put, List.setIfInBounds_toArray, List.set_cons_zero, List.set_cons_succ]
  refine midc_nil ?_
  refine tree_one 3 (by kernel_rfl) rfl ?_
  refine midc_call (g := 62) (args := #[.pointer (some ⟨g, 0, none⟩)]) (w' := w1) (by rfl) (by go_simp) ((int_rd hs hr1).mono ?_)
  rintro e w2 ⟨n2, rfl, i2, hg2, hr2, c2⟩
  have hh2 := grown_trans_g hh1 hg2
  refine ⟨_, rfl, HC.out _ hh2, ?_⟩
  simp only [Act.put, List.setIfInBounds_toArray, List.set_cons_zero, List.set_cons_succ]
  refine midc_nil ?_
  refine tree_one 5 (by kernel_rfl) rfl ?_
  refine midc_call (g := 62) (args := #[.pointer (some ⟨g, 0, none⟩)]) (w' := w2) (by rfl) (by go_simp) ((int_rd hs hr2).mono ?_)
  rintro e w3 ⟨n3, rfl, i3, hg3, hr3, c3⟩
  have hh3 := grown_trans_g hh2 hg3
  refine ⟨_, rfl, HC.out _ hh3, ?_⟩
  simp only [Act.put, List.setIfInBounds_toArray, List.set_cons_zero, List.set_cons_succ]
  refine midc_nil ?_
  refine tree_one 7 (by kernel_rfl) rfl ?_
  refine midc_call (g := 62) (args := #[.pointer (some ⟨g, 0, none⟩)]) (w' := w3) (by rfl) (by go_simp) ((int_rd hs hr3).mono ?_)
  rintro e w4 ⟨n4, rfl, i4, hg4, hr4, c4⟩
  have hh4 := grown_trans_g hh3 hg4
  refine ⟨_, rfl, HC.out _ hh4, ?_⟩
  simp only [Act.put, List.setIfInBounds_toArray, List.set_cons_zero, List.set_cons_succ]
  refine midc_nil ?_
  refine tree_list _ 8 (by decide) rfl (by kernel_rfl) rfl ?_
  have hX := HX0.out.grown hh4 (fun e => by have := HLT.out; injection e with e; omega)
  have r0 := hX.cell 0
  have q0 := hX.frozen 0
  have r1 := hX.cell 1
  have q1 := hX.frozen 1
  have r2 := hX.cell 2
  have q2 := hX.frozen 2
  have r3 := hX.cell 3
  have q3 := hX.frozen 3
  simp only [List.getElem?_toArray, List.getElem?_cons_zero, List.getElem?_cons_succ] at r0 r1 r2 r3
  have HRF := hide hr4
  have HGF := hide (grown_trans_g (only_of_below HB0.out (some g)) hh4)
  have HCN := hide (ins_con c1 c2 c3 c4)
  have HOK := hide (And.intro i1 (And.intro i2 (And.intro i3 i4)))
  clear c1 c2 c3 c4 i1 i2 i3 i4
  clear hX hg1 hh1 hr1 hg2 hh2 hr2 hg3 hh3 hr3 hg4 hh4 hr4 hg0 HC HX0 HR0
  go_wp2_with fail
  refine bodyPost_ret (v := .agg #[.int .i64 n1, .int .i64 n2, .int .i64 n3, .int .i64 n4]) (by simp [results, Try.results61, go_sem, r0, r1, r2, r3]) rfl ?_
  refine HD.out (n1, n2, n3, n4) _ ⟨HOK.out.1, HOK.out.2.1, HOK.out.2.2.1, HOK.out.2.2.2⟩ ?_ ?_ HCN.out
  · exact only_setCell (only_setCell (only_setCell (only_setCell (HGF.out) (.inr (Nat.le_refl _)) _) (.inr (Nat.le_refl _)) _) (.inr (Nat.le_refl _)) _) (.inr (Nat.le_refl _)) _
  rw [ins_aft]
  exact HRF.out.kept ((Below.heap_setCell _ _ _ _ (show g ≠ w.heap.size from Nat.ne_of_lt HLT.out)).trans ((Below.heap_setCell _ _ _ _ (show g ≠ w.heap.size from Nat.ne_of_lt HLT.out)).trans ((Below.heap_setCell _ _ _ _ (show g ≠ w.heap.size from Nat.ne_of_lt HLT.out)).trans ((Below.heap_setCell _ _ _ _ (show g ≠ w.heap.size from Nat.ne_of_lt HLT.out))))))
theorem items_ins {w : World} {g : Nat} {s : ByteArray} {st : RSt} (hs : s.size ≤ 9223372036854775807) (h : RdAt w g s st) (gr : Nat) (hgr : w.cell? ⟨gr, 0, none⟩ = some (.pointer (some ⟨g, 0, none⟩))) (hrg : gr ≠ g) : Calls Try.prog 67 #[.pointer (some ⟨g, 0, none⟩), .func (.func 61) #[] #[.pointer (some ⟨gr, 0, none⟩)]] w (ItemsRd 34 4 encIns okIns id Mio.pIns w g s st) := by
  have hg := h.lt
  have HE := hide (show ∀ (n : Int) (k : Nat) (out : Sl (Ins4)) (st1 : RSt) (wr : World), OwnR 34 4 encIns wr w.heap.size out.val out.L → (∀ x ∈ out.L, okIns wr w.heap.size x) → w.grownBy wr (some g) → RdAt wr g s st1 → Going id Mio.pIns n (goR st (Mio.pL Mio.pIns)) k out.L st1 → (∀ ws, st1 = .ok ws → ¬ (k : Int) < n) → ItemsRd 34 4 encIns okIns id Mio.pIns w g s st (.returned out.val) wr from fun n k out st1 wr a b c d e f => it_end rfl a b c d e f)
  generalize ItemsRd 34 4 encIns okIns id Mio.pIns w g s st = Post at *
  have HH := hide h
  have HG := hide hg
  have HGR := hide hgr
  have HRG := hide hrg
  clear hgr hrg
  have hint := int_rd hs h
  clear h hg
  go_enter Try.func67, Try.ntmps67
  go_wp2_with fail
  refine hint.mono ?_
  rintro e w1 ⟨n, rfl, hn, hg1, hr1, hc1⟩
  unfold I64 at hn
  have HN := hide hc1
  have HG1 := hide hg1
  clear hint hg1 hc1
  go_upto_region 2 with fail
  go_cut [22] (fun b wx => ItTest Mio.pIns w g s n (goR st (Mio.pL Mio.pIns)) b wx)
  case first =>
    generalize hst : aft (goR st Mio.pI) = st1 at *
    cases st1 with
    | error er =>
      have HB := hide (start_bad (p := Mio.pIns) hst)
      obtain ⟨he, q, hX⟩ := hr1
      have c2 := hX.cell 2
      simp only [List.getElem?_toArray, List.getElem?_cons_zero, List.getElem?_cons_succ] at c2
      have HX := hide hX
      clear hst hX
      go_wp2_with fail
      go_meet
      exact ⟨false, rfl, HG1.out, .inr ⟨rfl, .error er, ⟨he, q, HX.out⟩, HB.out⟩⟩
    | ok ws =>
      have HB := hide (start_good (p := Mio.pIns) hst HN.out)
      obtain ⟨kk, rfl, hk8, hX⟩ := hr1
      have c2 := hX.cell 2
      simp only [List.getElem?_toArray, List.getElem?_cons_zero, List.getElem?_cons_succ] at c2
      have HX := hide hX
      have HK := hide hk8
      clear hst hX hk8
      by_cases h1 : n < 0
      · have HT := hide (HB.out.1 (.inl h1))
        go_wp2_with fail
        go_meet
        exact ⟨true, rfl, HG1.out, .inl ⟨rfl, ⟨_, HX.out⟩, HT.out⟩⟩
      · by_cases h2 : 48 < n
        · have HT := hide (HB.out.1 (.inr h2))
          go_wp2_with fail
          go_meet
          exact ⟨true, rfl, HG1.out, .inl ⟨rfl, ⟨_, HX.out⟩, HT.out⟩⟩
        · have HT := hide (HB.out.2 (by omega))
          go_wp2_with fail
          go_meet
          exact ⟨false, rfl, HG1.out, .inr ⟨rfl, .ok _, ⟨kk, rfl, HK.out, HX.out⟩, by omega, by omega, HT.out.symm⟩⟩
  case rest =>
    clear hr1 HN HG1
    go_upto_if 22 with fail
    go_cut [] (fun wx => ItStart Mio.pIns w g s n (goR st (Mio.pL Mio.pIns)) wx)
    case first =>
      obtain ⟨bb, rfl, hg2, hw⟩ := hcut
      rcases hw with ⟨rfl, ⟨q, hX⟩, hT⟩ | ⟨rfl, st1, h1, h2⟩
      · have f2 := hX.frozen 2
        have c2 := hX.cell 2
        simp only [List.getElem?_toArray, List.getElem?_cons_zero, List.getElem?_cons_succ] at c2
        have HX := hide hX
        have HT := hide hT
        have HG2 := hide hg2
        clear hX hT hg2
        go_wp2_with fail
        go_meet
        exact ⟨.error 6, only_setCell HG2.out (.inl rfl) _, ⟨by decide, q, by simpa using HX.out.set_ 2 (.int .i64 6)⟩, HT.out⟩
      · have H12 := hide (And.intro hg2 (And.intro h1 h2))
        clear hg2 h1 h2
        go_wp2_with fail
        go_meet
        exact ⟨st1, H12.out.1, H12.out.2.1, H12.out.2.2⟩
    case rest =>
      have HC := hide hcut
      clear hcut
      go_wp2_with fail
      go_loopw [6, 7] (fun o i wr => ItRel 34 4 encIns okIns id Mio.pIns w g s n (goR st (Mio.pL Mio.pIns)) o i wr) (fun _ i _ => (n - intOf i).toNat)
      case atStart => exact it_first HC.out
      case round =>
        clear HC
        obtain ⟨k, out, st1, rfl, rfl, ho, hok, hl, hk, hg2, hr, hG⟩ := hrel
        have HO := hide ho
        have HOK := hide hok
        have HG2 := hide hg2
        have HRD := hide hr
        have HGO := hide hG
        clear ho hok hg2 hG
        by_cases hlt : (k : Int) < n
        · cases st1 with
          | error er =>
            obtain ⟨he, q, hX⟩ := hr
            have c2 := hX.cell 2
            simp only [List.getElem?_toArray, List.getElem?_cons_zero, List.getElem?_cons_succ] at c2
            clear hX
            go_wp2_with fail
            exact HE.out n k out _ wr HO.out HOK.out HG2.out HRD.out HGO.out (fun ws e => by cases e)
          | ok ws =>
            obtain ⟨kk, hws, hk8, hX⟩ := hr
            have c2 := hX.cell 2
            simp only [List.getElem?_toArray, List.getElem?_cons_zero, List.getElem?_cons_succ] at c2
            have hgr2 := keepg HG2.out HGR.out HRG.out
            have hone := ins_one hs HRD.out gr hgr2 HRG.out
            have HCAP := hide (show n ≤ 48 from HGO.out.2.1)
            clear hws hk8 hX
            go_wp2_with fail
            refine hone.mono ?_
            rintro e w2 ⟨x, rfl, hx, hg3, hrd2, hcon⟩
            clear hone c2 hgr2
            obtain ⟨x1, x2, x3, x4⟩ := x
            simp only [vIns]
            have ho2 := HO.out.keepg hg3 HG.out
            obtain ⟨v', w3, hrun, ho3, hx3⟩ := run_append_one (P := Try.prog) 34 38 38 4 32 (.agg #[.int .i64 0, .int .i64 0, .int .i64 0, .int .i64 0]) encIns (by decide) (fun _ => rfl) one_ins Try.underlying38 inf_ins rfl w2 w.heap.size out.val out.L (x1, x2, x3, x4) #[.int .i64 x1, .int .i64 x2, .int .i64 x3, .int .i64 x4] rfl ho2 (by have := HCAP.out; omega) (by have := HCAP.out; omega) (Nat.le_trans HG2.out.size hg3.size)
            have HNX := hide (it_next keep_ins HG.out HO.out HOK.out hl HG2.out HGO.out hlt hx hg3 hrd2 hcon ho3 hx3)
            clear hx hg3 hrd2 hcon ho2 ho3 hx3
            go_wp2_with (at_builtin; go_must (refine wpList_of_append rfl _ w3 (.tmp 38) (.tmp 41) 38 _ _ _ rfl rfl rfl hrun ?_))
            clear hrun
            have kI : (k : Int) + 1 ≤ 48 := by have := HCAP.out; omega
            go_roundw
            case rel => exact HNX.out
            case measure => simp [intOf]; omega
        · clear hr
          go_wp2_with fail
          exact HE.out n k out _ wr HO.out HOK.out HG2.out HRD.out HGO.out (fun ws e => by omega)
theorem prog_one {w : World} {g : Nat} {s : ByteArray} {st : RSt} (hs : s.size ≤ 9223372036854775807) (h : RdAt w g s st) (gr : Nat) (hgr : w.cell? ⟨gr, 0, none⟩ = some (.pointer (some ⟨g, 0, none⟩))) (hrg : gr ≠ g) (gi : Nat) (hgi : w.cell? ⟨gi, 0, none⟩ = some (.func (.func 61) #[] #[.pointer (some ⟨gr, 0, none⟩)])) (hig : gi ≠ g) : Calls Try.prog 66 #[.pointer (some ⟨gr, 0, none⟩), .pointer (some ⟨gi, 0, none⟩)] w (OneRd Sl.val okPr (fun x : Sl Ins4 => x.L) (Mio.pL Mio.pIns) w g s st) := by
  have HD := hide (show ∀ x w', okPr w' w.heap.size x → w.grownBy w' (some g) → RdAt w' g s (aft (goR st (Mio.pL Mio.pIns))) → (∀ y r, goR st (Mio.pL Mio.pIns) = .ok (y, r) → x.L = y) → OneRd Sl.val okPr (fun x : Sl Ins4 => x.L) (Mio.pL Mio.pIns) w g s st (.returned x.val) w' from fun x w' a b c d => ⟨x, rfl, a, b, c, d⟩)
  generalize OneRd Sl.val okPr (fun x : Sl Ins4 => x.L) (Mio.pL Mio.pIns) w g s st = Post at *
  have hc := items_ins hs h gr hgr hrg
  clear h
  go_enter Try.func66, Try.ntmps66
  go_wp2_with fail
  refine hc.mono ?_
  rintro e w1 ⟨x, rfl, ho, hoks, hg1, hr1, c1⟩
  have HF := hide (HD.out x w1 ⟨ho, hoks⟩ hg1 hr1 (fun y r e => by have := c1 y r e; rwa [List.map_id] at this))
  clear ho hoks hg1 hr1 c1 hc HD
  go_wp2_with fail
  exact HF.out
theorem items_prog {w : World} {g : Nat} {s : ByteArray} {st : RSt} (hs : s.size ≤ 9223372036854775807) (h : RdAt w g s st) (gr : Nat) (hgr : w.cell? ⟨gr, 0, none⟩ = some (.pointer (some ⟨g, 0, none⟩))) (hrg : gr ≠ g) (gi : Nat) (hgi : w.cell? ⟨gi, 0, none⟩ = some (.func (.func 61) #[] #[.pointer (some ⟨gr, 0, none⟩)])) (hig : gi ≠ g) : Calls Try.prog 65 #[.pointer (some ⟨g, 0, none⟩), .func (.func 66) #[] #[.pointer (some ⟨gr, 0, none⟩), .pointer (some ⟨gi, 0, none⟩)]] w (ItemsRd 38 1 encSl okPr (fun x : Sl Ins4 => x.L) (Mio.pL Mio.pIns) w g s st) := by
  have hg := h.lt
  have HE := hide (show ∀ (n : Int) (k : Nat) (out : Sl (Sl Ins4)) (st1 : RSt) (wr : World), OwnR 38 1 encSl wr w.heap.size out.val out.L → (∀ x ∈ out.L, okPr wr w.heap.size x) → w.grownBy wr (some g) → RdAt wr g s st1 → Going (fun x : Sl Ins4 => x.L) (Mio.pL Mio.pIns) n (goR st (Mio.pL (Mio.pL Mio.pIns))) k out.L st1 → (∀ ws, st1 = .ok ws → ¬ (k : Int) < n) → ItemsRd 38 1 encSl okPr (fun x : Sl Ins4 => x.L) (Mio.pL Mio.pIns) w g s st (.returned out.val) wr from fun n k out st1 wr a b c d e f => it_end rfl a b c d e f)
  generalize ItemsRd 38 1 encSl okPr (fun x : Sl Ins4 => x.L) (Mio.pL Mio.pIns) w g s st = Post at *
  have HH := hide h
  have HG := hide hg
  have HGR := hide hgr
  have HRG := hide hrg
  clear hgr hrg
  have HGI := hide hgi
  have HIG := hide hig
  clear hgi hig
  have hint := int_rd hs h
  clear h hg
  go_enter Try.func65, Try.ntmps65
  go_wp2_with fail
  refine hint.mono ?_
  rintro e w1 ⟨n, rfl, hn, hg1, hr1, hc1⟩
  unfold I64 at hn
  have HN := hide hc1
  have HG1 := hide hg1
  clear hint hg1 hc1
  go_upto_region 2 with fail
  go_cut [22] (fun b wx => ItTest (Mio.pL Mio.pIns) w g s n (goR st (Mio.pL (Mio.pL Mio.pIns))) b wx)
  case first =>
    generalize hst : aft (goR st Mio.pI) = st1 at *
    cases st1 with
    | error er =>
      have HB := hide (start_bad (p := (Mio.pL Mio.pIns)) hst)
      obtain ⟨he, q, hX⟩ := hr1
      have c2 := hX.cell 2
      simp only [List.getElem?_toArray, List.getElem?_cons_zero, List.getElem?_cons_succ] at c2
      have HX := hide hX
      clear hst hX
      go_wp2_with fail
      go_meet
      exact ⟨false, rfl, HG1.out, .inr ⟨rfl, .error er, ⟨he, q, HX.out⟩, HB.out⟩⟩
    | ok ws =>
      have HB := hide (start_good (p := (Mio.pL Mio.pIns)) hst HN.out)
      obtain ⟨kk, rfl, hk8, hX⟩ := hr1
      have c2 := hX.cell 2
      simp only [List.getElem?_toArray, List.getElem?_cons_zero, List.getElem?_cons_succ] at c2
      have HX := hide hX
      have HK := hide hk8
      clear hst hX hk8
      by_cases h1 : n < 0
      · have HT := hide (HB.out.1 (.inl h1))
        go_wp2_with fail
        go_meet
        exact ⟨true, rfl, HG1.out, .inl ⟨rfl, ⟨_, HX.out⟩, HT.out⟩⟩
      · by_cases h2 : 48 < n
        · have HT := hide (HB.out.1 (.inr h2))
          go_wp2_with fail
          go_meet
          exact ⟨true, rfl, HG1.out, .inl ⟨rfl, ⟨_, HX.out⟩, HT.out⟩⟩
        · have HT := hide (HB.out.2 (by omega))
          go_wp2_with fail
          go_meet
          exact ⟨false, rfl, HG1.out, .inr ⟨rfl, .ok _, ⟨kk, rfl, HK.out, HX.out⟩, by omega, by omega, HT.out.symm⟩⟩
  case rest =>
    clear hr1 HN HG1
    go_upto_if 22 with fail
    go_cut [] (fun wx => ItStart (Mio.pL Mio.pIns) w g s n (goR st (Mio.pL (Mio.pL Mio.pIns))) wx)
    case first =>
      obtain ⟨bb, rfl, hg2, hw⟩ := hcut
      rcases hw with ⟨rfl, ⟨q, hX⟩, hT⟩ | ⟨rfl, st1, h1, h2⟩
      · have f2 := hX.frozen 2
        have c2 := hX.cell 2
        simp only [List.getElem?_toArray, List.getElem?_cons_zero, List.getElem?_cons_succ] at c2
        have HX := hide hX
        have HT := hide hT
        have HG2 := hide hg2
        clear hX hT hg2
        go_wp2_with fail
        go_meet
        exact ⟨.error 6, only_setCell HG2.out (.inl rfl) _, ⟨by decide, q, by simpa using HX.out.set_ 2 (.int .i64 6)⟩, HT.out⟩
      · have H12 := hide (And.intro hg2 (And.intro h1 h2))
        clear hg2 h1 h2
        go_wp2_with fail
        go_meet
        exact ⟨st1, H12.out.1, H12.out.2.1, H12.out.2.2⟩
    case rest =>
      have HC := hide hcut
      clear hcut
      go_wp2_with fail
      go_loopw [6, 7] (fun o i wr => ItRel 38 1 encSl okPr (fun x : Sl Ins4 => x.L) (Mio.pL Mio.pIns) w g s n (goR st (Mio.pL (Mio.pL Mio.pIns))) o i wr) (fun _ i _ => (n - intOf i).toNat)
      case atStart => exact it_first HC.out
      case round =>
        clear HC
        obtain ⟨k, out, st1, rfl, rfl, ho, hok, hl, hk, hg2, hr, hG⟩ := hrel
        have HO := hide ho
        have HOK := hide hok
        have HG2 := hide hg2
        have HRD := hide hr
        have HGO := hide hG
        clear ho hok hg2 hG
        by_cases hlt : (k : Int) < n
        · cases st1 with
          | error er =>
            obtain ⟨he, q, hX⟩ := hr
            have c2 := hX.cell 2
            simp only [List.getElem?_toArray, List.getElem?_cons_zero, List.getElem?_cons_succ] at c2
            clear hX
            go_wp2_with fail
            exact HE.out n k out _ wr HO.out HOK.out HG2.out HRD.out HGO.out (fun ws e => by cases e)
          | ok ws =>
            obtain ⟨kk, hws, hk8, hX⟩ := hr
            have c2 := hX.cell 2
            simp only [List.getElem?_toArray, List.getElem?_cons_zero, List.getElem?_cons_succ] at c2
            have hgr2 := keepg HG2.out HGR.out HRG.out
            have hgi2 := keepg HG2.out HGI.out HIG.out
            have hone := prog_one hs HRD.out gr hgr2 HRG.out gi hgi2 HIG.out
            have HCAP := hide (show n ≤ 48 from HGO.out.2.1)
            clear hws hk8 hX
            go_wp2_with fail
            refine hone.mono ?_
            rintro e w2 ⟨x, rfl, hx, hg3, hrd2, hcon⟩
            clear hone c2 hgr2 hgi2
            obtain ⟨xA, xc, xl⟩ := x
            simp only [Sl.val]
            have ho2 := HO.out.keepg hg3 HG.out
            obtain ⟨v', w3, hrun, ho3, hx3⟩ := run_append_one (P := Try.prog) 38 24 24 1 24 (.slice none 0 0) encSl (by decide) (fun _ => rfl) one_sl Try.underlying24 inf_insl rfl w2 w.heap.size out.val out.L ⟨xA, xc, xl⟩ #[.slice xA xl.length xc] rfl ho2 (by have := HCAP.out; omega) (by have := HCAP.out; omega) (Nat.le_trans HG2.out.size hg3.size)
            have HNX := hide (it_next keep_pr HG.out HO.out HOK.out hl HG2.out HGO.out hlt hx hg3 hrd2 hcon ho3 hx3)
            clear hx hg3 hrd2 hcon ho2 ho3 hx3
            go_wp2_with (at_builtin; go_must (refine wpList_of_append rfl _ w3 (.tmp 38) (.tmp 41) 24 _ _ _ rfl rfl rfl hrun ?_))
            clear hrun
            have kI : (k : Int) + 1 ≤ 48 := by have := HCAP.out; omega
            go_roundw
            case rel => exact HNX.out
            case measure => simp [intOf]; omega
        · clear hr
          go_wp2_with fail
          exact HE.out n k out _ wr HO.out HOK.out HG2.out HRD.out HGO.out (fun ws e => by omega)
theorem lp_one {w : World} {g : Nat} {s : ByteArray} {st : RSt} (hs : s.size ≤ 9223372036854775807) (h : RdAt w g s st) (gr : Nat) (hgr : w.cell? ⟨gr, 0, none⟩ = some (.pointer (some ⟨g, 0, none⟩))) (hrg : gr ≠ g) : Calls Try.prog 69 #[.pointer (some ⟨gr, 0, none⟩)] w (OneRd vLp okLp (fun x : LP2 => (x.1, x.2.L)) Mio.pLP w g s st) := by
  have hlt := h.lt
  have HD := hide (show ∀ x w', okLp w' w.heap.size x → w.grownBy w' (some g) → RdAt w' g s (aft (goR st Mio.pLP)) → (∀ y r, goR st Mio.pLP = .ok (y, r) → (fun x : LP2 => (x.1, x.2.L)) x = y) → OneRd vLp okLp (fun x : LP2 => (x.1, x.2.L)) Mio.pLP w g s st (.returned (vLp x)) w' from fun x w' a b c d => ⟨x, rfl, a, b, c, d⟩)
  generalize OneRd vLp okLp (fun x : LP2 => (x.1, x.2.L)) Mio.pLP w g s st = Post at *
  have hb0 : Below w.heap.size w ((w.alloc (.cells #[.int .i64 0, .slice none 0 0] 41)).drew) := ((Below.refl _ _).alloc (Nat.le_refl _) _).drew
  have hg0 : World.grownBy ((w.alloc (.cells #[.int .i64 0, .slice none 0 0] 41)).drew) ((w.alloc (.cells #[.int .i64 0, .slice none 0 0] 41)).drew) (some g) := World.grownBy.refl _ _
  have hX0 := (Blk.new w 41 #[.int .i64 0, .slice none 0 0]).drew
  have hgr0 := keepc hb0 hgr
  have HR0 := hide (h.below hb0)
  have HB0 := hide hb0
  have HX0 := hide hX0
  have HLT := hide hlt
  have HC := hide (show ∀ X, World.grownBy ((w.alloc (.cells #[.int .i64 0, .slice none 0 0] 41)).drew) X (some g) → X.cell? ⟨gr, 0, none⟩ = some (.pointer (some ⟨g, 0, none⟩)) from fun X hg => keepg hg hgr0 hrg)
  clear h hgr hb0 hX0 hrg hlt
  go_enter Try.func69, Try.ntmps69
  go_wp2_with fail
  refine wp_region_tree (fun X => X.cell? ⟨gr, 0, none⟩ = some (.pointer (some ⟨g, 0, none⟩))) [0, 2, 3, 4] 6 4 (by kernel_rfl) (by kernel_rfl) (HC.out _ hg0) ?_
  simp only [List.filterMap_cons, List.filterMap_nil, List.getElem?_cons_succ, List.getElem?_cons_zero]
  repeat (refine head_step ?_ (by rfl) ?_ (fun _ _ _ h => h) ?_; rotate_left; (intro w' hs; have z0 := hs; go_simp; (try with_reducible rfl)); (try simp only [Act.put, List.setIfInBounds_toArray, List.set_cons_zero, List.set_cons_succ]))
  refine head_nil ?_
  refine tree_one 1 (by kernel_rfl) rfl ?_
  refine midc_call (g := 62) (args := #[.pointer (some ⟨g, 0, none⟩)]) (w' := (w.alloc (.cells #[.int .i64 0, .slice none 0 0] 41)).drew) (by rfl) (by go_simp) ((int_rd hs HR0.out).mono ?_)
  rintro e w1 ⟨n1, rfl, i1, hg1, hr1, c1⟩
  have hh1 := grown_trans_g hg0 hg1
  refine ⟨_, rfl, HC.out _ hh1, ?_⟩
  simp only [Act.put, List.setIfInBounds_toArray, List.set_cons_zero, List.set_cons_succ]
  refine midc_nil ?_
  refine tree_one 5 (by kernel_rfl) rfl ?_
  refine midc_call (g := 70) (args := #[.pointer (some ⟨g, 0, none⟩), .func (.func 62) #[.pointer (some ⟨g, 0, none⟩)] #[]]) (w' := w1) (by rfl) (by go_simp) ((items_int hs hr1).mono ?_)
  rintro e w2 ⟨⟨xA, xc, xl⟩, rfl, ho, hoks, hg2, hr2, c2⟩
  simp only [Sl.val] at *
  have hh2 := grown_trans_g hh1 hg2
  refine ⟨_, rfl, HC.out _ hh2, ?_⟩
  simp only [Act.put, List.setIfInBounds_toArray, List.set_cons_zero, List.set_cons_succ]
  refine midc_nil ?_
  refine tree_list _ 6 (by decide) rfl (by kernel_rfl) rfl ?_
  have hX := HX0.out.grown hh2 (fun e => by have := HLT.out; injection e with e; omega)
  have r0 := hX.cell 0
  have q0 := hX.frozen 0
  have r1 := hX.cell 1
  have q1 := hX.frozen 1
  simp only [List.getElem?_toArray, List.getElem?_cons_zero, List.getElem?_cons_succ] at r0 r1
  have HRF := hide hr2
  have HGF := hide (grown_trans_g (only_of_below HB0.out (some g)) hh2)
  have HCN := hide (lp_con (a := n1) (l := xl) c1 c2)
  have HOK := hide (And.intro i1 (And.intro ho hoks))
  have HSZ := hide (show w.heap.size < w1.heap.size by have := hh1.size; simp at this; omega)
  clear c1 c2 i1 ho hoks
  clear hX hg1 hh1 hr1 hg2 hh2 hr2 hg0 HC HX0 HR0
  go_wp2_with fail
  refine bodyPost_ret (v := .agg #[.int .i64 n1, .slice xA xl.length xc]) (by simp [results, Try.results69, go_sem, r0, r1]) rfl ?_
  refine HD.out (n1, ⟨xA, xc, xl⟩) _ ?_ ?_ ?_ HCN.out
  · exact ⟨HOK.out.1, OwnR.low6 ((HOK.out.2.1.setCell (p := ⟨w.heap.size, 0, none⟩) HSZ.out _).setCell (p := ⟨w.heap.size, 1, none⟩) HSZ.out _) (Nat.le_of_lt HSZ.out), HOK.out.2.2⟩
  · exact only_setCell (only_setCell (HGF.out) (.inr (Nat.le_refl _)) _) (.inr (Nat.le_refl _)) _
  rw [lp_aft]
  exact HRF.out.kept ((Below.heap_setCell _ _ _ _ (show g ≠ w.heap.size from Nat.ne_of_lt HLT.out)).trans ((Below.heap_setCell _ _ _ _ (show g ≠ w.heap.size from Nat.ne_of_lt HLT.out))))
theorem items_lp {w : World} {g : Nat} {s : ByteArray} {st : RSt} (hs : s.size ≤ 9223372036854775807) (h : RdAt w g s st) (gr : Nat) (hgr : w.cell? ⟨gr, 0, none⟩ = some (.pointer (some ⟨g, 0, none⟩))) (hrg : gr ≠ g) : Calls Try.prog 68 #[.pointer (some ⟨g, 0, none⟩), .func (.func 69) #[] #[.pointer (some ⟨gr, 0, none⟩)]] w (ItemsRd 41 2 encLp okLp (fun x : LP2 => (x.1, x.2.L)) Mio.pLP w g s st) := by
  have hg := h.lt
  have HE := hide (show ∀ (n : Int) (k : Nat) (out : Sl (LP2)) (st1 : RSt) (wr : World), OwnR 41 2 encLp wr w.heap.size out.val out.L → (∀ x ∈ out.L, okLp wr w.heap.size x) → w.grownBy wr (some g) → RdAt wr g s st1 → Going (fun x : LP2 => (x.1, x.2.L)) Mio.pLP n (goR st (Mio.pL Mio.pLP)) k out.L st1 → (∀ ws, st1 = .ok ws → ¬ (k : Int) < n) → ItemsRd 41 2 encLp okLp (fun x : LP2 => (x.1, x.2.L)) Mio.pLP w g s st (.returned out.val) wr from fun n k out st1 wr a b c d e f => it_end rfl a b c d e f)
  generalize ItemsRd 41 2 encLp okLp (fun x : LP2 => (x.1, x.2.L)) Mio.pLP w g s st = Post at *
  have HH := hide h
  have HG := hide hg
  have HGR := hide hgr
  have HRG := hide hrg
  clear hgr hrg
  have hint := int_rd hs h
  clear h hg
  go_enter Try.func68, Try.ntmps68
  go_wp2_with fail
  refine hint.mono ?_
  rintro e w1 ⟨n, rfl, hn, hg1, hr1, hc1⟩
  unfold I64 at hn
  have HN := hide hc1
  have HG1 := hide hg1
  clear hint hg1 hc1
  go_upto_region 2 with fail
  go_cut [22] (fun b wx => ItTest Mio.pLP w g s n (goR st (Mio.pL Mio.pLP)) b wx)
  case first =>
    generalize hst : aft (goR st Mio.pI) = st1 at *
    cases st1 with
    | error er =>
      have HB := hide (start_bad (p := Mio.pLP) hst)
      obtain ⟨he, q, hX⟩ := hr1
      have c2 := hX.cell 2
      simp only [List.getElem?_toArray, List.getElem?_cons_zero, List.getElem?_cons_succ] at c2
      have HX := hide hX
      clear hst hX
      go_wp2_with fail
      go_meet
      exact ⟨false, rfl, HG1.out, .inr ⟨rfl, .error er, ⟨he, q, HX.out⟩, HB.out⟩⟩
    | ok ws =>
      have HB := hide (start_good (p := Mio.pLP) hst HN.out)
      obtain ⟨kk, rfl, hk8, hX⟩ := hr1
      have c2 := hX.cell 2
      simp only [List.getElem?_toArray, List.getElem?_cons_zero, List.getElem?_cons_succ] at c2
      have HX := hide hX
      have HK := hide hk8
      clear hst hX hk8
      by_cases h1 : n < 0
      · have HT := hide (HB.out.1 (.inl h1))
        go_wp2_with fail
        go_meet
        exact ⟨true, rfl, HG1.out, .inl ⟨rfl, ⟨_, HX.out⟩, HT.out⟩⟩
      · by_cases h2 : 48 < n
        · have HT := hide (HB.out.1 (.inr h2))
          go_wp2_with fail
          go_meet
          exact ⟨true, rfl, HG1.out, .inl ⟨rfl, ⟨_, HX.out⟩, HT.out⟩⟩
        · have HT := hide (HB.out.2 (by omega))
          go_wp2_with fail
          go_meet
          exact ⟨false, rfl, HG1.out, .inr ⟨rfl, .ok _, ⟨kk, rfl, HK.out, HX.out⟩, by omega, by omega, HT.out.symm⟩⟩
  case rest =>
    clear hr1 HN HG1
    go_upto_if 22 with fail
    go_cut [] (fun wx => ItStart Mio.pLP w g s n (goR st (Mio.pL Mio.pLP)) wx)
    case first =>
      obtain ⟨bb, rfl, hg2, hw⟩ := hcut
      rcases hw with ⟨rfl, ⟨q, hX⟩, hT⟩ | ⟨rfl, st1, h1, h2⟩
      · have f2 := hX.frozen 2
        have c2 := hX.cell 2
        simp only [List.getElem?_toArray, List.getElem?_cons_zero, List.getElem?_cons_succ] at c2
        have HX := hide hX
        have HT := hide hT
        have HG2 := hide hg2
        clear hX hT hg2
        go_wp2_with fail
        go_meet
        exact ⟨.error 6, only_setCell HG2.out (.inl rfl) _, ⟨by decide, q, by simpa using HX.out.set_ 2 (.int .i64 6)⟩, HT.out⟩
      · have H12 := hide (And.intro hg2 (And.intro h1 h2))
        clear hg2 h1 h2
        go_wp2_with fail
        go_meet
        exact ⟨st1, H12.out.1, H12.out.2.1, H12.out.2.2⟩
    case rest =>
      have HC := hide hcut
      clear hcut
      go_wp2_with fail
      go_loopw [6, 7] (fun o i wr => ItRel 41 2 encLp okLp (fun x : LP2 => (x.1, x.2.L)) Mio.pLP w g s n (goR st (Mio.pL Mio.pLP)) o i wr) (fun _ i _ => (n - intOf i).toNat)
      case atStart => exact it_first HC.out
      case round =>
        clear HC
        obtain ⟨k, out, st1, rfl, rfl, ho, hok, hl, hk, hg2, hr, hG⟩ := hrel
        have HO := hide ho
        have HOK := hide hok
        have HG2 := hide hg2
        have HRD := hide hr
        have HGO := hide hG
        clear ho hok hg2 hG
        by_cases hlt : (k : Int) < n
        · cases st1 with
          | error er =>
            obtain ⟨he, q, hX⟩ := hr
            have c2 := hX.cell 2
            simp only [List.getElem?_toArray, List.getElem?_cons_zero, List.getElem?_cons_succ] at c2
            clear hX
            go_wp2_with fail
            exact HE.out n k out _ wr HO.out HOK.out HG2.out HRD.out HGO.out (fun ws e => by cases e)
          | ok ws =>
            obtain ⟨kk, hws, hk8, hX⟩ := hr
            have c2 := hX.cell 2
            simp only [List.getElem?_toArray, List.getElem?_cons_zero, List.getElem?_cons_succ] at c2
            have hgr2 := keepg HG2.out HGR.out HRG.out
            have hone := lp_one hs HRD.out gr hgr2 HRG.out
            have HCAP := hide (show n ≤ 48 from HGO.out.2.1)
            clear hws hk8 hX
            go_wp2_with fail
            refine hone.mono ?_
            rintro e w2 ⟨x, rfl, hx, hg3, hrd2, hcon⟩
            clear hone c2 hgr2
            obtain ⟨xp, ⟨xA, xc, xl⟩⟩ := x
            simp only [vLp, Sl.val]
            have ho2 := HO.out.keepg hg3 HG.out
            obtain ⟨v', w3, hrun, ho3, hx3⟩ := run_append_one (P := Try.prog) 41 25 25 2 32 (.agg #[.int .i64 0, .slice none 0 0]) encLp (by decide) (fun _ => rfl) one_lp Try.underlying25 inf_lp rfl w2 w.heap.size out.val out.L (xp, ⟨xA, xc, xl⟩) #[.int .i64 xp, .slice xA xl.length xc] rfl ho2 (by have := HCAP.out; omega) (by have := HCAP.out; omega) (Nat.le_trans HG2.out.size hg3.size)
            have HNX := hide (it_next keep_lp HG.out HO.out HOK.out hl HG2.out HGO.out hlt hx hg3 hrd2 hcon ho3 hx3)
            clear hx hg3 hrd2 hcon ho2 ho3 hx3
            go_wp2_with (at_builtin; go_must (refine wpList_of_append rfl _ w3 (.tmp 38) (.tmp 41) 25 _ _ _ rfl rfl rfl hrun ?_))
            clear hrun
            have kI : (k : Int) + 1 ≤ 48 := by have := HCAP.out; omega
            go_roundw
            case rel => exact HNX.out
            case measure => simp [intOf]; omega
        · clear hr
          go_wp2_with fail
          exact HE.out n k out _ wr HO.out HOK.out HG2.out HRD.out HGO.out (fun ws e => by omega)
theorem init_one {w : World} {g : Nat} {s : ByteArray} {st : RSt} (hs : s.size ≤ 9223372036854775807) (h : RdAt w g s st) (gr : Nat) (hgr : w.cell? ⟨gr, 0, none⟩ = some (.pointer (some ⟨g, 0, none⟩))) (hrg : gr ≠ g) : Calls Try.prog 72 #[.pointer (some ⟨gr, 0, none⟩)] w (OneRd vIni okIni id Mio.pIni w g s st) := by
  have hlt := h.lt
  have HD := hide (show ∀ x w', okIni w' w.heap.size x → w.grownBy w' (some g) → RdAt w' g s (aft (goR st Mio.pIni)) → (∀ y r, goR st Mio.pIni = .ok (y, r) → id x = y) → OneRd vIni okIni id Mio.pIni w g s st (.returned (vIni x)) w' from fun x w' a b c d => ⟨x, rfl, a, b, c, d⟩)
  generalize OneRd vIni okIni id Mio.pIni w g s st = Post at *
  have hb0 : Below w.heap.size w ((w.alloc (.cells #[.float .f64 0, .int .i64 0, .int .i64 0] 43)).drew) := ((Below.refl _ _).alloc (Nat.le_refl _) _).drew
  have hg0 : World.grownBy ((w.alloc (.cells #[.float .f64 0, .int .i64 0, .int .i64 0] 43)).drew) ((w.alloc (.cells #[.float .f64 0, .int .i64 0, .int .i64 0] 43)).drew) (some g) := World.grownBy.refl _ _
  have hX0 := (Blk.new w 43 #[.float .f64 0, .int .i64 0, .int .i64 0]).drew
  have hgr0 := keepc hb0 hgr
  have HR0 := hide (h.below hb0)
  have HB0 := hide hb0
  have HX0 := hide hX0
  have HLT := hide hlt
  have HC := hide (show ∀ X, World.grownBy ((w.alloc (.cells #[.float .f64 0, .int .i64 0, .int .i64 0] 43)).drew) X (some g) → X.cell? ⟨gr, 0, none⟩ = some (.pointer (some ⟨g, 0, none⟩)) from fun X hg => keepg hg hgr0 hrg)
  clear h hgr hb0 hX0 hrg hlt
  go_enter Try.func72, Try.ntmps72
  go_wp2_with fail
  refine wp_region_tree (fun X => X.cell? ⟨gr, 0, none⟩ = some (.pointer (some ⟨g, 0, none⟩))) [0, 2, 4] 6 5 (by kernel_rfl) (by kernel_rfl) (HC.out _ hg0) ?_
  simp only [List.filterMap_cons, List.filterMap_nil, List.getElem?_cons_succ, List.getElem?_cons_zero]
  repeat (refine head_step ?_ (by rfl) ?_ (fun _ _ _ h => h) ?_; rotate_left; (intro w' hs; have z0 := hs; go_simp; (try with_reducible rfl)); (try simp only [Act.put, List.setIfInBounds_toArray, List.set_cons_zero, List.set_cons_succ]))
  refine head_nil ?_
  refine tree_one 1 (by kernel_rfl) rfl ?_
  refine midc_call (g := 63) (args := #[.pointer (some ⟨g, 0, none⟩)]) (w' := (w.alloc (.cells #[.float .f64 0, .int .i64 0, .int .i64 0] 43)).drew) (by rfl) (by go_simp) ((float_rd hs HR0.out).mono ?_)
  rintro e w1 ⟨n1, rfl, i1, hg1, hr1, c1⟩
  have hh1 := grown_trans_g hg0 hg1
  refine ⟨_, rfl, HC.out _ hh1, ?_⟩
  simp only [Act.put, List.setIfInBounds_toArray, List.set_cons_zero, List.set_cons_succ]
  refine midc_nil ?_
  refine tree_one 3 (by kernel_rfl) rfl ?_
  refine midc_call (g := 62) (args := #[.pointer (some ⟨g, 0, none⟩)]) (w' := w1) (by rfl) (by go_simp) ((int_rd hs hr1).mono ?_)
  rintro e w2 ⟨n2, rfl, i2, hg2, hr2, c2⟩
  have hh2 := grown_trans_g hh1 hg2
  refine ⟨_, rfl, HC.out _ hh2, ?_⟩
  simp only [Act.put, List.setIfInBounds_toArray, List.set_cons_zero, List.set_cons_succ]
  refine midc_nil ?_
  refine tree_one 5 (by kernel_rfl) rfl ?_
  refine midc_call (g := 62) (args := #[.pointer (some ⟨g, 0, none⟩)]) (w' := w2) (by rfl) (by go_simp) ((int_rd hs hr2).mono ?_)
  rintro e w3 ⟨n3, rfl, i3, hg3, hr3, c3⟩
  have hh3 := grown_trans_g hh2 hg3
  refine ⟨_, rfl, HC.out _ hh3, ?_⟩
  simp only [Act.put, List.setIfInBounds_toArray, List.set_cons_zero, List.set_cons_succ]
  refine midc_nil ?_
  refine tree_list _ 6 (by decide) rfl (by kernel_rfl) rfl ?_
  have hX := HX0.out.grown hh3 (fun e => by have := HLT.out; injection e with e; omega)
  have r0 := hX.cell 0
  have q0 := hX.frozen 0
  have r1 := hX.cell 1
  have q1 := hX.frozen 1
  have r2 := hX.cell 2
  have q2 := hX.frozen 2
  simp only [List.getElem?_toArray, List.getElem?_cons_zero, List.getElem?_cons_succ] at r0 r1 r2
  have HRF := hide hr3
  have HGF := hide (grown_trans_g (only_of_below HB0.out (some g)) hh3)
  have HCN := hide (ini_con c1 c2 c3)
  have HOK := hide (And.intro i1 (And.intro i2 i3))
  clear c1 c2 c3 i1 i2 i3
  clear hX hg1 hh1 hr1 hg2 hh2 hr2 hg3 hh3 hr3 hg0 HC HX0 HR0
  go_wp2_with fail
  refine bodyPost_ret (v := .agg #[.float .f64 n1, .int .i64 n2, .int .i64 n3]) (by simp [results, Try.results72, go_sem, r0, r1, r2]) rfl ?_
  refine HD.out (n1, n2, n3) _ ⟨HOK.out.1, HOK.out.2.1, HOK.out.2.2⟩ ?_ ?_ HCN.out
  · exact only_setCell (only_setCell (only_setCell (HGF.out) (.inr (Nat.le_refl _)) _) (.inr (Nat.le_refl _)) _) (.inr (Nat.le_refl _)) _
  rw [ini_aft]
  exact HRF.out.kept ((Below.heap_setCell _ _ _ _ (show g ≠ w.heap.size from Nat.ne_of_lt HLT.out)).trans ((Below.heap_setCell _ _ _ _ (show g ≠ w.heap.size from Nat.ne_of_lt HLT.out)).trans ((Below.heap_setCell _ _ _ _ (show g ≠ w.heap.size from Nat.ne_of_lt HLT.out)))))
theorem items_init {w : World} {g : Nat} {s : ByteArray} {st : RSt} (hs : s.size ≤ 9223372036854775807) (h : RdAt w g s st) (gr : Nat) (hgr : w.cell? ⟨gr, 0, none⟩ = some (.pointer (some ⟨g, 0, none⟩))) (hrg : gr ≠ g) : Calls Try.prog 71 #[.pointer (some ⟨g, 0, none⟩), .func (.func 72) #[] #[.pointer (some ⟨gr, 0, none⟩)]] w (ItemsRd 43 3 encInit okIni id Mio.pIni w g s st) := by
  have hg := h.lt
  have HE := hide (show ∀ (n : Int) (k : Nat) (out : Sl (Init3)) (st1 : RSt) (wr : World), OwnR 43 3 encInit wr w.heap.size out.val out.L → (∀ x ∈ out.L, okIni wr w.heap.size x) → w.grownBy wr (some g) → RdAt wr g s st1 → Going id Mio.pIni n (goR st (Mio.pL Mio.pIni)) k out.L st1 → (∀ ws, st1 = .ok ws → ¬ (k : Int) < n) → ItemsRd 43 3 encInit okIni id Mio.pIni w g s st (.returned out.val) wr from fun n k out st1 wr a b c d e f => it_end rfl a b c d e f)
  generalize ItemsRd 43 3 encInit okIni id Mio.pIni w g s st = Post at *
  have HH := hide h
  have HG := hide hg
  have HGR := hide hgr
  have HRG := hide hrg
  clear hgr hrg
  have hint := int_rd hs h
  clear h hg
  go_enter Try.func71, Try.ntmps71
  go_wp2_with fail
  refine hint.mono ?_
  rintro e w1 ⟨n, rfl, hn, hg1, hr1, hc1⟩
  unfold I64 at hn
  have HN := hide hc1
  have HG1 := hide hg1
  clear hint hg1 hc1
  go_upto_region 2 with fail
  go_cut [22] (fun b wx => ItTest Mio.pIni w g s n (goR st (Mio.pL Mio.pIni)) b wx)
  case first =>
    generalize hst : aft (goR st Mio.pI) = st1 at *
    cases st1 with
    | error er =>
      have HB := hide (start_bad (p := Mio.pIni) hst)
      obtain ⟨he, q, hX⟩ := hr1
      have c2 := hX.cell 2
      simp only [List.getElem?_toArray, List.getElem?_cons_zero, List.getElem?_cons_succ] at c2
      have HX := hide hX
      clear hst hX
      go_wp2_with fail
      go_meet
      exact ⟨false, rfl, HG1.out, .inr ⟨rfl, .error er, ⟨he, q, HX.out⟩, HB.out⟩⟩
    | ok ws =>
      have HB := hide (start_good (p := Mio.pIni) hst HN.out)
      obtain ⟨kk, rfl, hk8, hX⟩ := hr1
      have c2 := hX.cell 2
      simp only [List.getElem?_toArray, List.getElem?_cons_zero, List.getElem?_cons_succ] at c2
      have HX := hide hX
      have HK := hide hk8
      clear hst hX hk8
      by_cases h1 : n < 0
      · have HT := hide (HB.out.1 (.inl h1))
        go_wp2_with fail
        go_meet
        exact ⟨true, rfl, HG1.out, .inl ⟨rfl, ⟨_, HX.out⟩, HT.out⟩⟩
      · by_cases h2 : 48 < n
        · have HT := hide (HB.out.1 (.inr h2))
          go_wp2_with fail
          go_meet
          exact ⟨true, rfl, HG1.out, .inl ⟨rfl, ⟨_, HX.out⟩, HT.out⟩⟩
        · have HT := hide (HB.out.2 (by omega))
          go_wp2_with fail
          go_meet
          exact ⟨false, rfl, HG1.out, .inr ⟨rfl, .ok _, ⟨kk, rfl, HK.out, HX.out⟩, by omega, by omega, HT.out.symm⟩⟩
  case rest =>
    clear hr1 HN HG1
    go_upto_if 22 with fail
    go_cut [] (fun wx => ItStart Mio.pIni w g s n (goR st (Mio.pL Mio.pIni)) wx)
    case first =>
      obtain ⟨bb, rfl, hg2, hw⟩ := hcut
      rcases hw with ⟨rfl, ⟨q, hX⟩, hT⟩ | ⟨rfl, st1, h1, h2⟩
      · have f2 := hX.frozen 2
        have c2 := hX.cell 2
        simp only [List.getElem?_toArray, List.getElem?_cons_zero, List.getElem?_cons_succ] at c2
        have HX := hide hX
        have HT := hide hT
        have HG2 := hide hg2
        clear hX hT hg2
        go_wp2_with fail
        go_meet
        exact ⟨.error 6, only_setCell HG2.out (.inl rfl) _, ⟨by decide, q, by simpa using HX.out.set_ 2 (.int .i64 6)⟩, HT.out⟩
      · have H12 := hide (And.intro hg2 (And.intro h1 h2))
        clear hg2 h1 h2
        go_wp2_with fail
        go_meet
        exact ⟨st1, H12.out.1, H12.out.2.1, H12.out.2.2⟩
    case rest =>
      have HC := hide hcut
      clear hcut
      go_wp2_with fail
      go_loopw [6, 7] (fun o i wr => ItRel 43 3 encInit okIni id Mio.pIni w g s n (goR st (Mio.pL Mio.pIni)) o i wr) (fun _ i _ => (n - intOf i).toNat)
      case atStart => exact it_first HC.out
      case round =>
        clear HC
        obtain ⟨k, out, st1, rfl, rfl, ho, hok, hl, hk, hg2, hr, hG⟩ := hrel
        have HO := hide ho
        have HOK := hide hok
        have HG2 := hide hg2
        have HRD := hide hr
        have HGO := hide hG
        clear ho hok hg2 hG
        by_cases hlt : (k : Int) < n
        · cases st1 with
          | error er =>
            obtain ⟨he, q, hX⟩ := hr
            have c2 := hX.cell 2
            simp only [List.getElem?_toArray, List.getElem?_cons_zero, List.getElem?_cons_succ] at c2
            clear hX
            go_wp2_with fail
            exact HE.out n k out _ wr HO.out HOK.out HG2.out HRD.out HGO.out (fun ws e => by cases e)
          | ok ws =>
            obtain ⟨kk, hws, hk8, hX⟩ := hr
            have c2 := hX.cell 2
            simp only [List.getElem?_toArray, List.getElem?_cons_zero, List.getElem?_cons_succ] at c2
            have hgr2 := keepg HG2.out HGR.out HRG.out
            have hone := init_one hs HRD.out gr hgr2 HRG.out
            have HCAP := hide (show n ≤ 48 from HGO.out.2.1)
            clear hws hk8 hX
            go_wp2_with fail
            refine hone.mono ?_
            rintro e w2 ⟨x, rfl, hx, hg3, hrd2, hcon⟩
            clear hone c2 hgr2
            obtain ⟨x1, x2, x3⟩ := x
            simp only [vIni]
            have ho2 := HO.out.keepg hg3 HG.out
            obtain ⟨v', w3, hrun, ho3, hx3⟩ := run_append_one (P := Try.prog) 43 26 26 3 24 (.agg #[.float .f64 0, .int .i64 0, .int .i64 0]) encInit (by decide) (fun _ => rfl) one_init Try.underlying26 inf_init rfl w2 w.heap.size out.val out.L (x1, x2, x3) #[.float .f64 x1, .int .i64 x2, .int .i64 x3] rfl ho2 (by have := HCAP.out; omega) (by have := HCAP.out; omega) (Nat.le_trans HG2.out.size hg3.size)
            have HNX := hide (it_next keep_ini HG.out HO.out HOK.out hl HG2.out HGO.out hlt hx hg3 hrd2 hcon ho3 hx3)
            clear hx hg3 hrd2 hcon ho2 ho3 hx3
            go_wp2_with (at_builtin; go_must (refine wpList_of_append rfl _ w3 (.tmp 38) (.tmp 41) 26 _ _ _ rfl rfl rfl hrun ?_))
            clear hrun
            have kI : (k : Int) + 1 ≤ 48 := by have := HCAP.out; omega
            go_roundw
            case rel => exact HNX.out
            case measure => simp [intOf]; omega
        · clear hr
          go_wp2_with fail
          exact HE.out n k out _ wr HO.out HOK.out HG2.out HRD.out HGO.out (fun ws e => by omega)
end Go.Proofs.Ytegegljpmelomaa
