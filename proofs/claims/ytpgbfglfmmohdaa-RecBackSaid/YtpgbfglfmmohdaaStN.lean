/- The walks of rec's and R20's states, the plain law of states and of what is read back, and the walk of law20's RecBack. Merged of several texts. No condition but sizes that any memory has. -/
import Derived.Test.YtpgbfglfmmohdaaAw20
import Derived.Test.YtpgbfglfmmohdaaOwn
import Derived.Deep.RegionLaw
import Derived.Test.YtpgbfglfmmohdaaPack8
import Derived.Test.YtpgbfglfmmohdaaRecPl4
import Derived.Test.YtpgbfglfmmohdaaRecPl3
set_option linter.unusedVariables false
set_option linter.unusedSimpArgs false
set_option maxRecDepth 20000
namespace Go.Proofs.Ytpgbfglfmmohdaa
open Go.RowKit Go.Deep

attribute [local go_sem] run_store_float
def countB (n : Int) : Bool := decide (0 ≤ n ∧ n ≤ 1099511627776)
theorem count_any (n : Int) (w : World) : Calls Try.prog 105 #[.int .i64 n] w fun e w' => e = .returned (.bool (countB n)) ∧ w = w' := by
  unfold countB
  by_cases h0 : 0 ≤ n
  · by_cases h1 : n ≤ 1099511627776
    · rw [decide_eq_true ⟨h0, h1⟩]
      go_enter Try.func105, Try.ntmps105
      go_wp2
      go_ret
      exact ⟨rfl, rfl⟩
    · rw [decide_eq_false (fun h => h1 h.2)]
      go_enter Try.func105, Try.ntmps105
      go_wp2
      go_ret
      exact ⟨rfl, rfl⟩
  · rw [decide_eq_false (fun h => h0 h.1)]
    go_enter Try.func105, Try.ntmps105
    go_wp2
    go_ret
    exact ⟨rfl, rfl⟩
def stR (m : Nat) (sent dice : Int) : Bool := decide (m ≤ 8) && (countB sent && countB dice)
def stS (zs : List Int) (sent dice : Int) : ByteArray := (bs ((oneS zs.length).data.toList ++ liB zs) ++ iS sent) ++ iS dice
def stV (zs : List Int) (sent dice : Int) : ByteArray := if stR zs.length sent dice then stS zs sent dice else ⟨#[]⟩
theorem putstate_bad (A : Option Addr) (m c : Nat) (sent dice : Int) (w : World) (h : stR m sent dice = false) :
    Calls Try.prog 73 #[.agg #[.slice A m c, .int .i64 sent, .int .i64 dice]] w fun e w' => e = .returned (.tuple #[.string ⟨#[]⟩, .int .i64 2]) ∧ Below w.heap.size w w' := by
  have hb : Below w.heap.size w (w.alloc (.cells #[.slice A m c, .int .i64 sent, .int .i64 dice] 92)) := (Below.refl _ _).alloc (Nat.le_refl _) _
  by_cases hm : m ≤ 8
  · have hmI : ¬ (8 : Int) < (m : Int) := by omega
    cases h1 : countB sent
    · have H1 := hide h1
      clear h h1
      go_enter Try.func73, Try.ntmps73
      go_wp2_with fail
      refine (count_any _ _).mono ?_
      rw [H1.out]
      rintro e w1 ⟨rfl, rfl⟩
      go_wp2_with fail
      go_ret2
      exact ⟨rfl, hb⟩
    · have h2 : countB dice = false := by
        unfold stR at h
        rw [decide_eq_true hm, h1] at h
        simpa using h
      have H1 := hide h1
      have H2 := hide h2
      clear h h1 h2
      go_enter Try.func73, Try.ntmps73
      go_wp2_with fail
      refine (count_any _ _).mono ?_
      rw [H1.out]
      rintro e w1 ⟨rfl, rfl⟩
      go_wp2_with fail
      refine (count_any _ _).mono ?_
      rw [H2.out]
      rintro e w1 ⟨rfl, rfl⟩
      go_wp2_with fail
      go_ret2
      exact ⟨rfl, hb⟩
  · have hmI : (8 : Int) < (m : Int) := by omega
    clear h
    go_enter Try.func73, Try.ntmps73
    go_wp2_with fail
    go_ret2
    exact ⟨rfl, hb⟩
/-- Worlds behind w in which a box and a row of the call's own are as they were. -/
theorem BoxM.hidden (w W : World) (g : Nat) (t : TypeId) (cs : Array Value) (B : Nat) (v : Value) (l : List UInt8) (hb : Below w.heap.size w W) (hX : Blk W g t cs) (hown : OwnM W B v l) :
    ∃ p : World → Prop, Outlives p ∧ p W.drew ∧ Nonempty (Wo p) ∧ (∀ i : Wo p, BoxC w [(g, t, cs)] i.W ∧ OwnM i.W B v l) :=
  ⟨fun W => BoxC w [(g, t, cs)] W ∧ OwnM W B v l, Outlives.and (BoxC.out _ _) (fun _ _ h hb => OwnM.below h hb), ⟨BoxC.one w W _ _ _ hb hX, hown⟩, ⟨⟨W.drew, ⟨BoxC.one w W _ _ _ hb hX, hown⟩⟩⟩, fun i => i.ok⟩
def PsRel (w : World) (cs : Array Value) (zs : List Int) (m : Nat) (b i : Value) (wr : World) : Prop :=
  ∃ k : Nat, k ≤ m ∧ i = .int .i64 k ∧ OwnM wr (w.heap.size + 1) b ((oneS m).data.toList ++ liB (zs.take k)) ∧ Below w.heap.size w wr ∧ w.heap.size + 1 ≤ wr.heap.size ∧ Blk wr w.heap.size 92 cs
set_option maxHeartbeats 4000000 in
theorem putstate_ok (A : Option Addr) (m c : Nat) (zs : List Int) (sent dice : Int) (w : World) (h : stR m sent dice = true) (hl : zs.length = m) (hr : Reads w w.heap.size 1 A m (zs.map (Value.int .i64))) :
    Calls Try.prog 73 #[.agg #[.slice A m c, .int .i64 sent, .int .i64 dice]] w fun e w' => e = .returned (.tuple #[.string (stS zs sent dice), .int .i64 0]) ∧ Below w.heap.size w w' := by
  have hb : Below w.heap.size w (w.alloc (.cells #[.slice A m c, .int .i64 sent, .int .i64 dice] 92)) := (Below.refl _ _).alloc (Nat.le_refl _) _
  have hX := Blk.new w 92 #[.slice A m c, .int .i64 sent, .int .i64 dice]
  have h3 : (m ≤ 8 ∧ countB sent = true) ∧ countB dice = true := by
    unfold stR at h
    simpa [and_assoc] using h
  obtain ⟨⟨hm, h1⟩, h2⟩ := h3
  have Hl := hide hl
  have H1 := hide h1
  have H2 := hide h2
  have hmI : ¬ (8 : Int) < (m : Int) := by omega
  clear h h1 h2 hl
  go_enter Try.func73, Try.ntmps73
  go_wp2_with fail
  refine (count_any _ _).mono ?_
  rw [H1.out]
  rintro e w1 ⟨rfl, rfl⟩
  go_wp2_with fail
  refine (count_any _ _).mono ?_
  rw [H2.out]
  rintro e w1 ⟨rfl, rfl⟩
  go_upto_region 3 with fail
  generalize w.alloc _ = W0 at *
  have x0 := hX.cell 0
  simp only [List.getElem?_toArray, List.getElem?_cons_zero, List.getElem?_cons_succ] at x0
  go_wp2_with fail
  clear x0
  refine (one_any m _ (by omega) (by omega)).mono ?_
  rintro e w1 ⟨rfl, hb1⟩
  replace hX := hX.below hb1 hX.lt
  replace hb := below_after hb hb1
  clear hb1
  obtain ⟨v, w2, hconv, hown, hb2, hs2⟩ := ownM_made w1 (oneS m) (by rw [one_size]; decide) (w.heap.size + 1) hX.lt
  replace hX := hX.below hb2 hX.lt
  replace hb := below_after hb hb2
  clear hb2
  have x0 := hX.cell 0
  simp only [List.getElem?_toArray, List.getElem?_cons_zero, List.getElem?_cons_succ] at x0
  go_wp2
  go_loopw [4, 31] (fun b i wr => PsRel w #[.slice A m c, .int .i64 sent, .int .i64 dice] zs m b i wr) (fun _ i _ => m - (intOf i).toNat)
  case atStart => exact ⟨0, Nat.zero_le _, rfl, by simpa [liB] using hown, hb, hs2, hX⟩
  case round =>
    clear hown hb hs2 hconv hX x0
    obtain ⟨k, hk, rfl, hown, hb, hsz, hX⟩ := hrel
    by_cases hlt : k < m
    · have hr' := hr.below hb
      obtain ⟨ad, u, rfl, _, hu, hc⟩ := hr'.at_ hlt
      rw [List.getElem?_map] at hu
      have hkl : k < zs.length := by rw [Hl.out]; exact hlt
      rw [List.getElem?_eq_getElem hkl] at hu
      have Ht := hide (liB_take zs k hkl)
      have hlen : ((oneS m).data.toList ++ liB (zs.take k)).length ≤ 5000 := by
        rw [List.length_append, one_len, liB_length, List.length_take]
        omega
      generalize zs[k] = z at *
      simp only [Option.map_some, Option.some.injEq] at hu
      subst hu
      clear hkl
      have his := iS_size z
      go_wp2_with fail
      refine (i_any _ _).mono ?_
      rintro e w3 ⟨rfl, hb3⟩
      have hB3 := hb.trans (hb3.mono (Nat.le_of_succ_le hsz))
      have hs3 := Nat.le_trans hsz hb3.size
      have hX3 := hX.below hb3 hX.lt
      have hown3 : OwnM w3 (w.heap.size + 1) _ _ := OwnM.below hown hb3
      clear hown hb hr hr' hc hb3 hX
      go_wp2_with (at_builtin; go_must (refine wpList_append_strM _ rfl (.tmp 35) (.tmp 37) rfl (w.heap.size + 1) _ _ rfl hown3 (iS z) rfl (by omega) hs3 ?_); intro v4 w4 hown4 hext4)
      have hE4 := hext4.below hs3 hown3.base
      have hB4 := hB3.trans (hE4.mono (Nat.le_succ _))
      have hX4 := hX3.below hE4 (Nat.lt_succ_self _)
      have hs4 := Nat.le_trans hs3 hext4.1.size
      go_roundw
      case rel => exact ⟨k + 1, by omega, by go_num, by rw [Ht.out, ← List.append_assoc]; exact hown4, hB4, hs4, hX4⟩
      case measure => simp [intOf]; omega
    · obtain rfl : k = m := by omega
      have HV : Hid (stS zs sent dice = (bs ((oneS k).data.toList ++ liB (zs.take k)) ++ iS sent) ++ iS dice) := by
        have e : zs.take k = zs := by rw [← Hl.out]; exact List.take_length
        unfold stS
        rw [e, Hl.out]
        exact rfl
      have hz : ((oneS k).data.toList ++ liB (zs.take k)).length ≤ 65 := by
        rw [List.length_append, one_len, liB_length, List.length_take]
        omega
      have c1 := fun w => run_cat (bs ((oneS k).data.toList ++ liB (zs.take k))) (iS sent) (by rw [bs_size, is_size]; omega) w
      have c2 := fun w => run_cat (bs ((oneS k).data.toList ++ liB (zs.take k)) ++ iS sent) (iS dice) (by rw [ByteArray.size_append, bs_size, is_size, is_size]; omega) w
      have i1 := hide fun W => i_any sent W
      have i2 := hide fun W => i_any dice W
      obtain ⟨P, hO, h0, hne, hI⟩ := BoxM.hidden w wr _ _ _ _ _ _ hb hX hown
      have cv := fun i : Wo P => ownM_string (hI i).2
      have hQ : ∀ i : Wo P, Blk i.W w.heap.size 92 #[.slice A k c, .int .i64 sent, .int .i64 dice] := fun i => (hI i).1.2 (w.heap.size, 92, #[.slice A k c, .int .i64 sent, .int .i64 dice]) (by simp)
      have u1 := fun i => (hQ i).cell 1
      have u2 := fun i => (hQ i).cell 2
      have HI := hide hI
      have HO := hide hO
      have H0 := hide h0
      clear hO h0 hI hQ hown hb hX hz hr
      generalize (bs ((oneS k).data.toList ++ liB (zs.take k)) ++ iS sent) ++ iS dice = R3 at *
      generalize bs ((oneS k).data.toList ++ liB (zs.take k)) ++ iS sent = R2 at *
      generalize bs ((oneS k).data.toList ++ liB (zs.take k)) = R1 at *
      generalize iS sent = N1 at *
      generalize iS dice = N2 at *
      go_upto_region 9 with fail
      refine wp_region_quietC (by kernel_rfl) (by kernel_rfl) H0.out ?_
      repeat (go_big_quiet_step (first
        | (go_at_call 25; with_reducible exact Calls.quietC HO.out (i1.out _))
        | (go_at_call 25; with_reducible exact Calls.quietC HO.out (i2.out _))))
      refine wpQuiet_nil ?_
      intro _ hw'
      obtain ⟨i, rfl⟩ := hw'
      go_wp2
      go_ret2
      exact ⟨by rw [HV.out]; exact rfl, (HI.out i).1.1⟩
end Go.Proofs.Ytpgbfglfmmohdaa
namespace Go.Proofs.Ytpgbfglfmmohdaa
open Go.RowKit Go.Deep

attribute [local go_sem] run_store_float
/-! Numbers read one behind the other, from k on. -/
def stK (s : ByteArray) (k : Nat) : Nat → Nat
  | 0 => k
  | j + 1 => wordK s (stK s k j)
def stSh (s : ByteArray) (k : Nat) (sh : Bool) : Nat → Bool
  | 0 => sh
  | j + 1 => wordS s (stK s k j) (stSh s k sh j)
def stL (s : ByteArray) (k : Nat) : Nat → List Int
  | 0 => []
  | j + 1 => stL s k j ++ [wordN s (stK s k j)]
theorem stK_le {s : ByteArray} {k : Nat} (h : k ≤ s.size) : ∀ j, stK s k j ≤ s.size
  | 0 => h
  | j + 1 => wordK_le (stK_le h j)
theorem stL_len (s : ByteArray) (k : Nat) : ∀ j, (stL s k j).length = j
  | 0 => rfl
  | j + 1 => by unfold stL; rw [List.length_append, stL_len s k j]; rfl
/-- In the loop of GetState: the result's box, the reader, the state's box, its row. -/
structure GsS (w : World) (s : ByteArray) (k : Int) (sh : Bool) (v : Value) (a b : Int) (L : List Int) (wr : World) : Prop where
  bel : Below w.heap.size w wr
  rd : RdAt wr (w.heap.size + 1) s k sh
  R : Blk wr w.heap.size 92 #[.slice none 0 0, .int .i64 0, .int .i64 0]
  X : Blk wr (w.heap.size + 1 + 1) 92 #[v, .int .i64 a, .int .i64 b]
  own : OwnR 3 1 encInt wr (w.heap.size + 3) v L
theorem OwnR.rd {w w' : World} {g B : Nat} {s : ByteArray} {k : Int} {sh : Bool} {v : Value} {L : List Int} (h : RdTo w w' g s k sh) (ho : OwnR 3 1 encInt w B v L) (hg : g < B) : OwnR 3 1 encInt w' B v L := by
  refine World.ownsRow.kept ho h.2 ?_
  refine .inr fun e => ?_
  have := ho.base _ e
  omega
theorem GsS.to {w wr w1 : World} {s : ByteArray} {k k' : Int} {sh sh' : Bool} {v : Value} {a b : Int} {L : List Int} (h : GsS w s k sh v a b L wr) (h1 : RdTo wr w1 (w.heap.size + 1) s k' sh') : GsS w s k' sh' v a b L w1 :=
  ⟨h1.below_ h.bel (by omega), h1.1, h1.blk h.R (by omega), h1.blk h.X (by omega), h.own.rd h1 (by omega)⟩
theorem GsS.drew {w wr : World} {s : ByteArray} {k : Int} {sh : Bool} {v : Value} {a b : Int} {L : List Int} (h : GsS w s k sh v a b L wr) : GsS w s k sh v a b L wr.drew := ⟨h.bel.drew, h.rd.drew, h.R.drew, h.X.drew, h.own.drew⟩
theorem GsS.drewN {w wr : World} {s : ByteArray} {k : Int} {sh : Bool} {v : Value} {a b : Int} {L : List Int} (h : GsS w s k sh v a b L wr) (n : Nat) : GsS w s k sh v a b L (wr.drewN n) := ⟨below_drewN h.bel n, h.rd.drewN n, h.R.drewN n, h.X.drewN n, h.own.drewN n⟩
theorem int_info2 : (Try.prog.info? 3).map (fun i => (i.zero, i.size, i.bytes)) = some (some (.int .i64 0), 1, 8) := by kernel_rfl
theorem GsS.add {w wr : World} {s : ByteArray} {k : Int} {sh : Bool} {v : Value} {a b : Int} {L : List Int} (h : GsS w s k sh v a b L wr) (x : Int) (hL : L.length ≤ 1000) :
    ∃ A c w', (Builtin.append_ #[30, 30] 30 #[v, .slice (some ⟨wr.heap.size, 0, none⟩) 1 1]).run Try.prog (wr.alloc (.cells #[.int .i64 x] 3)) = .ok (.slice A (L.length + 1) c) w' ∧
      w'.cell? ⟨w.heap.size + 1 + 1, 0, none⟩ = some v ∧ w'.frozen? ⟨w.heap.size + 1 + 1, 0, none⟩ = false ∧ GsS w s k sh (.slice A (L.length + 1) c) a b (L ++ [x]) (w'.setCell ⟨w.heap.size + 1 + 1, 0, none⟩ (.slice A (L.length + 1) c)) := by
  have hB : w.heap.size + 3 ≤ wr.heap.size := h.X.lt
  obtain ⟨v', w', hrun, hown, hext⟩ := run_append_one 3 30 30 1 8 _ encInt (by omega) (fun _ => rfl) (by
    intro x u hu
    have e : u = .int .i64 x := by simpa [encInt] using hu
    subst e
    rfl) Try.underlying30 int_info2 rfl wr (w.heap.size + 3) v L x _ rfl h.own (by omega) (by omega) hB
  have hb2 : Below (w.heap.size + 3) wr w' := hext.below hB h.own.base
  have hX := h.X.below hb2 (by omega)
  obtain ⟨⟨sA, sc, sL⟩, hv, hsL, _⟩ := hown.form
  simp only [Sl.val] at hv hsL
  subst hsL
  rw [List.length_append, List.length_singleton] at hv
  subst hv
  refine ⟨sA, sc, w', hrun, hX.cell 0, hX.frozen 0, ?_⟩
  refine ⟨?_, ?_, ?_, ?_, ?_⟩
  · exact (h.bel.trans (hb2.mono (by omega))).setCell (p := ⟨w.heap.size + 1 + 1, 0, none⟩) (by simp only; omega) _
  · have hrd : RdAt w' (w.heap.size + 1) s k sh :=
      ⟨⟨(hb2.cell (p := ⟨w.heap.size + 1, 0, none⟩) (by simp only; omega)).trans h.rd.1.1, (hb2.cell (p := ⟨w.heap.size + 1, 1, none⟩) (by simp only; omega)).trans h.rd.1.2.1, (hb2.cell (p := ⟨w.heap.size + 1, 2, none⟩) (by simp only; omega)).trans h.rd.1.2.2⟩, (hb2.frozen (p := ⟨w.heap.size + 1, 1, none⟩) (by simp only; omega)).trans h.rd.2.1, (hb2.frozen (p := ⟨w.heap.size + 1, 2, none⟩) (by simp only; omega)).trans h.rd.2.2⟩
    exact hrd.far (by simp only; omega) _
  · exact (h.R.below hb2 (by omega)).far (by simp only; omega) _
  · exact hX.set_ 0 _
  · exact hown.setCell (by simp only; omega) _
theorem GsS.set1 {w wr : World} {s : ByteArray} {k : Int} {sh : Bool} {v : Value} {a b : Int} {L : List Int} (h : GsS w s k sh v a b L wr) (x : Int) : GsS w s k sh v x b L (wr.setCell ⟨w.heap.size + 1 + 1, 1, none⟩ (.int .i64 x)) :=
  ⟨h.bel.setCell (by simp only; omega) _, h.rd.far (by simp only; omega) _, h.R.far (by simp only; omega) _, h.X.set_ 1 _, h.own.setCell (by simp only; omega) _⟩
theorem GsS.set2 {w wr : World} {s : ByteArray} {k : Int} {sh : Bool} {v : Value} {a b : Int} {L : List Int} (h : GsS w s k sh v a b L wr) (x : Int) : GsS w s k sh v a x L (wr.setCell ⟨w.heap.size + 1 + 1, 2, none⟩ (.int .i64 x)) :=
  ⟨h.bel.setCell (by simp only; omega) _, h.rd.far (by simp only; omega) _, h.R.far (by simp only; omega) _, h.X.set_ 2 _, h.own.setCell (by simp only; omega) _⟩
theorem flatMap_int (L : List Int) : L.flatMap encInt = L.map (Value.int .i64) := by
  induction L with
  | nil => rfl
  | cons x L ih => rw [List.flatMap_cons, ih]; rfl
def GsRel (w : World) (s : ByteArray) (n : Nat) (i : Value) (wr : World) : Prop :=
  ∃ (j : Nat) (v : Value), j ≤ n ∧ i = .int .i64 j ∧ GsS w s (stK s (byteK s 0) j : Nat) (stSh s (byteK s 0) (byteS s 0 false) j) v 0 0 (stL s (byteK s 0) j) wr
def gsN (s : ByteArray) : Nat := (byteN s 0).toNat
def gsK1 (s : ByteArray) : Nat := stK s (byteK s 0) (gsN s)
def gsSent (s : ByteArray) : Int := wordN s (gsK1 s)
def gsDice (s : ByteArray) : Int := wordN s (wordK s (gsK1 s))
def gsK (s : ByteArray) : Nat := wordK s (wordK s (gsK1 s))
def gsSh (s : ByteArray) : Bool := wordS s (wordK s (gsK1 s)) (wordS s (gsK1 s) (stSh s (byteK s 0) (byteS s 0 false) (gsN s)))
def gsOk (s : ByteArray) : Bool := stR (gsN s) (gsSent s) (gsDice s)
def gsE (s : ByteArray) : Int := endE s (gsK s : Nat) (gsSh s) (gsOk s)
def gsZ (s : ByteArray) : List Int := if gsE s = 0 then stL s (byteK s 0) (gsN s) else []
def gsA (s : ByteArray) : Int := if gsE s = 0 then gsSent s else 0
def gsB (s : ByteArray) : Int := if gsE s = 0 then gsDice s else 0
theorem byteN_rng (s : ByteArray) (k : Nat) : 0 ≤ byteN s k ∧ byteN s k ≤ 255 := by
  unfold byteN
  split
  · have := (s[k]).toNat_lt
    omega
  · omega
theorem rint_to (s : ByteArray) (k : Nat) (sh : Bool) (w wr : World) (v : Value) (a b : Int) (L : List Int) (h : GsS w s k sh v a b L wr) (hk : k ≤ s.size) (hm : s.size ≤ 9223372036854775807) :
    Calls Try.prog 106 #[.pointer (some ⟨w.heap.size + 1, 0, none⟩)] wr fun e w' => e = .returned (.int .i64 (wordN s k)) ∧ GsS w s (wordK s k : Nat) (wordS s k sh) v a b L w' := by
  refine (rint_any s k sh _ wr h.rd hk hm).mono ?_
  rintro e w' ⟨rfl, h1⟩
  exact ⟨rfl, h.to h1⟩
set_option maxHeartbeats 4000000 in
theorem getstate_any (s : ByteArray) (w : World) (hm : s.size ≤ 9223372036854775807) :
    Calls Try.prog 74 #[.string s] w fun e w' => ∃ A c, e = .returned (.tuple #[.agg #[.slice A (gsZ s).length c, .int .i64 (gsA s), .int .i64 (gsB s)], .int .i64 (gsE s)]) ∧ Reads w' w'.heap.size 1 A (gsZ s).length ((gsZ s).map (Value.int .i64)) ∧ Below w.heap.size w w' := by
  have hz : ∀ (w : World) o, (w.alloc o).heap.size = w.heap.size + 1 := fun w o => Array.size_push ..
  have hR := ((Blk.new w 92 #[.slice none 0 0, .int .i64 0, .int .i64 0]).alloc (.cells #[.string s, .int .i64 0, .bool false] 119)).alloc (.cells #[.slice none 0 0, .int .i64 0, .int .i64 0] 92)
  have hG := (Blk.new (w.alloc (.cells #[.slice none 0 0, .int .i64 0, .int .i64 0] 92)) 119 #[.string s, .int .i64 0, .bool false]).alloc (.cells #[.slice none 0 0, .int .i64 0, .int .i64 0] 92)
  have hX := Blk.new ((w.alloc (.cells #[.slice none 0 0, .int .i64 0, .int .i64 0] 92)).alloc (.cells #[.string s, .int .i64 0, .bool false] 119)) 92 #[.slice none 0 0, .int .i64 0, .int .i64 0]
  have hb : Below w.heap.size w (((w.alloc (.cells #[.slice none 0 0, .int .i64 0, .int .i64 0] 92)).alloc (.cells #[.string s, .int .i64 0, .bool false] 119)).alloc (.cells #[.slice none 0 0, .int .i64 0, .int .i64 0] 92)) := Below.alloc (Below.alloc (Below.alloc (Below.refl _ _) (Nat.le_refl _) _) (by rw [hz]; omega) _) (by rw [hz, hz]; omega) _
  rw [hz] at hG
  rw [hz, hz] at hX
  clear hz
  have hS0 : GsS w s ((0 : Nat) : Int) false (.slice none 0 0) 0 0 [] _ := ⟨hb, RdAt.of_blk hG, hR, hX, OwnR.nil⟩
  clear hb hG hR hX
  go_enter Try.func74, Try.ntmps74
  go_upto_region 3 with fail
  generalize ((w.alloc _).alloc _).alloc _ = W0 at *
  go_wp2_with fail
  refine (rbyte_any s 0 false _ W0 hS0.rd (Nat.zero_le _) hm).mono ?_
  rintro e w1 ⟨rfl, h1⟩
  have hS := hS0.to h1
  clear hS0 h1
  have hn0 := byteN_rng s 0
  have hnn : byteN s 0 = (gsN s : Int) := (Int.toNat_of_nonneg hn0.1).symm
  have hn255 : gsN s ≤ 255 := by unfold gsN; omega
  simp only [hnn]
  clear hn0
  have hk0 : byteK s 0 ≤ s.size := byteK_le (Nat.zero_le _)
  have HS := hide hS
  clear hS
  go_wp2_with fail
  go_loopw [15] (fun i wr => GsRel w s (gsN s) i wr) (fun i _ => gsN s - (intOf i).toNat)
  case atStart => exact ⟨0, .slice none 0 0, Nat.zero_le _, rfl, HS.out⟩
  case round =>
    clear HS
    obtain ⟨j, v, hj, rfl, hS⟩ := hrel
    by_cases hlt : j < gsN s
    · have hki := stK_le hk0 j
      have hll := stL_len s (byteK s 0) j
      have x0 := hS.drew.X.cell 0
      have hSd := hide hS.drew
      have Hc := hide fun W h => rint_to s (stK s (byteK s 0) j) (stSh s (byteK s 0) (byteS s 0 false) j) w W v 0 0 (stL s (byteK s 0) j) h hki hm
      have jI : (j : Int) < (gsN s : Int) := by omega
      have HL := hide (show (stL s (byteK s 0) j).length ≤ 1000 by omega)
      simp only [List.getElem?_toArray, List.getElem?_cons_zero, List.getElem?_cons_succ] at x0
      clear hS hki hll
      go_upto_region 6 with fail
      go_region_law (first
        | (refine step_of_append rfl _ w3 (.tmp 18) (.tmp 21) 30 _ _ _ rfl rfl rfl hrun ?_)
        | (go_simp; go_at_call 106; refine (Hc.out _ hSd.out).mono ?_; rintro e w2 ⟨rfl, hS2⟩; obtain ⟨qA, qc, w3, hrun, x3, f3, hS3⟩ := hS2.add (wordN s (stK s (byteK s 0) j)) HL.out; have x2 := hS2.X.cell 0; have x2a := (hS2.X.alloc (.cells #[.int .i64 (wordN s (stK s (byteK s 0) j))] 3)).cell 0; simp only [List.getElem?_toArray, List.getElem?_cons_zero, List.getElem?_cons_succ] at x2 x2a))
      all_goals
        go_wp2
        go_roundw
        case rel => exact ⟨j + 1, _, by omega, by go_num, hS3⟩
        case measure => simp [intOf]; omega
    · obtain rfl : j = gsN s := by omega
      have hk1 := stK_le hk0 (gsN s)
      have hll := stL_len s (byteK s 0) (gsN s)
      obtain ⟨⟨vA, vc, vL⟩, hv, hvL, _⟩ := hS.own.form
      simp only [Sl.val] at hv hvL
      subst hvL
      subst hv
      go_wp2_with fail
      refine (rint_to s _ _ w _ _ 0 0 _ hS hk1 hm).mono ?_
      rintro e w2 ⟨rfl, hS2⟩
      go_wp2_with fail
      refine (rint_to s _ _ w _ _ 0 0 _ hS2 (wordK_le hk1) hm).mono ?_
      rintro e w3 ⟨rfl, hS3⟩
      clear hS hS2 hk0 hn255 hnn
      have x1 := hS3.X.cell 1
      have x2 := hS3.X.cell 2
      have f1 := hS3.X.frozen 1
      have f2 := hS3.X.frozen 2
      simp only [List.getElem?_toArray, List.getElem?_cons_zero, List.getElem?_cons_succ] at x1 x2
      go_upto_region 9 with fail
      have hS4 : GsS w s (gsK s : Nat) (gsSh s) _ (gsSent s) (gsDice s) _ _ := (hS3.set1 (gsSent s)).set2 (gsDice s)
      clear hS3 x1 x2 f1 f2
      change Code.wp _ _ _ _ ((World.setCell _ _ (.int .i64 (gsSent s))).setCell _ (.int .i64 (gsDice s)))
      generalize ((World.setCell _ _ (.int .i64 (gsSent s))).setCell _ (.int .i64 (gsDice s))) = w5 at *
      generalize hLL : stL s (byteK s 0) (gsN s) = L at *
      have HL := hide hLL
      clear hLL
      have HN : Hid (L.length = gsN s) := hide hll
      have hvn := hll
      rw [hll] at hS4
      clear hll hk1 hvn
      have x1 := hS4.X.cell 1
      have x2 := hS4.X.cell 2
      simp only [List.getElem?_toArray, List.getElem?_cons_zero, List.getElem?_cons_succ] at x1 x2
      go_cut [7] (fun b wx => b = .int .i64 (gsE s) ∧ GsS w s (gsK s : Nat) (gsSh s) (.slice vA (gsN s) vc) (gsSent s) (gsDice s) L wx)
      case first =>
        have HO : Hid (gsOk s = (decide (gsN s ≤ 8) && (countB (gsSent s) && countB (gsDice s)))) := hide rfl
        have HE : Hid (gsE s = endE s (gsK s : Nat) (gsSh s) (gsOk s)) := hide rfl
        have hSx := hide hS4
        clear hS4
        generalize gsE s = E at *
        generalize gsSent s = a at *
        generalize gsDice s = b at *
        by_cases hN : gsN s ≤ 8
        · have HN1 := hide (decide_eq_true hN)
          have hNI : (gsN s : Int) ≤ 8 := by omega
          cases h1 : countB a
          · have H1 := hide h1
            clear h1
            go_wp2_with fail
            refine (count_any _ _).mono ?_
            rw [H1.out]
            rintro e w6 ⟨rfl, rfl⟩
            go_wp2_with fail
            refine (end_any _ _ _ _ _ _ hSx.out.rd).mono ?_
            rintro e w6 ⟨rfl, n, rfl⟩
            have hSn := hSx.out.drewN n
            go_wp2_with fail
            go_meet
            exact ⟨by rw [HE.out, HO.out, HN1.out, H1.out]; rfl, hSn⟩
          · have H1 := hide h1
            clear h1
            go_wp2_with fail
            refine (count_any _ _).mono ?_
            rw [H1.out]
            rintro e w6 ⟨rfl, rfl⟩
            go_wp2_with fail
            refine (count_any _ _).mono ?_
            rintro e w6 ⟨he6, rfl⟩
            subst he6
            go_wp2_with fail
            refine (end_any _ _ _ _ _ _ hSx.out.rd).mono ?_
            rintro e w6 ⟨rfl, n, rfl⟩
            have hSn := hSx.out.drewN n
            go_wp2_with fail
            go_meet
            exact ⟨by rw [HE.out, HO.out, HN1.out, H1.out]; rfl, hSn⟩
        · have HN1 := hide (decide_eq_false hN)
          have hNI : ¬ (gsN s : Int) ≤ 8 := by omega
          go_wp2_with fail
          refine (end_any _ _ _ _ _ _ hSx.out.rd).mono ?_
          rintro e w6 ⟨rfl, n, rfl⟩
          have hSn := hSx.out.drewN n
          go_wp2_with fail
          go_meet
          exact ⟨by rw [HE.out, HO.out, HN1.out]; rfl, hSn⟩
      case rest =>
        obtain ⟨rfl, hS⟩ := hcut
        clear hS4 x1 x2
        obtain ⟨E, hEq⟩ : ∃ E, gsE s = E := ⟨_, rfl⟩
        rw [hEq]
        have HEq := hide hEq
        clear hEq
        have x0 := hS.X.cell 0
        have x1 := hS.X.cell 1
        have x2 := hS.X.cell 2
        have r0 := hS.R.cell 0
        have r1 := hS.R.cell 1
        have r2 := hS.R.cell 2
        have f0 := hS.R.frozen 0
        have f1 := hS.R.frozen 1
        have f2 := hS.R.frozen 2
        simp only [List.getElem?_toArray, List.getElem?_cons_zero, List.getElem?_cons_succ] at x0 x1 x2 r0 r1 r2
        by_cases hE : E = 0
        · subst hE
          have hZ0 : gsZ s = L := (if_pos HEq.out).trans HL.out
          have hA0 : gsA s = gsSent s := if_pos HEq.out
          have hB0 : gsB s = gsDice s := if_pos HEq.out
          have HV := hide (And.intro hZ0 (And.intro hA0 hB0))
          clear hZ0 hA0 hB0
          go_wp2_with fail
          have hZ := (((hS.R.set_ 0 (.slice vA (gsN s) vc)).set_ 1 (.int .i64 (gsSent s))).set_ 2 (.int .i64 (gsDice s)))
          have bZ := (((hS.bel.setCell (p := ⟨w.heap.size, 0, none⟩) (Nat.le_refl _) (.slice vA (gsN s) vc)).setCell (p := ⟨w.heap.size, 1, none⟩) (Nat.le_refl _) (.int .i64 (gsSent s))).setCell (p := ⟨w.heap.size, 2, none⟩) (Nat.le_refl _) (.int .i64 (gsDice s)))
          have oZ := (((hS.own.setCell (p := ⟨w.heap.size, 0, none⟩) (by simp only; omega) (.slice vA (gsN s) vc)).setCell (p := ⟨w.heap.size, 1, none⟩) (by simp only; omega) (.int .i64 (gsSent s))).setCell (p := ⟨w.heap.size, 2, none⟩) (by simp only; omega) (.int .i64 (gsDice s)))
          clear x0 x1 x2 r0 r1 r2 f0 f1 f2 hS
          generalize (((wc.setCell ⟨w.heap.size, 0, none⟩ (.slice vA (gsN s) vc)).setCell ⟨w.heap.size, 1, none⟩ (.int .i64 (gsSent s))).setCell ⟨w.heap.size, 2, none⟩ (.int .i64 (gsDice s))) = wZ at *
          have q0 := hZ.cell 0
          have q1 := hZ.cell 1
          have q2 := hZ.cell 2
          simp only [List.setIfInBounds_toArray, List.set_cons_zero, List.set_cons_succ, List.getElem?_toArray, List.getElem?_cons_zero, List.getElem?_cons_succ] at q0 q1 q2
          obtain ⟨e1, e2, e3⟩ := HV.out
          refine bodyPost_ret (v := .tuple #[.agg #[.slice vA (gsN s) vc, .int .i64 (gsSent s), .int .i64 (gsDice s)], .int .i64 0]) (by simp [results, Try.results74, go_sem, q0, q1, q2]) rfl ⟨vA, vc, by rw [HEq.out, e1, e2, e3, HN.out], ?_, bZ⟩
          rw [e1, ← flatMap_int]
          have := Reads.of_own (show wZ.ownsRow _ _ _ (.slice vA L.length vc) L.length _ by have h := oZ; rw [← HN.out] at h; exact h)
          exact this
        · have hEb : (E != 0) = true := by rw [bne_iff_ne]; exact hE
          have hZ0 : gsZ s = [] := if_neg (by rw [HEq.out]; exact hE)
          have hA0 : gsA s = 0 := if_neg (by rw [HEq.out]; exact hE)
          have hB0 : gsB s = 0 := if_neg (by rw [HEq.out]; exact hE)
          have HV := hide (And.intro hZ0 (And.intro hA0 hB0))
          clear hZ0 hA0 hB0
          go_wp2_with fail
          have hZ := (((hS.R.set_ 0 (.slice none 0 0)).set_ 1 (.int .i64 0)).set_ 2 (.int .i64 0))
          have bZ := (((hS.bel.setCell (p := ⟨w.heap.size, 0, none⟩) (Nat.le_refl _) (.slice none 0 0)).setCell (p := ⟨w.heap.size, 1, none⟩) (Nat.le_refl _) (.int .i64 0)).setCell (p := ⟨w.heap.size, 2, none⟩) (Nat.le_refl _) (.int .i64 0))
          have oZ := (((hS.own.setCell (p := ⟨w.heap.size, 0, none⟩) (by simp only; omega) (.slice none 0 0)).setCell (p := ⟨w.heap.size, 1, none⟩) (by simp only; omega) (.int .i64 0)).setCell (p := ⟨w.heap.size, 2, none⟩) (by simp only; omega) (.int .i64 0))
          clear x0 x1 x2 r0 r1 r2 f0 f1 f2 hS
          generalize (((wc.setCell ⟨w.heap.size, 0, none⟩ (.slice none 0 0)).setCell ⟨w.heap.size, 1, none⟩ (.int .i64 0)).setCell ⟨w.heap.size, 2, none⟩ (.int .i64 0)) = wZ at *
          have q0 := hZ.cell 0
          have q1 := hZ.cell 1
          have q2 := hZ.cell 2
          simp only [List.setIfInBounds_toArray, List.set_cons_zero, List.set_cons_succ, List.getElem?_toArray, List.getElem?_cons_zero, List.getElem?_cons_succ] at q0 q1 q2
          obtain ⟨e1, e2, e3⟩ := HV.out
          refine bodyPost_ret (v := .tuple #[.agg #[.slice none 0 0, .int .i64 0, .int .i64 0], .int .i64 E]) (by simp [results, Try.results74, go_sem, q0, q1, q2]) rfl ⟨none, 0, by rw [HEq.out, e1, e2, e3]; rfl, ?_, bZ⟩
          rw [e1]
          exact Reads.none_
end Go.Proofs.Ytpgbfglfmmohdaa
namespace Go.Proofs.Ytpgbfglfmmohdaa
open Go.RowKit Go.Deep

attribute [local go_sem] run_store_float
theorem add_zero_addr2 (a : Addr) : a.add 0 = a := by unfold Addr.add; simp
theorem conv_byte (n : Int) (h0 : 0 ≤ n) (h1 : n ≤ 255) (X : World) (g : Nat) (h : X.cell? ⟨g, 0, none⟩ = some (.int .u8 n)) : (convert 82 9 (.slice (some ⟨g, 0, none⟩) 1 1)).run Try.prog X = .ok (.string (oneS n)) X := by
  have hr := run_convert_bytes_back (P := Try.prog) X 82 9 5 ⟨g, 0, none⟩ 1 [UInt8.ofNat n.toNat] Try.underlying82 Try.underlying5 Try.underlying9 (fun j hj => by
    have e : j = 0 := by simpa using hj
    subst e
    rw [add_zero_addr2, h]
    simp only [List.getElem_cons_zero, Option.some.injEq, Value.int.injEq, true_and]
    rw [UInt8.toNat_ofNat']
    omega)
  exact hr
def SBox (w : World) (A : Option Addr) (m c : Nat) (a b : Int) (W : World) : Prop := Below w.heap.size w W ∧ Blk W w.heap.size 92 #[.slice A m c, .int .i64 a, .int .i64 b]
theorem rightstate_any (A : Option Addr) (m c : Nat) (sent dice : Int) (w : World) :
    Calls Try.prog 77 #[.agg #[.slice A m c, .int .i64 sent, .int .i64 dice]] w fun e w' => e = .returned (.bool (stR m sent dice)) ∧ Below w.heap.size w w' := by
  have hb : Below w.heap.size w (w.alloc (.cells #[.slice A m c, .int .i64 sent, .int .i64 dice] 92)) := (Below.refl _ _).alloc (Nat.le_refl _) _
  by_cases h1 : m ≤ 8
  · have hI : (m : Int) ≤ 8 := by omega
    by_cases h2 : 0 ≤ sent
    · by_cases h3 : sent ≤ 1099511627776
      · by_cases h4 : 0 ≤ dice
        · by_cases h5 : dice ≤ 1099511627776
          · have e : stR m sent dice = true := by unfold stR countB; simp [h1, h2, h3, h4, h5]
            rw [e]
            clear e h1
            go_enter Try.func77, Try.ntmps77
            go_wp2_with fail
            go_ret
            exact ⟨rfl, hb⟩
          · have e : stR m sent dice = false := by unfold stR countB; simp [h5]
            rw [e]
            clear e h1
            go_enter Try.func77, Try.ntmps77
            go_wp2_with fail
            go_ret
            exact ⟨rfl, hb⟩
        · have e : stR m sent dice = false := by unfold stR countB; simp [h4]
          rw [e]
          clear e h1
          go_enter Try.func77, Try.ntmps77
          go_wp2_with fail
          go_ret
          exact ⟨rfl, hb⟩
      · have e : stR m sent dice = false := by unfold stR countB; simp [h3]
        rw [e]
        clear e h1
        go_enter Try.func77, Try.ntmps77
        go_wp2_with fail
        go_ret
        exact ⟨rfl, hb⟩
    · have e : stR m sent dice = false := by unfold stR countB; simp [h2]
      rw [e]
      clear e h1
      go_enter Try.func77, Try.ntmps77
      go_wp2_with fail
      go_ret
      exact ⟨rfl, hb⟩
  · have e : stR m sent dice = false := by unfold stR; simp [h1]
    have hI : ¬ (m : Int) ≤ 8 := by omega
    rw [e]
    clear e h1
    go_enter Try.func77, Try.ntmps77
    go_wp2_with fail
    go_ret
    exact ⟨rfl, hb⟩
theorem same08_self (A A' : Option Addr) (m c c' : Nat) (zs : List Int) (a b : Int) (w : World) (hm : m ≤ 9223372036854775807) (hl : zs.length = m) (hr : Reads w w.heap.size 1 A m (zs.map (Value.int .i64))) (hr' : Reads w w.heap.size 1 A' m (zs.map (Value.int .i64))) :
    Calls Try.prog 76 #[.agg #[.slice A m c, .int .i64 a, .int .i64 b], .agg #[.slice A' m c', .int .i64 a, .int .i64 b]] w fun e w' => e = .returned (.bool true) ∧ Below w.heap.size w w' := by
  have hz : ∀ o, (w.alloc o).heap.size = w.heap.size + 1 := fun o => Array.size_push ..
  have hA := (Blk.new w 92 #[.slice A m c, .int .i64 a, .int .i64 b]).alloc (.cells #[.slice A' m c', .int .i64 a, .int .i64 b] 92)
  have hB := Blk.new (w.alloc (.cells #[.slice A m c, .int .i64 a, .int .i64 b] 92)) 92 #[.slice A' m c', .int .i64 a, .int .i64 b]
  have hb : Below w.heap.size w ((w.alloc (.cells #[.slice A m c, .int .i64 a, .int .i64 b] 92)).alloc (.cells #[.slice A' m c', .int .i64 a, .int .i64 b] 92)) := Below.alloc (Below.alloc (Below.refl _ _) (Nat.le_refl _) _) (by rw [hz]; omega) _
  rw [hz] at hB
  clear hz
  have HI := hide fun (W : World) (h : Below w.heap.size w W) => ints_same A A' m c c' zs W w.heap.size w.heap.size hm hl (hr.below h) (hr'.below h)
  clear hr hr' hl hm
  go_enter Try.func76, Try.ntmps76
  go_upto_region 1 with fail
  generalize (w.alloc _).alloc _ = W0 at *
  have a0 := hA.cell 0
  have b0 := hB.cell 0
  simp only [List.getElem?_toArray, List.getElem?_cons_zero, List.getElem?_cons_succ] at a0 b0
  go_wp2_with fail
  refine (HI.out _ hb).mono ?_
  rintro e w1 ⟨rfl, n, rfl⟩
  replace hA := hA.drewN n
  replace hB := hB.drewN n
  replace hb := below_drewN hb n
  have a1 := hA.cell 1
  have a2 := hA.cell 2
  have b1 := hB.cell 1
  have b2 := hB.cell 2
  simp only [List.getElem?_toArray, List.getElem?_cons_zero, List.getElem?_cons_succ] at a1 a2 b1 b2
  go_wp2_with fail
  go_ret
  exact ⟨rfl, hb⟩
def RsRel (w : World) (A : Option Addr) (m c : Nat) (a b : Int) (zs : List Int) (o i : Value) (wr : World) : Prop :=
  ∃ k : Nat, k ≤ m ∧ i = .int .i64 k ∧ o = .string (bs ((oneS m).data.toList ++ liB (zs.take k))) ∧ SBox w A m c a b wr
set_option maxHeartbeats 4000000 in
theorem rstate_any (A : Option Addr) (m c : Nat) (zs : List Int) (sent dice : Int) (w : World) (hm : m ≤ 8) (hl : zs.length = m) (hr : Reads w w.heap.size 1 A m (zs.map (Value.int .i64))) :
    Calls Try.prog 78 #[.agg #[.slice A m c, .int .i64 sent, .int .i64 dice]] w fun e w' => e = .returned (.string (stS zs sent dice)) ∧ Below w.heap.size w w' := by
  have hb : Below w.heap.size w (w.alloc (.cells #[.slice A m c, .int .i64 sent, .int .i64 dice] 92)) := (Below.refl _ _).alloc (Nat.le_refl _) _
  have hX := Blk.new w 92 #[.slice A m c, .int .i64 sent, .int .i64 dice]
  have Hl := hide hl
  have hw8 : IntKind.u8.wrap (m : Int) = (m : Int) := by rw [IntKind.wrap_u8]; omega
  have cv := fun X g h => conv_byte (m : Int) (by omega) (by omega) X g h
  clear hl
  go_enter Try.func78, Try.ntmps78
  go_upto_region 1 with fail
  generalize w.alloc _ = W0 at *
  have x0 := hX.cell 0
  simp only [List.getElem?_toArray, List.getElem?_cons_zero, List.getElem?_cons_succ] at x0
  have hnew := (Blk.new W0 5 #[.int .u8 (m : Int)]).cell 0
  simp only [List.getElem?_toArray, List.getElem?_cons_zero, List.getElem?_cons_succ] at hnew
  have cv1 := cv _ _ hnew
  clear hnew cv
  go_wp2_with fail
  have hS : SBox w A m c sent dice _ := ⟨hb.alloc hb.size (.cells #[.int .u8 (m : Int)] 5), hX.alloc (.cells #[.int .u8 (m : Int)] 5)⟩
  generalize W0.alloc _ = W1 at *
  clear x0 cv1 hw8 hX hb
  go_loopw [3, 4] (fun o i wr => RsRel w A m c sent dice zs o i wr) (fun _ i _ => m - (intOf i).toNat)
  case atStart => exact ⟨0, Nat.zero_le _, rfl, by simp [liB]; rfl, hS⟩
  case round =>
    clear hS
    obtain ⟨k, hk, rfl, rfl, hb, hX⟩ := hrel
    have x0 := hX.cell 0
    simp only [List.getElem?_toArray, List.getElem?_cons_zero, List.getElem?_cons_succ] at x0
    by_cases hlt : k < m
    · have hr' := hr.below hb
      obtain ⟨ad, u, rfl, _, hu, hc⟩ := hr'.at_ hlt
      rw [List.getElem?_map] at hu
      have hkl : k < zs.length := by rw [Hl.out]; exact hlt
      rw [List.getElem?_eq_getElem hkl] at hu
      have Ht := hide (liB_take zs k hkl)
      have hlen : ((oneS m).data.toList ++ liB (zs.take k)).length ≤ 100 := by
        rw [List.length_append, one_len, liB_length, List.length_take]
        omega
      generalize zs[k] = z at *
      simp only [Option.map_some, Option.some.injEq] at hu
      subst hu
      clear hkl
      have c1 := fun w => run_cat (bs ((oneS m).data.toList ++ liB (zs.take k))) (iS z) (by rw [bs_size, is_size]; omega) w
      have HC := hide (show bs ((oneS m).data.toList ++ liB (zs.take k)) ++ iS z = bs ((oneS m).data.toList ++ liB (zs.take (k + 1))) by
        rw [Ht.out, ← List.append_assoc, bs_app _ (be 8 _)]
        exact rfl)
      clear hlen Ht hr'
      generalize bs ((oneS m).data.toList ++ liB (zs.take k)) ++ iS z = R2 at *
      generalize bs ((oneS m).data.toList ++ liB (zs.take k)) = R1 at *
      go_wp2_with fail
      refine (ri_any _ _).mono ?_
      rintro e w3 ⟨rfl, hb3⟩
      replace hX := hX.below hb3 hX.lt
      replace hb := below_after hb hb3
      clear hb3 x0 hc
      go_wp2_with fail
      go_roundw
      case rel => exact ⟨k + 1, by omega, by go_num, by rw [HC.out], hb, hX⟩
      case measure => simp [intOf]; omega
    · obtain rfl : k = m := by omega
      have HV : Hid (stS zs sent dice = (bs ((oneS k).data.toList ++ liB (zs.take k)) ++ iS sent) ++ iS dice) := by
        have e : zs.take k = zs := by rw [← Hl.out]; exact List.take_length
        unfold stS
        rw [e, Hl.out]
        exact rfl
      have hz : ((oneS k).data.toList ++ liB (zs.take k)).length ≤ 65 := by
        rw [List.length_append, one_len, liB_length, List.length_take]
        omega
      have c1 := fun w => run_cat (bs ((oneS k).data.toList ++ liB (zs.take k))) (iS sent) (by rw [bs_size, is_size]; omega) w
      have c2 := fun w => run_cat (bs ((oneS k).data.toList ++ liB (zs.take k)) ++ iS sent) (iS dice) (by rw [ByteArray.size_append, bs_size, is_size, is_size]; omega) w
      have i1 := hide fun W => ri_any sent W
      have i2 := hide fun W => ri_any dice W
      generalize (bs ((oneS k).data.toList ++ liB (zs.take k)) ++ iS sent) ++ iS dice = R3 at *
      generalize bs ((oneS k).data.toList ++ liB (zs.take k)) ++ iS sent = R2 at *
      generalize bs ((oneS k).data.toList ++ liB (zs.take k)) = R1 at *
      generalize iS sent = N1 at *
      generalize iS dice = N2 at *
      go_upto_region 6 with fail
      obtain ⟨P, hO, h0, hne, hI⟩ := BoxC.hidden _ _ _ (BoxC.one w _ _ _ _ hb hX)
      have hQ : ∀ i : Wo P, Blk i.W w.heap.size 92 #[.slice A k c, .int .i64 sent, .int .i64 dice] := fun i => (hI i).2 (w.heap.size, 92, #[.slice A k c, .int .i64 sent, .int .i64 dice]) (by simp)
      have u1 := fun i => (hQ i).cell 1
      have u2 := fun i => (hQ i).cell 2
      have HI := hide hI
      have HO := hide hO
      have H0 := hide h0
      clear hO h0 hI hQ hb hX hz hr x0
      refine wp_region_quietC (by kernel_rfl) (by kernel_rfl) H0.out ?_
      repeat (go_big_quiet_step (first
        | (go_at_call 26; with_reducible exact Calls.quietC HO.out (i1.out _))
        | (go_at_call 26; with_reducible exact Calls.quietC HO.out (i2.out _))))
      refine wpQuiet_nil ?_
      intro _ hw'
      obtain ⟨i, rfl⟩ := hw'
      go_wp2
      go_ret
      exact ⟨by rw [HV.out]; exact rfl, (HI.out i).1⟩
end Go.Proofs.Ytpgbfglfmmohdaa
namespace Go.Proofs.Ytpgbfglfmmohdaa
open Go.RowKit Go.Deep

attribute [local go_sem] run_store_float
/-! Plain: numbers read one behind the other. -/
theorem stSh_false {s : ByteArray} {k : Nat} : ∀ j, stSh s k false j = false → k + 8 * j ≤ s.size ∨ j = 0
  | 0, _ => .inr rfl
  | j + 1, h => by
    unfold stSh wordS at h
    split at h
    · rename_i hle
      have hk : stK s k j = k + 8 * j := by
        clear hle
        induction j with
        | zero => rfl
        | succ j ih =>
          unfold stSh wordS at h
          split at h
          · rename_i hle
            have := ih h
            unfold stK wordK
            rw [if_pos hle, this]
            omega
          · exact absurd h (by decide)
      rw [hk] at hle
      exact .inl (by omega)
    · exact absurd h (by decide)
theorem st_in (s : ByteArray) (k : Nat) (sh : Bool) : ∀ j, k + 8 * j ≤ s.size → stK s k j = k + 8 * j ∧ stSh s k sh j = sh ∧ stL s k j = (List.range j).map fun i => unI (rdN s (k + 8 * i) 8 : Nat)
  | 0, _ => ⟨rfl, rfl, rfl⟩
  | j + 1, h => by
    obtain ⟨h1, h2, h3⟩ := st_in s k sh j (by omega)
    refine ⟨?_, ?_, ?_⟩
    · unfold stK
      rw [h1, wordK_in (by omega)]
      omega
    · unfold stSh
      rw [h1, wordS_in (by omega), h2]
    · unfold stL
      rw [h1, h3, wordN_in (by omega), List.range_succ, List.map_append]
      rfl
theorem gsSh_short (s : ByteArray) (h : s.size < 17 + 8 * gsN s) : gsSh s = true := by
  cases hc : gsSh s
  · exfalso
    unfold gsSh at hc
    have h2 : wordS s (gsK1 s) (stSh s (byteK s 0) (byteS s 0 false) (gsN s)) = false := by
      cases h2 : wordS s (gsK1 s) (stSh s (byteK s 0) (byteS s 0 false) (gsN s))
      · rfl
      · rw [h2, wordS_true] at hc
        exact hc
    rw [h2] at hc
    have h1 : stSh s (byteK s 0) (byteS s 0 false) (gsN s) = false := by
      cases h1 : stSh s (byteK s 0) (byteS s 0 false) (gsN s)
      · rfl
      · rw [h1, wordS_true] at h2
        exact h2
    have stTrue : ∀ k j, stSh s k true j = true := by
      intro k j
      induction j with
      | zero => rfl
      | succ j ih => unfold stSh; rw [ih, wordS_true]
    have h0 : byteS s 0 false = false := by
      cases h0 : byteS s 0 false
      · rfl
      · rw [h0, stTrue] at h1
        exact h1
    obtain ⟨hz, hk0⟩ := byteK_eq (s := s) (k := 0) (by rw [h0]; decide)
    rw [hk0, h0] at h1 h2
    have hj := stSh_false _ h1
    have hk1 : gsK1 s = 1 + 8 * gsN s ∧ 1 + 8 * gsN s ≤ s.size := by
      unfold gsK1
      rw [hk0]
      rcases hj with hj | hj
      · exact ⟨by have := (st_in s 1 false (gsN s) (by omega)).1; omega, by omega⟩
      · rw [hj]
        exact ⟨rfl, by omega⟩
    obtain ⟨a1, b1⟩ := wordK_eq (s := s) (k := gsK1 s) (by rw [h1] at h2; rw [h2]; decide)
    rw [b1] at hc
    obtain ⟨a2, b2⟩ := wordK_eq (s := s) (k := gsK1 s + 8) (by rw [hc]; decide)
    omega
  · rfl
theorem gs_in (s : ByteArray) (h : 17 + 8 * gsN s ≤ s.size) : gsSent s = unI (rdN s (1 + 8 * gsN s) 8 : Nat) ∧ gsDice s = unI (rdN s (9 + 8 * gsN s) 8 : Nat) ∧ gsK s = 17 + 8 * gsN s ∧ gsSh s = false ∧ byteK s 0 = 1 := by
  have k0 : byteK s 0 = 1 := byteK_in (by omega)
  have s0 : byteS s 0 false = false := byteS_in (by omega) _
  obtain ⟨h1, h2, _⟩ := st_in s 1 false (gsN s) (by omega)
  have hk1 : gsK1 s = 1 + 8 * gsN s := by unfold gsK1; rw [k0]; exact h1
  have hk2 : wordK s (1 + 8 * gsN s) = 9 + 8 * gsN s := by rw [wordK_in (by omega)]; omega
  refine ⟨?_, ?_, ?_, ?_, k0⟩
  · unfold gsSent
    rw [hk1, wordN_in (by omega)]
  · unfold gsDice
    rw [hk1, hk2, wordN_in (by omega)]
  · unfold gsK
    rw [hk1, hk2, wordK_in (by omega)]
    omega
  · unfold gsSh
    rw [hk1, hk2, k0, s0, h2, wordS_in (by omega), wordS_in (by omega)]
theorem gsE_short {s : ByteArray} (h : s.size < 17 + 8 * gsN s) : gsE s = 5 := by
  unfold gsE endE
  rw [gsSh_short s h, if_pos rfl]
theorem gsE_long {s : ByteArray} (h : 17 + 8 * gsN s < s.size) : gsE s = 6 := by
  obtain ⟨_, _, k, sh, _⟩ := gs_in s (by omega)
  unfold gsE endE
  rw [k, sh, if_neg (by decide), if_pos (.inl (by omega))]
theorem gsE_at {s : ByteArray} (h : s.size = 17 + 8 * gsN s) : gsE s = if stR (gsN s) (gsSent s) (gsDice s) then 0 else 6 := by
  obtain ⟨_, _, k, sh, _⟩ := gs_in s (by omega)
  unfold gsE
  rw [k, sh]
  exact endE_at s _ _ (by omega)
def gsP (s : ByteArray) (a b : Int) (E : Int) (Z : List Int) (e : Ending) (w w' : World) : Prop := ∃ A c, e = .returned (.tuple #[.agg #[.slice A Z.length c, .int .i64 a, .int .i64 b], .int .i64 E]) ∧ Reads w' w'.heap.size 1 A Z.length (Z.map (Value.int .i64)) ∧ Below w.heap.size w w'
theorem gs_zero {s : ByteArray} (h : gsE s ≠ 0) : gsZ s = [] ∧ gsA s = 0 ∧ gsB s = 0 := ⟨if_neg h, if_neg h, if_neg h⟩
theorem rgs_empty (s : ByteArray) (w : World) (h : s.size = 0) : Calls Try.prog 75 #[.string s] w fun e w' => gsP s (gsA s) (gsB s) (gsE s) (gsZ s) e w w' := by
  have hE := gsE_short (s := s) (by omega)
  obtain ⟨e1, e2, e3⟩ := gs_zero (s := s) (by rw [hE]; decide)
  rw [hE, e1, e2, e3]
  have hzI : ((s.size : Int) == 0) = true := by rw [h]; rfl
  clear hE e1 e2 e3 h
  have hR := Blk.new w 92 #[.slice none 0 0, .int .i64 0, .int .i64 0]
  have hb : Below w.heap.size w (w.alloc (.cells #[.slice none 0 0, .int .i64 0, .int .i64 0] 92)) := (Below.refl _ _).alloc (Nat.le_refl _) _
  go_enter Try.func75, Try.ntmps75
  go_upto_region 1 with fail
  generalize w.alloc _ = wc at *
  have r0 := hR.cell 0
  have r1 := hR.cell 1
  have r2 := hR.cell 2
  have f0 := hR.frozen 0
  have f1 := hR.frozen 1
  have f2 := hR.frozen 2
  simp only [List.getElem?_toArray, List.getElem?_cons_zero, List.getElem?_cons_succ] at r0 r1 r2
  go_wp2_with fail
  have hZ := (((hR.set_ 0 (.slice none 0 0)).set_ 1 (.int .i64 0)).set_ 2 (.int .i64 0))
  have bZ := (((hb.setCell (p := ⟨w.heap.size, 0, none⟩) (Nat.le_refl _) (.slice none 0 0)).setCell (p := ⟨w.heap.size, 1, none⟩) (Nat.le_refl _) (.int .i64 0)).setCell (p := ⟨w.heap.size, 2, none⟩) (Nat.le_refl _) (.int .i64 0))
  clear r0 r1 r2 f0 f1 f2 hR hb
  generalize (((wc.setCell ⟨w.heap.size, 0, none⟩ (.slice none 0 0)).setCell ⟨w.heap.size, 1, none⟩ (.int .i64 0)).setCell ⟨w.heap.size, 2, none⟩ (.int .i64 0)) = wZ at *
  have q0 := hZ.cell 0
  have q1 := hZ.cell 1
  have q2 := hZ.cell 2
  simp only [List.setIfInBounds_toArray, List.set_cons_zero, List.set_cons_succ, List.getElem?_toArray, List.getElem?_cons_zero, List.getElem?_cons_succ] at q0 q1 q2
  exact bodyPost_ret (v := .tuple #[.agg #[.slice none 0 0, .int .i64 0, .int .i64 0], .int .i64 5]) (by simp [results, Try.results75, go_sem, q0, q1, q2]) rfl ⟨none, 0, rfl, Reads.none_, bZ⟩
theorem gsN_byte (s : ByteArray) (h : 0 < s.size) : (s[0].toNat : Int) = (gsN s : Int) := by
  have := byteN_rng s 0
  unfold gsN
  rw [Int.toNat_of_nonneg this.1]
  exact (byteN_in h).symm
theorem rgs_cut (s : ByteArray) (w : World) (h0 : 0 < s.size) (hm : s.size ≤ 9223372036854775807) (h : s.size < 17 + 8 * gsN s ∨ 17 + 8 * gsN s < s.size) : Calls Try.prog 75 #[.string s] w fun e w' => gsP s (gsA s) (gsB s) (gsE s) (gsZ s) e w w' := by
  have hn : gsN s ≤ 255 := by
    have := byteN_rng s 0
    unfold gsN
    omega
  have hE : cutE s ((17 + 8 * gsN s : Nat) : Int) = gsE s ∧ gsE s ≠ 0 := by
    unfold cutE
    rcases h with h | h
    · rw [gsE_short h, if_pos (by omega)]; exact ⟨rfl, by decide⟩
    · rw [gsE_long h, if_neg (by omega), if_pos (by omega)]; exact ⟨rfl, by decide⟩
  obtain ⟨hE, hE0⟩ := hE
  obtain ⟨e1, e2, e3⟩ := gs_zero hE0
  rw [e1, e2, e3]
  have hcut := fun w => cut20_any s ((17 + 8 * gsN s : Nat) : Int) w
  rw [hE] at hcut
  have hEb : (gsE s != 0) = true := by rw [bne_iff_ne]; exact hE0
  clear hE hE0 e1 e2 e3 h
  generalize gsE s = E at *
  have hi := run_index_str Try.underlying9 s .i64 0 0 rfl h0
  have hb0 := gsN_byte s h0
  have hw0 : IntKind.i64.wrap (s[0].toNat : Int) = (gsN s : Int) := by rw [hb0]; exact IntWalk.i64_in _ (by omega)
  have hw1 : IntKind.i64.wrap (8 * (gsN s : Int)) = 8 * (gsN s : Int) := IntWalk.i64_in _ (by omega)
  have hw2 : IntKind.i64.wrap (17 + 8 * (gsN s : Int)) = 17 + 8 * (gsN s : Int) := IntWalk.i64_in _ (by omega)
  have hzI : ((s.size : Int) == 0) = false := by rw [beq_eq_false_iff_ne]; omega
  rw [show ((17 + 8 * gsN s : Nat) : Int) = 17 + 8 * (gsN s : Int) by omega] at hcut
  clear hn
  generalize (s[0].toNat : Int) = b0 at *
  generalize gsN s = n at *
  have hR := Blk.new w 92 #[.slice none 0 0, .int .i64 0, .int .i64 0]
  have hb : Below w.heap.size w (w.alloc (.cells #[.slice none 0 0, .int .i64 0, .int .i64 0] 92)) := (Below.refl _ _).alloc (Nat.le_refl _) _
  subst hb0
  go_enter Try.func75, Try.ntmps75
  go_upto_region 1 with fail
  generalize w.alloc _ = wc at *
  go_wp2_with fail
  refine (hcut _).mono ?_
  rintro e w1 ⟨rfl, rfl⟩
  have r0 := hR.cell 0
  have r1 := hR.cell 1
  have r2 := hR.cell 2
  have f0 := hR.frozen 0
  have f1 := hR.frozen 1
  have f2 := hR.frozen 2
  simp only [List.getElem?_toArray, List.getElem?_cons_zero, List.getElem?_cons_succ] at r0 r1 r2
  go_wp2_with fail
  have hZ := (((hR.set_ 0 (.slice none 0 0)).set_ 1 (.int .i64 0)).set_ 2 (.int .i64 0))
  have bZ := (((hb.setCell (p := ⟨w.heap.size, 0, none⟩) (Nat.le_refl _) (.slice none 0 0)).setCell (p := ⟨w.heap.size, 1, none⟩) (Nat.le_refl _) (.int .i64 0)).setCell (p := ⟨w.heap.size, 2, none⟩) (Nat.le_refl _) (.int .i64 0))
  clear r0 r1 r2 f0 f1 f2 hR hb
  generalize (((wc.setCell ⟨w.heap.size, 0, none⟩ (.slice none 0 0)).setCell ⟨w.heap.size, 1, none⟩ (.int .i64 0)).setCell ⟨w.heap.size, 2, none⟩ (.int .i64 0)) = wZ at *
  have q0 := hZ.cell 0
  have q1 := hZ.cell 1
  have q2 := hZ.cell 2
  simp only [List.setIfInBounds_toArray, List.set_cons_zero, List.set_cons_succ, List.getElem?_toArray, List.getElem?_cons_zero, List.getElem?_cons_succ] at q0 q1 q2
  exact bodyPost_ret (v := .tuple #[.agg #[.slice none 0 0, .int .i64 0, .int .i64 0], .int .i64 E]) (by simp [results, Try.results75, go_sem, q0, q1, q2]) rfl ⟨none, 0, rfl, Reads.none_, bZ⟩
end Go.Proofs.Ytpgbfglfmmohdaa
namespace Go.Proofs.Ytpgbfglfmmohdaa
open Go.RowKit Go.Deep

attribute [local go_sem] run_store_float
/-- In R20.GetState: the result's box, the state's box, its row. -/
structure GrS (w : World) (v : Value) (a b : Int) (L : List Int) (wr : World) : Prop where
  bel : Below w.heap.size w wr
  R : Blk wr w.heap.size 92 #[.slice none 0 0, .int .i64 0, .int .i64 0]
  X : Blk wr (w.heap.size + 1) 92 #[v, .int .i64 a, .int .i64 b]
  own : OwnR 3 1 encInt wr (w.heap.size + 2) v L
section
variable {w wr w1 : World} {v : Value} {a b : Int} {L : List Int}
theorem GrS.below (h : GrS w v a b L wr) (hb : Below wr.heap.size wr w1) : GrS w v a b L w1 := ⟨below_after h.bel hb, h.R.below hb h.R.lt, h.X.below hb h.X.lt, h.own.below hb⟩
theorem GrS.set1 (h : GrS w v a b L wr) (x : Int) : GrS w v x b L (wr.setCell ⟨w.heap.size + 1, 1, none⟩ (.int .i64 x)) :=
  ⟨h.bel.setCell (by simp only; omega) _, h.R.far (by simp only; omega) _, h.X.set_ 1 _, h.own.setCell (by simp only; omega) _⟩
theorem GrS.set2 (h : GrS w v a b L wr) (x : Int) : GrS w v a x L (wr.setCell ⟨w.heap.size + 1, 2, none⟩ (.int .i64 x)) :=
  ⟨h.bel.setCell (by simp only; omega) _, h.R.far (by simp only; omega) _, h.X.set_ 2 _, h.own.setCell (by simp only; omega) _⟩
theorem GrS.add (h : GrS w v a b L wr) (x : Int) (hL : L.length ≤ 1000) :
    ∃ A c w', (Builtin.append_ #[30, 30] 30 #[v, .slice (some ⟨wr.heap.size, 0, none⟩) 1 1]).run Try.prog (wr.alloc (.cells #[.int .i64 x] 3)) = .ok (.slice A (L.length + 1) c) w' ∧
      w'.cell? ⟨w.heap.size + 1, 0, none⟩ = some v ∧ w'.frozen? ⟨w.heap.size + 1, 0, none⟩ = false ∧ GrS w (.slice A (L.length + 1) c) a b (L ++ [x]) (w'.setCell ⟨w.heap.size + 1, 0, none⟩ (.slice A (L.length + 1) c)) := by
  have hB : w.heap.size + 2 ≤ wr.heap.size := h.X.lt
  obtain ⟨v', w', hrun, hown, hext⟩ := run_append_one 3 30 30 1 8 _ encInt (by omega) (fun _ => rfl) (by
    intro x u hu
    have e : u = .int .i64 x := by simpa [encInt] using hu
    subst e
    rfl) Try.underlying30 int_info2 rfl wr (w.heap.size + 2) v L x _ rfl h.own (by omega) (by omega) hB
  have hb2 : Below (w.heap.size + 2) wr w' := hext.below hB h.own.base
  have hX := h.X.below hb2 (by omega)
  obtain ⟨⟨sA, sc, sL⟩, hv, hsL, _⟩ := hown.form
  simp only [Sl.val] at hv hsL
  subst hsL
  rw [List.length_append, List.length_singleton] at hv
  subst hv
  refine ⟨sA, sc, w', hrun, hX.cell 0, hX.frozen 0, ?_, ?_, ?_, ?_⟩
  · exact (h.bel.trans (hb2.mono (by omega))).setCell (p := ⟨w.heap.size + 1, 0, none⟩) (by simp only; omega) _
  · exact (h.R.below hb2 (by omega)).far (by simp only; omega) _
  · exact hX.set_ 0 _
  · exact hown.setCell (by simp only; omega) _
end
def GrRel (w : World) (s : ByteArray) (n : Nat) (i : Value) (wr : World) : Prop :=
  ∃ (j : Nat) (v : Value), j ≤ n ∧ i = .int .i64 j ∧ GrS w v 0 0 (stL s 1 j) wr
set_option maxHeartbeats 4000000 in
theorem rgs_go (s : ByteArray) (w : World) (hm : s.size ≤ 9223372036854775807) (h : s.size = 17 + 8 * gsN s) : Calls Try.prog 75 #[.string s] w fun e w' => gsP s (gsA s) (gsB s) (gsE s) (gsZ s) e w w' := by
  have hn : gsN s ≤ 255 := by
    have := byteN_rng s 0
    unfold gsN
    omega
  obtain ⟨ha, hb', _, _, k0⟩ := gs_in s (by omega)
  have hE := gsE_at h
  have hZ : gsZ s = if gsE s = 0 then stL s 1 (gsN s) else [] := by unfold gsZ; rw [k0]
  have hcut := fun w => cut20_any s ((17 + 8 * gsN s : Nat) : Int) w
  rw [show cutE s ((17 + 8 * gsN s : Nat) : Int) = 0 by unfold cutE; rw [if_neg (by omega), if_neg (by omega)]] at hcut
  have hA : gsA s = if gsE s = 0 then gsSent s else 0 := rfl
  have hB : gsB s = if gsE s = 0 then gsDice s else 0 := rfl
  have h0 : 0 < s.size := by omega
  have hi := run_index_str Try.underlying9 s .i64 0 0 rfl h0
  have hb0 := gsN_byte s h0
  have hw0 : IntKind.i64.wrap (s[0].toNat : Int) = (gsN s : Int) := by rw [hb0]; exact IntWalk.i64_in _ (by omega)
  have hw1 : IntKind.i64.wrap (8 * (gsN s : Int)) = 8 * (gsN s : Int) := IntWalk.i64_in _ (by omega)
  have hw2 : IntKind.i64.wrap (17 + 8 * (gsN s : Int)) = 17 + 8 * (gsN s : Int) := IntWalk.i64_in _ (by omega)
  have hw3 : IntKind.i64.wrap (1 + 8 * (gsN s : Int)) = 1 + 8 * (gsN s : Int) := IntWalk.i64_in _ (by omega)
  have hw4 : IntKind.i64.wrap (9 + 8 * (gsN s : Int)) = 9 + 8 * (gsN s : Int) := IntWalk.i64_in _ (by omega)
  have hzI : ((s.size : Int) == 0) = false := by rw [beq_eq_false_iff_ne]; omega
  rw [show ((17 + 8 * gsN s : Nat) : Int) = 17 + 8 * (gsN s : Int) by omega] at hcut
  have H1 := hide fun w => rreadi_at s (1 + 8 * (gsN s : Int)) (1 + 8 * gsN s) w (by omega) (by omega) hm
  have H2 := hide fun w => rreadi_at s (9 + 8 * (gsN s : Int)) (9 + 8 * gsN s) w (by omega) (by omega) hm
  have HR := hide fun j (hj : j < gsN s) w => rreadi_at s (1 + 8 * (j : Int)) (1 + 8 * j) w (by omega) (by omega) hm
  have HN := hide fun j (hj : j < gsN s) => (st_in s 1 false j (by omega)).1
  have HW := hide fun j (hj : j < gsN s) => wordN_in (s := s) (k := 1 + 8 * j) (by omega)
  rw [← ha] at H1
  rw [← hb'] at H2
  replace hE := hide hE
  replace hZ := hide hZ
  replace hA := hide hA
  replace hB := hide hB
  clear ha hb' k0 h hm
  generalize gsE s = E at *
  generalize gsZ s = Z at *
  generalize gsA s = PA at *
  generalize gsB s = PB at *
  generalize gsSent s = a at *
  generalize gsDice s = b at *
  generalize (s[0].toNat : Int) = b0 at *
  generalize gsN s = n at *
  subst hb0
  have hR := Blk.new w 92 #[.slice none 0 0, .int .i64 0, .int .i64 0]
  have hb : Below w.heap.size w (w.alloc (.cells #[.slice none 0 0, .int .i64 0, .int .i64 0] 92)) := (Below.refl _ _).alloc (Nat.le_refl _) _
  have hX := Blk.new (w.alloc (.cells #[.slice none 0 0, .int .i64 0, .int .i64 0] 92)) 92 #[.slice none 0 0, .int .i64 0, .int .i64 0]
  have hsz : (w.alloc (.cells #[.slice none 0 0, .int .i64 0, .int .i64 0] 92)).heap.size = w.heap.size + 1 := Array.size_push ..
  rw [hsz] at hX
  have hS0 : GrS w (.slice none 0 0) 0 0 [] _ := ⟨hb.alloc hb.size (.cells #[.slice none 0 0, .int .i64 0, .int .i64 0] 92), hR.alloc _, hX, OwnR.nil⟩
  clear hb hR hX hsz
  replace hS0 := hide hS0
  go_enter Try.func75, Try.ntmps75
  go_wp2_with fail
  refine (hcut _).mono ?_
  rintro e w1 ⟨rfl, rfl⟩
  go_wp2_with fail
  go_loopw [7] (fun i wr => GrRel w s n i wr) (fun i _ => n - (intOf i).toNat)
  case atStart => exact ⟨0, .slice none 0 0, Nat.zero_le _, rfl, hS0.out⟩
  case round =>
    clear hS0
    obtain ⟨j, v, hj, rfl, hS⟩ := hrel
    by_cases hlt : j < n
    · have hll := stL_len s 1 j
      have hq1 : IntKind.i64.wrap (8 * (j : Int)) = 8 * (j : Int) := IntWalk.i64_in _ (by omega)
      have hq2 : IntKind.i64.wrap (1 + 8 * (j : Int)) = 1 + 8 * (j : Int) := IntWalk.i64_in _ (by omega)
      have jI : (j : Int) < (n : Int) := by omega
      have HC := hide (HR.out j hlt)
      have HL := hide (show stL s 1 (j + 1) = stL s 1 j ++ [unI (rdN s (1 + 8 * j) 8 : Nat)] by
        show stL s 1 j ++ [wordN s (stK s 1 j)] = _
        rw [HN.out j hlt, HW.out j hlt])
      generalize unI (rdN s (1 + 8 * j) 8 : Nat) = x at *
      obtain ⟨qA, qc, w3, hrun, x3, f3, hS3⟩ := hS.add x (by omega)
      rw [hll] at hrun hS3
      have x0 := hS.X.cell 0
      simp only [List.getElem?_toArray, List.getElem?_cons_zero, List.getElem?_cons_succ] at x0
      have HS3 := hide hS3
      clear hS hS3
      go_wp2_with fail
      refine (HC.out _).mono ?_
      rintro e w4 ⟨rfl, rfl⟩
      go_wp2_with (at_builtin; go_must (refine wpList_of_append rfl _ w3 (.tmp 49) (.tmp 51) 30 _ _ _ rfl rfl rfl hrun ?_))
      go_roundw
      case rel => exact ⟨j + 1, _, by omega, by go_num, by rw [HL.out]; exact HS3.out⟩
      case measure => simp [intOf]; omega
    · obtain rfl : j = n := by omega
      have HLN := hide (stL_len s 1 j)
      generalize stL s 1 j = L at *
      obtain ⟨⟨vA, vc, vL⟩, hv, hvL, _⟩ := hS.own.form
      simp only [Sl.val] at hv hvL
      subst hvL
      subst hv
      have x1 := hS.X.cell 1
      have x2 := hS.X.cell 2
      have f1 := hS.X.frozen 1
      have f2 := hS.X.frozen 2
      simp only [List.getElem?_toArray, List.getElem?_cons_zero, List.getElem?_cons_succ] at x1 x2
      clear HR HN HW
      go_wp2_with fail
      refine (H1.out _).mono ?_
      rintro e w2 ⟨rfl, rfl⟩
      go_wp2_with fail
      refine (H2.out _).mono ?_
      rintro e w2 ⟨rfl, rfl⟩
      go_upto_region 17 with fail
      have hS4 : GrS w _ a b _ _ := (hS.set1 a).set2 b
      clear hS x1 x2 f1 f2 H1 H2
      change Code.wp _ _ _ _ ((World.setCell _ _ (.int .i64 a)).setCell _ (.int .i64 b))
      generalize ((World.setCell _ _ (.int .i64 a)).setCell _ (.int .i64 b)) = w5 at *
      rw [HLN.out] at hS4
      have x0 := hS4.X.cell 0
      have x1 := hS4.X.cell 1
      have x2 := hS4.X.cell 2
      simp only [List.getElem?_toArray, List.getElem?_cons_zero, List.getElem?_cons_succ] at x0 x1 x2
      go_wp2_with fail
      refine (rightstate_any _ _ _ _ _ _).mono ?_
      rintro e w6 ⟨rfl, h6⟩
      have hS := hS4.below h6
      clear hS4 h6 x0 x1 x2
      have x0 := hS.X.cell 0
      have x1 := hS.X.cell 1
      have x2 := hS.X.cell 2
      have r0 := hS.R.cell 0
      have r1 := hS.R.cell 1
      have r2 := hS.R.cell 2
      have f0 := hS.R.frozen 0
      have f1 := hS.R.frozen 1
      have f2 := hS.R.frozen 2
      simp only [List.getElem?_toArray, List.getElem?_cons_zero, List.getElem?_cons_succ] at x0 x1 x2 r0 r1 r2
      generalize w6 = wc at *
      cases hr : stR j a b
      · have HV : Hid (E = 6 ∧ Z = [] ∧ PA = 0 ∧ PB = 0) := by
          have e := hE.out
          rw [hr] at e
          have e6 : E = 6 := e
          have e0 : ¬ E = 0 := by omega
          exact ⟨e6, hZ.out.trans (if_neg e0), hA.out.trans (if_neg e0), hB.out.trans (if_neg e0)⟩
        clear hr
        go_wp2_with fail
        have hZZ := (((hS.R.set_ 0 (.slice none 0 0)).set_ 1 (.int .i64 0)).set_ 2 (.int .i64 0))
        have bZ := (((hS.bel.setCell (p := ⟨w.heap.size, 0, none⟩) (Nat.le_refl _) (.slice none 0 0)).setCell (p := ⟨w.heap.size, 1, none⟩) (Nat.le_refl _) (.int .i64 0)).setCell (p := ⟨w.heap.size, 2, none⟩) (Nat.le_refl _) (.int .i64 0))
        have oZ := (((hS.own.setCell (p := ⟨w.heap.size, 0, none⟩) (by simp only; omega) (.slice none 0 0)).setCell (p := ⟨w.heap.size, 1, none⟩) (by simp only; omega) (.int .i64 0)).setCell (p := ⟨w.heap.size, 2, none⟩) (by simp only; omega) (.int .i64 0))
        clear x0 x1 x2 r0 r1 r2 f0 f1 f2 hS
        generalize (((wc.setCell ⟨w.heap.size, 0, none⟩ (.slice none 0 0)).setCell ⟨w.heap.size, 1, none⟩ (.int .i64 0)).setCell ⟨w.heap.size, 2, none⟩ (.int .i64 0)) = wZ at *
        have q0 := hZZ.cell 0
        have q1 := hZZ.cell 1
        have q2 := hZZ.cell 2
        simp only [List.setIfInBounds_toArray, List.set_cons_zero, List.set_cons_succ, List.getElem?_toArray, List.getElem?_cons_zero, List.getElem?_cons_succ] at q0 q1 q2
        obtain ⟨e1, e2, e3, e4⟩ := HV.out
        refine bodyPost_ret (v := .tuple #[.agg #[.slice none 0 0, .int .i64 0, .int .i64 0], .int .i64 6]) (by simp [results, Try.results75, go_sem, q0, q1, q2]) rfl ⟨none, 0, by rw [e1, e2, e3, e4]; rfl, ?_, bZ⟩
        rw [e2]
        exact Reads.none_
      · have HV : Hid (E = 0 ∧ Z = vL ∧ PA = a ∧ PB = b) := by
          have e := hE.out
          rw [hr] at e
          have e0 : E = 0 := e
          exact ⟨e0, hZ.out.trans (if_pos e0), hA.out.trans (if_pos e0), hB.out.trans (if_pos e0)⟩
        clear hr
        go_wp2_with fail
        have hZZ := (((hS.R.set_ 0 (.slice vA j vc)).set_ 1 (.int .i64 a)).set_ 2 (.int .i64 b))
        have bZ := (((hS.bel.setCell (p := ⟨w.heap.size, 0, none⟩) (Nat.le_refl _) (.slice vA j vc)).setCell (p := ⟨w.heap.size, 1, none⟩) (Nat.le_refl _) (.int .i64 a)).setCell (p := ⟨w.heap.size, 2, none⟩) (Nat.le_refl _) (.int .i64 b))
        have oZ := (((hS.own.setCell (p := ⟨w.heap.size, 0, none⟩) (by simp only; omega) (.slice vA j vc)).setCell (p := ⟨w.heap.size, 1, none⟩) (by simp only; omega) (.int .i64 a)).setCell (p := ⟨w.heap.size, 2, none⟩) (by simp only; omega) (.int .i64 b))
        clear x0 x1 x2 r0 r1 r2 f0 f1 f2 hS
        generalize (((wc.setCell ⟨w.heap.size, 0, none⟩ (.slice vA j vc)).setCell ⟨w.heap.size, 1, none⟩ (.int .i64 a)).setCell ⟨w.heap.size, 2, none⟩ (.int .i64 b)) = wZ at *
        have q0 := hZZ.cell 0
        have q1 := hZZ.cell 1
        have q2 := hZZ.cell 2
        simp only [List.setIfInBounds_toArray, List.set_cons_zero, List.set_cons_succ, List.getElem?_toArray, List.getElem?_cons_zero, List.getElem?_cons_succ] at q0 q1 q2
        obtain ⟨e1, e2, e3, e4⟩ := HV.out
        refine bodyPost_ret (v := .tuple #[.agg #[.slice vA j vc, .int .i64 a, .int .i64 b], .int .i64 0]) (by simp [results, Try.results75, go_sem, q0, q1, q2]) rfl ⟨vA, vc, by rw [e1, e2, e3, e4, HLN.out], ?_, bZ⟩
        rw [e2, ← flatMap_int]
        exact Reads.of_own (show wZ.ownsRow _ _ _ (.slice vA vL.length vc) vL.length _ by have h := oZ; rw [← HLN.out] at h; exact h)
theorem rgetstate_any (s : ByteArray) (w : World) (hm : s.size ≤ 9223372036854775807) : Calls Try.prog 75 #[.string s] w fun e w' => gsP s (gsA s) (gsB s) (gsE s) (gsZ s) e w w' := by
  by_cases h0 : s.size = 0
  · exact rgs_empty s w h0
  · rcases Nat.lt_trichotomy s.size (17 + 8 * gsN s) with h | h | h
    · exact rgs_cut s w (by omega) hm (.inl h)
    · exact rgs_go s w hm h
    · exact rgs_cut s w (by omega) hm (.inr h)
end Go.Proofs.Ytpgbfglfmmohdaa
namespace Go.Proofs.Ytpgbfglfmmohdaa
open Go.RowKit Go.Deep

theorem liB_app (a b : List Int) : liB (a ++ b) = liB a ++ liB b := by unfold liB; rw [List.flatMap_append]
theorem liB_split (zs : List Int) (i : Nat) (h : i < zs.length) : liB zs = liB (zs.take i) ++ ((iS zs[i]).data.toList ++ liB (zs.drop (i + 1))) := by
  have e : zs = zs.take i ++ zs[i] :: zs.drop (i + 1) := by rw [← List.drop_eq_getElem_cons h, List.take_append_drop]
  have e2 : liB zs = liB (zs.take i ++ ([zs[i]] ++ zs.drop (i + 1))) := congrArg liB e
  rw [e2, liB_app, liB_app]
  congr 2
theorem stS_data (zs : List Int) (a b : Int) : (stS zs a b).data.toList = [UInt8.ofNat zs.length] ++ (liB zs ++ ((iS a).data.toList ++ (iS b).data.toList)) := by
  unfold stS
  rw [app_data, app_data, bs_data, List.append_assoc, List.append_assoc]
  rfl
theorem stS_size (zs : List Int) (a b : Int) : (stS zs a b).size = 17 + 8 * zs.length := by
  rw [size_list _ _ (stS_data zs a b)]
  simp only [List.length_append, List.length_singleton, liB_length, is_len]
  omega
theorem stR_facts {m : Nat} {a b : Int} (h : stR m a b = true) : m ≤ 8 ∧ (0 ≤ a ∧ a ≤ 1099511627776) ∧ 0 ≤ b ∧ b ≤ 1099511627776 := by
  unfold stR countB at h
  simpa using h
/-- What was laid as a state is read as it was. -/
theorem gs_back (zs : List Int) (a b : Int) (hz : ∀ z ∈ zs, -9223372036854775808 ≤ z ∧ z ≤ 9223372036854775807) (h : stR zs.length a b = true) :
    gsE (stS zs a b) = 0 ∧ gsZ (stS zs a b) = zs ∧ gsA (stS zs a b) = a ∧ gsB (stS zs a b) = b := by
  obtain ⟨hm, ha, hb⟩ := stR_facts h
  have hd := stS_data zs a b
  have hsz := stS_size zs a b
  generalize stS zs a b = s at *
  have hb0 := byte_at s [] _ _ hd
  rw [UInt8.toNat_ofNat', List.length_nil] at hb0
  have hn : gsN s = zs.length := by
    unfold gsN
    rw [hb0]
    omega
  obtain ⟨e1, e2, _, _, k0⟩ := gs_in s (by omega)
  have ia := i_at s ([UInt8.ofNat zs.length] ++ liB zs) (iS b).data.toList a (by omega) (by omega) (by rw [hd, List.append_assoc])
  have ib := i_at s ([UInt8.ofNat zs.length] ++ (liB zs ++ (iS a).data.toList)) [] b (by omega) (by omega) (by rw [hd, List.append_nil, List.append_assoc, List.append_assoc])
  simp only [List.length_append, List.length_singleton, liB_length, is_len] at ia ib
  rw [show 1 + (8 * zs.length + 8) = 9 + 8 * zs.length by omega] at ib
  have s1 : gsSent s = a := by rw [e1, hn, ia]
  have s2 : gsDice s = b := by rw [e2, hn, ib]
  have hE : gsE s = 0 := by
    rw [gsE_at (by omega), hn, s1, s2, h]
    rfl
  refine ⟨hE, ?_, (if_pos hE).trans s1, (if_pos hE).trans s2⟩
  refine (if_pos hE).trans ?_
  rw [k0, hn, (st_in s 1 false zs.length (by omega)).2.2]
  apply List.ext_getElem
  · simp
  · intro i h1 h2
    simp only [List.getElem_map, List.getElem_range]
    have := i_at s ([UInt8.ofNat zs.length] ++ liB (zs.take i)) (liB (zs.drop (i + 1)) ++ ((iS a).data.toList ++ (iS b).data.toList)) zs[i] (hz _ (List.getElem_mem h2)).1 (hz _ (List.getElem_mem h2)).2 (by
      rw [hd, liB_split zs i h2]
      simp only [List.append_assoc])
    simp only [List.length_append, List.length_singleton, liB_length, List.length_take] at this
    rw [Nat.min_eq_left (by omega)] at this
    exact this
theorem liB_once (s : ByteArray) (p : Nat) : ∀ m, p + 8 * m ≤ s.size → liB ((List.range m).map fun i => unI (rdN s (p + 8 * i) 8 : Nat)) = (s.data.toList.drop p).take (8 * m) := by
  intro m
  induction m with
  | zero => intro _; simp [liB]
  | succ m ih =>
    intro h
    have hr := rdN_lt s (p + 8 * m) 8
    have e2 : s.data.toList.drop (p + 8 * m) = (s.data.toList.drop p).drop (8 * m) := by rw [List.drop_drop]
    rw [List.range_succ, List.map_append, liB_app, ih (by omega)]
    unfold liB
    simp only [List.map_cons, List.map_nil, List.flatMap_cons, List.flatMap_nil, List.append_nil]
    rw [unI_lo _ (by omega), Int.toNat_natCast, be_rdN s _ 8 (by omega), e2, ← List.take_add]
    congr 1
theorem i_once_l (s : ByteArray) (p : Nat) (h : p + 8 ≤ s.size) : (iS (unI (rdN s p 8 : Nat))).data.toList = (s.data.toList.drop p).take 8 := by
  rw [i_once s p h, ext_list, Nat.add_sub_cancel_left]
theorem one_once (s : ByteArray) (p : Nat) (h : p < s.size) : [UInt8.ofNat (byteN s p).toNat] = (s.data.toList.drop p).take 1 := by
  have hl : p < s.data.toList.length := by rw [dlen]; exact h
  rw [byteN_list s p h, Int.toNat_natCast, UInt8.ofNat_toNat, List.drop_eq_getElem_cons hl]
  rfl
/-- What is read as a state is laid as it was. -/
theorem gs_once (s : ByteArray) (h : gsE s = 0) : stS (gsZ s) (gsA s) (gsB s) = s ∧ stR (gsZ s).length (gsA s) (gsB s) = true := by
  have hsz : s.size = 17 + 8 * gsN s := by
    rcases Nat.lt_trichotomy s.size (17 + 8 * gsN s) with h1 | h1 | h1
    · rw [gsE_short h1] at h
      exact absurd h (by decide)
    · exact h1
    · rw [gsE_long h1] at h
      exact absurd h (by decide)
  obtain ⟨e1, e2, _, _, k0⟩ := gs_in s (by omega)
  have hr := gsE_at hsz
  have hR : stR (gsN s) (gsSent s) (gsDice s) = true := by
    cases hc : stR (gsN s) (gsSent s) (gsDice s)
    · rw [hc, h] at hr
      exact absurd hr (by decide)
    · rfl
  have hZ : gsZ s = (List.range (gsN s)).map fun i => unI (rdN s (1 + 8 * i) 8 : Nat) := (if_pos h).trans (by rw [k0]; exact (st_in s 1 false (gsN s) (by omega)).2.2)
  have hA : gsA s = unI (rdN s (1 + 8 * gsN s) 8 : Nat) := (if_pos h).trans e1
  have hB : gsB s = unI (rdN s (9 + 8 * gsN s) 8 : Nat) := (if_pos h).trans e2
  have hl : (gsZ s).length = gsN s := by rw [hZ]; simp
  have hb := byteN_rng s 0
  refine ⟨?_, by rw [hl, show gsA s = gsSent s from if_pos h, show gsB s = gsDice s from if_pos h]; exact hR⟩
  apply ByteArray.ext
  apply Array.toList_inj.1
  rw [stS_data, hl, hZ, liB_once s 1 _ (by omega), hA, hB, i_once_l s _ (by omega), i_once_l s _ (by omega)]
  have h0 : [UInt8.ofNat (gsN s)] = (s.data.toList.drop 0).take 1 := one_once s 0 (by omega)
  rw [h0, List.drop_zero]
  have hlen : s.data.toList.length = 17 + 8 * gsN s := by rw [dlen, hsz]
  have a3 : (s.data.toList.drop (9 + 8 * gsN s)).take 8 = s.data.toList.drop (9 + 8 * gsN s) := List.take_of_length_le (by rw [List.length_drop, hlen]; omega)
  have a2 : (s.data.toList.drop (1 + 8 * gsN s)).take 8 ++ s.data.toList.drop (9 + 8 * gsN s) = s.data.toList.drop (1 + 8 * gsN s) := by
    rw [show s.data.toList.drop (9 + 8 * gsN s) = (s.data.toList.drop (1 + 8 * gsN s)).drop 8 by rw [List.drop_drop]; congr 1; omega, List.take_append_drop]
  have a1 : (s.data.toList.drop 1).take (8 * gsN s) ++ s.data.toList.drop (1 + 8 * gsN s) = s.data.toList.drop 1 := by
    rw [show s.data.toList.drop (1 + 8 * gsN s) = (s.data.toList.drop 1).drop (8 * gsN s) by rw [List.drop_drop], List.take_append_drop]
  rw [a3, a2, a1, List.take_append_drop]
end Go.Proofs.Ytpgbfglfmmohdaa
namespace Go.Proofs.Ytpgbfglfmmohdaa
open Go.RowKit Go.Deep

attribute [local go_sem] run_store_float
theorem Reads.go {w w' : World} {A : Option Addr} {n : Nat} {xs : List Value} (h : Reads w w.heap.size 1 A n xs) (hb : Below w.heap.size w w') : Reads w' w'.heap.size 1 A n xs := (h.below hb).more hb.size
theorem putstate_any (A : Option Addr) (m c : Nat) (zs : List Int) (sent dice : Int) (w : World) (hl : zs.length = m) (hr : Reads w w.heap.size 1 A m (zs.map (Value.int .i64))) :
    Calls Try.prog 73 #[.agg #[.slice A m c, .int .i64 sent, .int .i64 dice]] w fun e w' => e = .returned (.tuple #[.string (stV zs sent dice), .int .i64 (putE (stR m sent dice))]) ∧ Below w.heap.size w w' := by
  cases h : stR m sent dice
  · have e : stV zs sent dice = ⟨#[]⟩ := by unfold stV; rw [hl, h]; rfl
    rw [e]
    exact putstate_bad A m c sent dice w h
  · have e : stV zs sent dice = stS zs sent dice := by unfold stV; rw [hl, h]; rfl
    rw [e]
    exact putstate_ok A m c zs sent dice w h hl hr
set_option maxHeartbeats 8000000 in
theorem states20_walk (A : Option Addr) (m c : Nat) (zs : List Int) (a b : Int) (s : ByteArray) (w : World) (hl : zs.length = m) (hr : Reads w w.heap.size 1 A m (zs.map (Value.int .i64))) (hz : ∀ z ∈ zs, -9223372036854775808 ≤ z ∧ z ≤ 9223372036854775807) (h60 : m ≤ 60) (h3000 : s.size ≤ 3000) :
    Calls Try.prog 20 #[.agg #[.slice A m c, .int .i64 a, .int .i64 b], .string s] w fun e w' => e = .returned (.bool true) ∧ Below w.heap.size w w' := by
  have hb : Below w.heap.size w (w.alloc (.cells #[.slice A m c, .int .i64 a, .int .i64 b] 92)) := (Below.refl _ _).alloc (Nat.le_refl _) _
  have hX := Blk.new w 92 #[.slice A m c, .int .i64 a, .int .i64 b]
  have hrx := hr.go hb
  have KP := hide fun W h => putstate_any A m c zs a b W hl h
  have K1 := hide fun W => getstate_any s W (by omega)
  have K2 := hide fun W => rgetstate_any s W (by omega)
  have hi1 : ¬ (60 : Int) < (m : Int) := by omega
  have hi2 : ¬ (3000 : Int) < (s.size : Int) := by omega
  have HM := hide h60
  have hsz : (gsZ s).length ≤ 9223372036854775807 := by
    unfold gsZ
    split
    · rw [stL_len]
      have := byteN_rng s 0
      unfold gsN
      omega
    · simp
  have HSZ := hide hsz
  have HB := hide (fun h : stR m a b = true => gs_back zs a b hz (by rw [hl]; exact h))
  have HZ := hide (stS_size zs a b)
  have HV : Hid (stV zs a b = if stR m a b then stS zs a b else ⟨#[]⟩) := hide (by unfold stV; rw [hl])
  have HL := hide hl
  clear hr hz h60 h3000 hl hsz
  go_enter Try.func20, Try.ntmps20
  go_upto_region 1 with fail
  generalize w.alloc _ = W0 at *
  have x0 := hX.cell 0
  have x1 := hX.cell 1
  have x2 := hX.cell 2
  simp only [List.getElem?_toArray, List.getElem?_cons_zero, List.getElem?_cons_succ] at x0 x1 x2
  go_wp2_with fail
  clear x0 x1 x2
  refine (KP.out _ hrx).mono ?_
  rintro e w1 ⟨rfl, k1⟩
  replace hX := hX.below k1 hX.lt
  replace hrx := hrx.go k1
  replace hb := below_after hb k1
  clear k1 KP
  go_wp2_with fail
  refine (K1.out _).mono ?_
  rintro e w2 ⟨A1, c1, rfl, hry, k2⟩
  replace hX := hX.below k2 hX.lt
  replace hrx := hrx.go k2
  replace hb := below_after hb k2
  clear k2 K1
  go_wp2_with fail
  have hY := Blk.new w2 92 #[.slice A1 (gsZ s).length c1, .int .i64 (gsA s), .int .i64 (gsB s)]
  have k3 : Below w2.heap.size w2 (w2.alloc (.cells #[.slice A1 (gsZ s).length c1, .int .i64 (gsA s), .int .i64 (gsB s)] 92)) := (Below.refl _ _).alloc (Nat.le_refl _) _
  replace hX := hX.below k3 hX.lt
  replace hrx := hrx.go k3
  replace hry := hry.go k3
  replace hb := below_after hb k3
  clear k3
  generalize w2.alloc (.cells #[.slice A1 (gsZ s).length c1, .int .i64 (gsA s), .int .i64 (gsB s)] 92) = w3 at *
  generalize w2.heap.size = gy at *
  refine (K2.out _).mono ?_
  rintro e w4 ⟨A2, c2, rfl, hrz, k4⟩
  replace hX := hX.below k4 hX.lt
  replace hY := hY.below k4 hY.lt
  replace hrx := hrx.go k4
  replace hry := hry.go k4
  replace hb := below_after hb k4
  clear k4 K2
  go_upto_region 6 with fail
  have hZ := Blk.new w4 92 #[.slice A2 (gsZ s).length c2, .int .i64 (gsA s), .int .i64 (gsB s)]
  have k5 : Below w4.heap.size w4 (w4.alloc (.cells #[.slice A2 (gsZ s).length c2, .int .i64 (gsA s), .int .i64 (gsB s)] 92)) := (Below.refl _ _).alloc (Nat.le_refl _) _
  replace hX := hX.below k5 hX.lt
  replace hY := hY.below k5 hY.lt
  replace hrx := hrx.go k5
  replace hry := hry.go k5
  replace hrz := hrz.go k5
  replace hb := below_after hb k5
  clear k5
  generalize w4.alloc (.cells #[.slice A2 (gsZ s).length c2, .int .i64 (gsA s), .int .i64 (gsB s)] 92) = w5 at *
  generalize w4.heap.size = gz at *
  have y0 := hY.cell 0
  have y1 := hY.cell 1
  have y2 := hY.cell 2
  have z0 := hZ.cell 0
  have z1 := hZ.cell 1
  have z2 := hZ.cell 2
  simp only [List.getElem?_toArray, List.getElem?_cons_zero, List.getElem?_cons_succ] at y0 y1 y2 z0 z1 z2
  go_wp2_with fail
  clear y0 y1 y2 z0 z1 z2 hY hZ
  refine (same08_self A1 A2 _ c1 c2 (gsZ s) (gsA s) (gsB s) _ HSZ.out rfl hry hrz).mono ?_
  rintro e w6 ⟨rfl, k6⟩
  replace hX := hX.below k6 hX.lt
  replace hrx := hrx.go k6
  replace hb := below_after hb k6
  clear k6 hry hrz
  go_wp2_with fail
  refine (awake20 _).mono ?_
  rintro e w7 ⟨rfl, k7⟩
  replace hX := hX.below k7 hX.lt
  replace hrx := hrx.go k7
  replace hb := below_after hb k7
  clear k7
  have x0 := hX.cell 0
  have x1 := hX.cell 1
  have x2 := hX.cell 2
  simp only [List.getElem?_toArray, List.getElem?_cons_zero, List.getElem?_cons_succ] at x0 x1 x2
  go_wp2_with fail
  clear x0 x1 x2
  refine (rightstate_any _ _ _ _ _ _).mono ?_
  rintro e w8 ⟨rfl, k8⟩
  replace hX := hX.below k8 hX.lt
  replace hrx := hrx.go k8
  replace hb := below_after hb k8
  clear k8
  generalize hr : stR m a b = r at *
  cases r
  · rw [show putE false = 2 from rfl, show stV zs a b = ⟨#[]⟩ from HV.out]
    clear hr HB HV
    go_wp2_with fail
    go_ret
    exact ⟨rfl, hb⟩
  · rw [show putE true = 0 from rfl, show stV zs a b = stS zs a b from HV.out]
    obtain ⟨g1, g2, g3, g4⟩ := HB.out rfl
    have K3 := fun W => getstate_any (stS zs a b) W (by rw [HZ.out, HL.out]; have := HM.out; omega)
    rw [g1, g2, g3, g4, HL.out] at K3
    have hm8 := (stR_facts hr).1
    have K4 := hide fun W h => rstate_any A m c zs a b W hm8 HL.out h
    have hm9 : m ≤ 9223372036854775807 := by omega
    have K5 := hide fun A' c' W h h' => same08_self A' A m c' c zs a b W hm9 HL.out h h'
    clear hr HB HV g1 g2 g3 g4 HZ hm8 hm9
    generalize stS zs a b = S at *
    replace K3 := hide K3
    go_wp2_with fail
    refine (K3.out _).mono ?_
    rintro e w9 ⟨A3, c3, rfl, hrw, k9⟩
    replace hX := hX.below k9 hX.lt
    replace hrx := hrx.go k9
    replace hb := below_after hb k9
    clear k9
    go_upto_region 11 with fail
    have hW := Blk.new w9 92 #[.slice A3 m c3, .int .i64 a, .int .i64 b]
    have k10 : Below w9.heap.size w9 (w9.alloc (.cells #[.slice A3 m c3, .int .i64 a, .int .i64 b] 92)) := (Below.refl _ _).alloc (Nat.le_refl _) _
    replace hX := hX.below k10 hX.lt
    replace hrx := hrx.go k10
    replace hrw := hrw.go k10
    replace hb := below_after hb k10
    clear k10
    generalize w9.alloc (.cells #[.slice A3 m c3, .int .i64 a, .int .i64 b] 92) = w10 at *
    generalize w9.heap.size = gw at *
    have x0 := hX.cell 0
    have x1 := hX.cell 1
    have x2 := hX.cell 2
    simp only [List.getElem?_toArray, List.getElem?_cons_zero, List.getElem?_cons_succ] at x0 x1 x2
    go_wp2_with fail
    clear x0 x1 x2
    refine (K4.out _ hrx).mono ?_
    rintro e w11 ⟨rfl, k11⟩
    replace hX := hX.below k11 hX.lt
    replace hW := hW.below k11 hW.lt
    replace hrx := hrx.go k11
    replace hrw := hrw.go k11
    replace hb := below_after hb k11
    clear k11
    have x0 := hX.cell 0
    have x1 := hX.cell 1
    have x2 := hX.cell 2
    have y0 := hW.cell 0
    have y1 := hW.cell 1
    have y2 := hW.cell 2
    simp only [List.getElem?_toArray, List.getElem?_cons_zero, List.getElem?_cons_succ] at x0 x1 x2 y0 y1 y2
    go_wp2_with fail
    refine (K5.out _ _ _ hrw hrx).mono ?_
    rintro e w12 ⟨rfl, k12⟩
    go_wp2_with fail
    go_ret
    exact ⟨rfl, below_after hb k12⟩
theorem states20_all (A : Option Addr) (m c : Nat) (zs : List Int) (a b : Int) (s : ByteArray) (w : World) (hl : zs.length = m) (hr : Reads w w.heap.size 1 A m (zs.map (Value.int .i64))) (hz : ∀ z ∈ zs, -9223372036854775808 ≤ z ∧ z ≤ 9223372036854775807) :
    Calls Try.prog 20 #[.agg #[.slice A m c, .int .i64 a, .int .i64 b], .string s] w fun e w' => e = .returned (.bool true) ∧ Below w.heap.size w w' := by
  by_cases h60 : m ≤ 60
  · by_cases h3 : s.size ≤ 3000
    · exact states20_walk A m c zs a b s w hl hr hz h60 h3
    · have hi1 : ¬ (60 : Int) < (m : Int) := by omega
      have hi2 : (3000 : Int) < (s.size : Int) := by omega
      have hb : Below w.heap.size w (w.alloc (.cells #[.slice A m c, .int .i64 a, .int .i64 b] 92)) := (Below.refl _ _).alloc (Nat.le_refl _) _
      clear hl hr hz h60 h3
      go_enter Try.func20, Try.ntmps20
      go_wp2_with fail
      refine (awake20 _).mono ?_
      rintro e w1 ⟨rfl, h1⟩
      go_wp2
      go_ret
      exact ⟨rfl, below_after hb h1⟩
  · have hi1 : (60 : Int) < (m : Int) := by omega
    have hb : Below w.heap.size w (w.alloc (.cells #[.slice A m c, .int .i64 a, .int .i64 b] 92)) := (Below.refl _ _).alloc (Nat.le_refl _) _
    clear hl hr hz h60
    go_enter Try.func20, Try.ntmps20
    go_wp2_with fail
    refine (awake20 _).mono ?_
    rintro e w1 ⟨rfl, h1⟩
    go_wp2
    go_ret
    exact ⟨rfl, below_after hb h1⟩
end Go.Proofs.Ytpgbfglfmmohdaa
namespace Go.Proofs.Ytpgbfglfmmohdaa
open Go.RowKit Go.Deep

attribute [local go_sem] run_store_float

theorem glue (l : List UInt8) (k a b : Nat) : (l.drop k).take a ++ (l.drop (k + a)).take b = (l.drop k).take (a + b) := by
  rw [List.take_add, List.drop_drop]
theorem us_once_l (s : ByteArray) (k : Nat) (h : k + 8 ≤ s.size) (hb : ¬ badB (rdN s k 8)) : (uS (keyB (normF (unB (rdN s k 8))))).data.toList = (s.data.toList.drop k).take 8 := by
  have hlt := rdN_lt s k 8
  have e := keyB_unB (rdN s k 8) _ (by simpa using hlt) rfl (fun h => hb (.inl h)) (fun h => hb (.inr h))
  rw [e, u_once s k h, ext_list, Nat.add_sub_cancel_left]
theorem raw_facts {s : ByteArray} {k : Nat} (hr : rawR s k = true) : ¬ badB (rdN s k 8) ∧ timeB s k = unB (rdN s k 8) := by
  obtain ⟨hn, _⟩ := right_facts hr
  unfold timeB at hn
  by_cases hb : badB (rdN s k 8)
  · rw [if_pos hb] at hn
    exact absurd nan_nan hn
  · unfold timeB
    exact ⟨hb, if_neg hb⟩
theorem timeB_lt (s : ByteArray) (k : Nat) : timeB s k < 18446744073709551616 := by
  unfold timeB
  split
  · decide
  · exact unB_lt _ (by simpa using rdN_lt s k 8)
theorem raw_once (s : ByteArray) (k : Nat) (h : k + 26 ≤ s.size) (hr : rawR s k = true) :
    (evS (timeB s k) (wrap64 (byteN s (k + 8) - 1)) (unI (rdN s (k + 9) 8 : Nat)) (byteN s (k + 17)) (unI (rdN s (k + 18) 8 : Nat))).data.toList = (s.data.toList.drop k).take 26 := by
  obtain ⟨hb, ht⟩ := raw_facts hr
  have r1 := byteN_rng s (k + 8)
  have hw : wrap64 (byteN s (k + 8) - 1) + 1 = byteN s (k + 8) := by rw [IntWalk.wrap64_in _ (by omega)]; omega
  rw [evS_data, ht, hw, us_once_l s k (by omega) hb, i_once_l s _ (by omega), i_once_l s _ (by omega), one_once s _ (by omega), one_once s _ (by omega)]
  rw [glue, glue, glue, glue]
theorem gevV_shap (s : ByteArray) : ∃ t a b c d, gevV s = .agg #[.float .f64 t, .int .i64 a, .int .i64 b, .int .i64 c, .int .i64 d] := by
  unfold gevV orZ
  split
  · exact ⟨_, _, _, _, _, rfl⟩
  · exact ⟨_, _, _, _, _, rfl⟩
theorem gmV_shap (s : ByteArray) : ∃ t a b c d x, gmV s = .agg #[.float .f64 t, .int .i64 a, .int .i64 b, .int .i64 c, .int .i64 d, .bool x] := by
  unfold gmV orZ
  split
  · exact ⟨_, _, _, _, _, _, rfl⟩
  · exact ⟨_, _, _, _, _, _, rfl⟩
theorem gev_once (s : ByteArray) (h : gevE s = 0) (t : Nat) (a b c d : Int) (hv : gevV s = .agg #[.float .f64 t, .int .i64 a, .int .i64 b, .int .i64 c, .int .i64 d]) : evS t a b c d = s ∧ rightE t a b c = true ∧ t < 18446744073709551616 := by
  have hz : s.size = 26 := by
    rcases Nat.lt_trichotomy s.size 26 with h1 | h1 | h1
    · rw [gevE_short h1] at h
      exact absurd h (by decide)
    · exact h1
    · rw [gevE_long h1] at h
      exact absurd h (by decide)
  obtain ⟨e1, e2⟩ := gev_at hz
  have hr : rawR s 0 = true := by
    cases hc : rawR s 0
    · rw [hc, h] at e1
      exact absurd e1 (by decide)
    · rfl
  rw [e2, hr, if_pos rfl] at hv
  unfold rawA at hv
  simp only [Value.agg.injEq, Array.mk.injEq, List.cons.injEq, Value.float.injEq, Value.int.injEq, true_and, and_true] at hv
  obtain ⟨rfl, rfl, rfl, rfl, rfl⟩ := hv
  refine ⟨?_, hr, timeB_lt s 0⟩
  apply ByteArray.ext
  apply Array.toList_inj.1
  rw [raw_once s 0 (by omega) hr, List.drop_zero]
  exact List.take_of_length_le (by rw [dlen, hz]; exact Nat.le_refl _)
theorem gm_once (s : ByteArray) (h : gmE s = 0) (t : Nat) (a b c d : Int) (x : Bool) (hv : gmV s = .agg #[.float .f64 t, .int .i64 a, .int .i64 b, .int .i64 c, .int .i64 d, .bool x]) : oneS (if x then 1 else 0) ++ evS t a b c d = s ∧ rightE t a b c = true ∧ t < 18446744073709551616 := by
  have hz : s.size = 27 := by
    rcases Nat.lt_trichotomy s.size 27 with h1 | h1 | h1
    · rw [gmE_short h1] at h
      exact absurd h (by decide)
    · exact h1
    · rw [gmE_long h1] at h
      exact absurd h (by decide)
  obtain ⟨e1, e2⟩ := gm_at hz
  have hr : (rawR s 1 && decide (byteN s 0 ≤ 1)) = true := by
    cases hc : (rawR s 1 && decide (byteN s 0 ≤ 1))
    · rw [hc, h] at e1
      exact absurd e1 (by decide)
    · rfl
  rw [e2, hr, if_pos rfl] at hv
  rw [Bool.and_eq_true, decide_eq_true_eq] at hr
  obtain ⟨hr, hb⟩ := hr
  unfold rawA at hv
  simp only [List.push_toArray, List.cons_append, List.nil_append, Value.agg.injEq, Array.mk.injEq, List.cons.injEq, Value.float.injEq, Value.int.injEq, Value.bool.injEq, true_and, and_true] at hv
  obtain ⟨rfl, rfl, rfl, rfl, rfl, rfl⟩ := hv
  refine ⟨?_, hr, timeB_lt s 1⟩
  have r0 := byteN_rng s 0
  have e0 : (if (byteN s 0 == 1) = true then (1 : Int) else 0) = byteN s 0 := by
    by_cases h1 : byteN s 0 = 1
    · rw [h1]; rfl
    · have h2 : byteN s 0 = 0 := by omega
      rw [h2]; rfl
  rw [e0]
  apply ByteArray.ext
  apply Array.toList_inj.1
  have h1 : (oneS (byteN s 0)).data.toList = (s.data.toList.drop 0).take 1 := one_once s 0 (by omega)
  rw [app_data, h1, raw_once s 1 (by omega) hr, glue s.data.toList 0 1 26, List.drop_zero]
  exact List.take_of_length_le (by rw [dlen, hz]; exact Nat.le_refl _)
theorem kept_any (t : Nat) (s n d p : Int) (w : World) : Calls Try.prog 79 #[.agg #[.float .f64 t, .int .i64 s, .int .i64 n, .int .i64 d, .int .i64 p]] w fun e w' => e = .returned (.agg #[.float .f64 (normF t), .int .i64 s, .int .i64 n, .int .i64 d, .int .i64 p]) ∧ Below w.heap.size w w' := by
  have hz : ∀ o, (w.alloc o).heap.size = w.heap.size + 1 := fun o => Array.size_push ..
  have hA := (Blk.new w 70 #[.float .f64 t, .int .i64 s, .int .i64 n, .int .i64 d, .int .i64 p]).alloc (.cells evZ 70)
  have hR := Blk.new (w.alloc (.cells #[.float .f64 t, .int .i64 s, .int .i64 n, .int .i64 d, .int .i64 p] 70)) 70 evZ
  have hb : Below w.heap.size w ((w.alloc (.cells #[.float .f64 t, .int .i64 s, .int .i64 n, .int .i64 d, .int .i64 p] 70)).alloc (.cells evZ 70)) := Below.alloc (Below.alloc (Below.refl _ _) (Nat.le_refl _) _) (by rw [hz]; omega) _
  rw [hz] at hR
  clear hz
  unfold evZ at hA hR hb
  go_enter Try.func79, Try.ntmps79
  go_upto_region 1 with fail
  generalize (w.alloc _).alloc _ = W0 at *
  have a0 := hA.cell 0
  have f0 := hA.frozen 0
  simp only [List.getElem?_toArray, List.getElem?_cons_zero, List.getElem?_cons_succ] at a0
  go_wp2_with fail
  refine (rnorm_any t _).mono ?_
  rintro e w1 ⟨rfl, rfl⟩
  go_upto_region 3 with fail
  replace hA := hA.set_ 0 (.float .f64 (normF t))
  replace hR := hR.far (p := ⟨w.heap.size, 0, none⟩) (by simp only; omega) (.float .f64 (normF t))
  replace hb := hb.setCell (p := ⟨w.heap.size, 0, none⟩) (Nat.le_refl _) (.float .f64 (normF t))
  generalize World.setCell _ _ (.float .f64 (normF t)) = W1 at *
  simp only [List.setIfInBounds_toArray, List.set_cons_zero, List.set_cons_succ] at hA
  clear a0 f0
  have a0 := hA.cell 0
  have a1 := hA.cell 1
  have a2 := hA.cell 2
  have a3 := hA.cell 3
  have a4 := hA.cell 4
  have r0 := hR.cell 0
  have r1 := hR.cell 1
  have r2 := hR.cell 2
  have r3 := hR.cell 3
  have r4 := hR.cell 4
  have f0 := hR.frozen 0
  have f1 := hR.frozen 1
  have f2 := hR.frozen 2
  have f3 := hR.frozen 3
  have f4 := hR.frozen 4
  simp only [List.getElem?_toArray, List.getElem?_cons_zero, List.getElem?_cons_succ] at a0 a1 a2 a3 a4 r0 r1 r2 r3 r4
  go_wp2_with fail
  have hZ := (((((hR.set_ 0 (.float .f64 (normF t))).set_ 1 (.int .i64 s)).set_ 2 (.int .i64 n)).set_ 3 (.int .i64 d)).set_ 4 (.int .i64 p))
  have bZ := (((((hb.setCell (p := ⟨w.heap.size + 1, 0, none⟩) (by simp only; omega) (.float .f64 (normF t))).setCell (p := ⟨w.heap.size + 1, 1, none⟩) (by simp only; omega) (.int .i64 s)).setCell (p := ⟨w.heap.size + 1, 2, none⟩) (by simp only; omega) (.int .i64 n)).setCell (p := ⟨w.heap.size + 1, 3, none⟩) (by simp only; omega) (.int .i64 d)).setCell (p := ⟨w.heap.size + 1, 4, none⟩) (by simp only; omega) (.int .i64 p))
  clear a0 a1 a2 a3 a4 r0 r1 r2 r3 r4 f0 f1 f2 f3 f4 hR hA hb
  generalize (((((W1.setCell ⟨w.heap.size + 1, 0, none⟩ (.float .f64 (normF t))).setCell ⟨w.heap.size + 1, 1, none⟩ (.int .i64 s)).setCell ⟨w.heap.size + 1, 2, none⟩ (.int .i64 n)).setCell ⟨w.heap.size + 1, 3, none⟩ (.int .i64 d)).setCell ⟨w.heap.size + 1, 4, none⟩ (.int .i64 p)) = wZ at *
  have q0 := hZ.cell 0
  have q1 := hZ.cell 1
  have q2 := hZ.cell 2
  have q3 := hZ.cell 3
  have q4 := hZ.cell 4
  simp only [List.setIfInBounds_toArray, List.set_cons_zero, List.set_cons_succ, List.getElem?_toArray, List.getElem?_cons_zero, List.getElem?_cons_succ] at q0 q1 q2 q3 q4
  exact bodyPost_ret (v := .agg #[.float .f64 (normF t), .int .i64 s, .int .i64 n, .int .i64 d, .int .i64 p]) (by simp [results, Try.results79, go_sem, q0, q1, q2, q3, q4]) rfl ⟨rfl, bZ⟩
end Go.Proofs.Ytpgbfglfmmohdaa
namespace Go.Proofs.Ytpgbfglfmmohdaa
open Go.RowKit Go.Deep

attribute [local go_sem] run_store_float
/-- Worlds behind w in which boxes are as they were. -/
theorem BoxC.many (w W : World) (l : List (Nat × TypeId × Array Value)) (hb : Below w.heap.size w W) (h : ∀ b ∈ l, Blk W b.1 b.2.1 b.2.2) : BoxC w l W.drew := ⟨hb.drew, fun b hm => (h b hm).drew⟩
theorem blk_nil (W : World) : ∀ b ∈ ([] : List (Nat × TypeId × Array Value)), Blk W b.1 b.2.1 b.2.2 := fun b h => nomatch h
theorem blk_cons {W : World} {g : Nat} {t : TypeId} {cs : Array Value} {l : List (Nat × TypeId × Array Value)} (h : Blk W g t cs) (hl : ∀ b ∈ l, Blk W b.1 b.2.1 b.2.2) : ∀ b ∈ (g, t, cs) :: l, Blk W b.1 b.2.1 b.2.2 := by
  intro b hm
  rcases List.mem_cons.1 hm with e | e
  · subst e
    exact h
  · exact hl b e
set_option maxHeartbeats 16000000 in
theorem back20_walk (t : Nat) (s n d p : Int) (an : Bool) (f : Int) (S : ByteArray) (w : World) (ht : t < 18446744073709551616) (hp : -9223372036854775808 ≤ p ∧ p ≤ 9223372036854775807) (hf : 0 ≤ f ∧ f ≤ 255) (h200 : S.size ≤ 200) :
    Calls Try.prog 21 #[.agg #[.float .f64 t, .int .i64 s, .int .i64 n, .int .i64 d, .int .i64 p, .bool an, .int .u8 f, .string S]] w fun e w' => e = .returned (.bool true) ∧ Below w.heap.size w w' := by
  have hi2 : ¬ (200 : Int) < (S.size : Int) := by omega
  have hm : S.size ≤ 9223372036854775807 := by omega
  have hX := Blk.new w 101 #[.float .f64 t, .int .i64 s, .int .i64 n, .int .i64 d, .int .i64 p, .bool an, .int .u8 f, .string S]
  have hb : Below w.heap.size w (w.alloc (.cells #[.float .f64 t, .int .i64 s, .int .i64 n, .int .i64 d, .int .i64 p, .bool an, .int .u8 f, .string S] 101)) := (Below.refl _ _).alloc (Nat.le_refl _) _
  have HP := hide hp
  have HT := hide ht
  have HF := hide hf
  have HM := hide hm
  clear hp ht hf hm h200
  go_enter Try.func21, Try.ntmps21
  go_upto_region 1 with fail
  generalize w.alloc _ = W0 at *
  have x0 := hX.cell 0
  have x1 := hX.cell 1
  have x2 := hX.cell 2
  have x3 := hX.cell 3
  have x4 := hX.cell 4
  have x5 := hX.cell 5
  have x6 := hX.cell 6
  have x7 := hX.cell 7
  simp only [List.getElem?_toArray, List.getElem?_cons_zero, List.getElem?_cons_succ] at x0 x1 x2 x3 x4 x5 x6 x7
  have z : ∀ i o, (W0.alloc o).cell? ⟨w.heap.size, i, none⟩ = W0.cell? ⟨w.heap.size, i, none⟩ := fun i o => World.cell?_alloc_lt W0 o _ hX.lt
  go_region
  have hE := (Blk.new W0 70 #[.float .f64 t, .int .i64 s, .int .i64 n, .int .i64 d, .int .i64 p]).drew
  replace hb := (hb.alloc hb.size (.cells #[.float .f64 t, .int .i64 s, .int .i64 n, .int .i64 d, .int .i64 p] 70)).drew
  clear x0 x1 x2 x3 x4 x5 x6 x7 z hX
  generalize (W0.alloc (.cells #[.float .f64 t, .int .i64 s, .int .i64 n, .int .i64 d, .int .i64 p] 70)).drew = w100 at *
  generalize W0.heap.size = ghE at *
  have chE0 := hE.cell 0
  have chE1 := hE.cell 1
  have chE2 := hE.cell 2
  have chE3 := hE.cell 3
  have chE4 := hE.cell 4
  simp only [List.getElem?_toArray, List.getElem?_cons_zero, List.getElem?_cons_succ] at chE0 chE1 chE2 chE3 chE4
  go_wp2_with fail
  clear chE0 chE1 chE2 chE3 chE4
  refine (rright_any _ _ _ _ _ _).mono ?_
  rintro e w101 ⟨rfl, k101⟩
  replace hE := hE.below k101 hE.lt
  replace hb := below_after hb k101
  clear k101
  go_upto_if 45 with fail
  go_cut [] (fun wx => Below w.heap.size w wx)
  case first =>
    as_aux_lemma =>
      cases hr : rightE t s n d
      · as_aux_lemma =>
          go_wp2_with fail
          go_meet
          exact hb
      · as_aux_lemma =>
          have F8 : 0 ≤ f % 8 ∧ f % 8 ≤ 7 := by have := HF.out; omega
          have P1 := fun V => putevent_any t s n d p V HT.out
          have P2 := fun V => putmsg_any t s n d p an V HT.out
          have P3 := fun V => putdone_any t s n d p (f % 8) V HT.out
          have e1 : evV t s n d p = evS t s n d p := if_pos hr
          have e2 : msgV t s n d p an = oneS (if an then 1 else 0) ++ evS t s n d p := if_pos hr
          have e4 : doneB t s n d (f % 8) = true := by unfold doneB; rw [hr, decide_eq_true F8]; rfl
          have e3 : doneV t s n d p (f % 8) = evS t s n d p ++ oneS (f % 8) := if_pos e4
          have e5 : putE true = 0 := rfl
          simp only [e1, e2, e3, e4, hr, e5] at P1 P2 P3
          clear e1 e2 e3 e4 e5
          obtain ⟨g1, g2⟩ := gev_back t s n d p HT.out hr HP.out
          obtain ⟨g3, g4⟩ := gm_back t s n d p an HT.out hr HP.out
          obtain ⟨g5, g6⟩ := gd_back t s n d p (f % 8) HT.out hr HP.out F8.1 F8.2
          have G1 := fun V => getevent_any (evS t s n d p) V (by rw [ev_size]; decide)
          have G2 := fun V => getmsg_any (oneS (if an then 1 else 0) ++ evS t s n d p) V (by rw [ByteArray.size_append, one_size, ev_size]; decide)
          have G3 := fun V => getdone_any (evS t s n d p ++ oneS (f % 8)) V (by rw [ByteArray.size_append, one_size, ev_size]; decide)
          simp only [g1, g2] at G1
          simp only [g3, g4] at G2
          simp only [g5, g6] at G3
          clear g1 g2 g3 g4 g5 g6
          have K0 := fun V => kept_any t s n d p V
          generalize normF t = T at *
          generalize oneS (if an then 1 else 0) ++ evS t s n d p = PM at *
          generalize evS t s n d p ++ oneS (f % 8) = PD at *
          generalize evS t s n d p = PE at *
          clear hr F8
          replace P1 := hide P1
          replace P2 := hide P2
          replace P3 := hide P3
          replace G1 := hide G1
          replace G2 := hide G2
          replace G3 := hide G3
          replace K0 := hide K0
          have chE0 := hE.cell 0
          have chE1 := hE.cell 1
          have chE2 := hE.cell 2
          have chE3 := hE.cell 3
          have chE4 := hE.cell 4
          simp only [List.getElem?_toArray, List.getElem?_cons_zero, List.getElem?_cons_succ] at chE0 chE1 chE2 chE3 chE4
          have hff := HF.out
          go_upto_region 6 with fail
          clear hff chE0 chE1 chE2 chE3 chE4
          have hD := Blk.new w101 79 #[.float .f64 t, .int .i64 s, .int .i64 n, .int .i64 d, .int .i64 p, .int .i64 (f % 8)]
          replace hE := hE.alloc (.cells #[.float .f64 t, .int .i64 s, .int .i64 n, .int .i64 d, .int .i64 p, .int .i64 (f % 8)] 79)
          replace hb := hb.alloc hb.size (.cells #[.float .f64 t, .int .i64 s, .int .i64 n, .int .i64 d, .int .i64 p, .int .i64 (f % 8)] 79)
          generalize w101.alloc (.cells #[.float .f64 t, .int .i64 s, .int .i64 n, .int .i64 d, .int .i64 p, .int .i64 (f % 8)] 79) = w102 at *
          generalize w101.heap.size = ghD at *
          generalize f % 8 = F at *
          have chE0 := hE.cell 0
          have chE1 := hE.cell 1
          have chE2 := hE.cell 2
          have chE3 := hE.cell 3
          have chE4 := hE.cell 4
          simp only [List.getElem?_toArray, List.getElem?_cons_zero, List.getElem?_cons_succ] at chE0 chE1 chE2 chE3 chE4
          go_wp2_with fail
          clear chE0 chE1 chE2 chE3 chE4
          refine (P1.out _).mono ?_
          rintro e w103 ⟨rfl, k103⟩
          replace hE := hE.below k103 hE.lt
          replace hD := hD.below k103 hD.lt
          replace hb := below_after hb k103
          clear k103
          have chE0 := hE.cell 0
          have chE1 := hE.cell 1
          have chE2 := hE.cell 2
          have chE3 := hE.cell 3
          have chE4 := hE.cell 4
          simp only [List.getElem?_toArray, List.getElem?_cons_zero, List.getElem?_cons_succ] at chE0 chE1 chE2 chE3 chE4
          go_wp2_with fail
          clear chE0 chE1 chE2 chE3 chE4
          refine (P2.out _).mono ?_
          rintro e w104 ⟨rfl, k104⟩
          replace hE := hE.below k104 hE.lt
          replace hD := hD.below k104 hD.lt
          replace hb := below_after hb k104
          clear k104
          have chD0 := hD.cell 0
          have chD1 := hD.cell 1
          have chD2 := hD.cell 2
          have chD3 := hD.cell 3
          have chD4 := hD.cell 4
          have chD5 := hD.cell 5
          simp only [List.getElem?_toArray, List.getElem?_cons_zero, List.getElem?_cons_succ] at chD0 chD1 chD2 chD3 chD4 chD5
          go_wp2_with fail
          clear chD0 chD1 chD2 chD3 chD4 chD5
          refine (P3.out _).mono ?_
          rintro e w105 ⟨rfl, k105⟩
          replace hE := hE.below k105 hE.lt
          replace hD := hD.below k105 hD.lt
          replace hb := below_after hb k105
          clear k105
          go_wp2_with fail
          refine (G1.out _).mono ?_
          rintro e w106 ⟨rfl, k106⟩
          replace hE := hE.below k106 hE.lt
          replace hD := hD.below k106 hD.lt
          replace hb := below_after hb k106
          clear k106
          go_wp2_with fail
          have hX := Blk.new w106 70 #[.float .f64 T, .int .i64 s, .int .i64 n, .int .i64 d, .int .i64 p]
          replace hE := hE.alloc (.cells #[.float .f64 T, .int .i64 s, .int .i64 n, .int .i64 d, .int .i64 p] 70)
          replace hD := hD.alloc (.cells #[.float .f64 T, .int .i64 s, .int .i64 n, .int .i64 d, .int .i64 p] 70)
          replace hb := hb.alloc hb.size (.cells #[.float .f64 T, .int .i64 s, .int .i64 n, .int .i64 d, .int .i64 p] 70)
          generalize w106.alloc (.cells #[.float .f64 T, .int .i64 s, .int .i64 n, .int .i64 d, .int .i64 p] 70) = w107 at *
          generalize w106.heap.size = ghX at *
          refine (G2.out _).mono ?_
          rintro e w108 ⟨rfl, k108⟩
          replace hE := hE.below k108 hE.lt
          replace hD := hD.below k108 hD.lt
          replace hX := hX.below k108 hX.lt
          replace hb := below_after hb k108
          clear k108
          go_wp2_with fail
          have hY := Blk.new w108 76 #[.float .f64 T, .int .i64 s, .int .i64 n, .int .i64 d, .int .i64 p, .bool an]
          replace hE := hE.alloc (.cells #[.float .f64 T, .int .i64 s, .int .i64 n, .int .i64 d, .int .i64 p, .bool an] 76)
          replace hD := hD.alloc (.cells #[.float .f64 T, .int .i64 s, .int .i64 n, .int .i64 d, .int .i64 p, .bool an] 76)
          replace hX := hX.alloc (.cells #[.float .f64 T, .int .i64 s, .int .i64 n, .int .i64 d, .int .i64 p, .bool an] 76)
          replace hb := hb.alloc hb.size (.cells #[.float .f64 T, .int .i64 s, .int .i64 n, .int .i64 d, .int .i64 p, .bool an] 76)
          generalize w108.alloc (.cells #[.float .f64 T, .int .i64 s, .int .i64 n, .int .i64 d, .int .i64 p, .bool an] 76) = w109 at *
          generalize w108.heap.size = ghY at *
          refine (G3.out _).mono ?_
          rintro e w110 ⟨rfl, k110⟩
          replace hE := hE.below k110 hE.lt
          replace hD := hD.below k110 hD.lt
          replace hX := hX.below k110 hX.lt
          replace hY := hY.below k110 hY.lt
          replace hb := below_after hb k110
          clear k110
          go_upto_region 12 with fail
          have hZ := Blk.new w110 79 #[.float .f64 T, .int .i64 s, .int .i64 n, .int .i64 d, .int .i64 p, .int .i64 F]
          replace hE := hE.alloc (.cells #[.float .f64 T, .int .i64 s, .int .i64 n, .int .i64 d, .int .i64 p, .int .i64 F] 79)
          replace hD := hD.alloc (.cells #[.float .f64 T, .int .i64 s, .int .i64 n, .int .i64 d, .int .i64 p, .int .i64 F] 79)
          replace hX := hX.alloc (.cells #[.float .f64 T, .int .i64 s, .int .i64 n, .int .i64 d, .int .i64 p, .int .i64 F] 79)
          replace hY := hY.alloc (.cells #[.float .f64 T, .int .i64 s, .int .i64 n, .int .i64 d, .int .i64 p, .int .i64 F] 79)
          replace hb := hb.alloc hb.size (.cells #[.float .f64 T, .int .i64 s, .int .i64 n, .int .i64 d, .int .i64 p, .int .i64 F] 79)
          generalize w110.alloc (.cells #[.float .f64 T, .int .i64 s, .int .i64 n, .int .i64 d, .int .i64 p, .int .i64 F] 79) = w111 at *
          generalize w110.heap.size = ghZ at *
          clear P1 P2 P3 G1 G2 G3
          obtain ⟨P, hO, h0, hne, hI⟩ := BoxC.hidden _ _ _ (BoxC.many w _ _ hb (blk_cons hE (blk_cons hD (blk_cons hX (blk_cons hY (blk_cons hZ (blk_nil _)))))))
          have qhE : ∀ i : Wo P, Blk i.W ghE 70 #[.float .f64 t, .int .i64 s, .int .i64 n, .int .i64 d, .int .i64 p] := fun i => (hI i).2 (ghE, 70, #[.float .f64 t, .int .i64 s, .int .i64 n, .int .i64 d, .int .i64 p]) (by simp)
          have qhD : ∀ i : Wo P, Blk i.W ghD 79 #[.float .f64 t, .int .i64 s, .int .i64 n, .int .i64 d, .int .i64 p, .int .i64 F] := fun i => (hI i).2 (ghD, 79, #[.float .f64 t, .int .i64 s, .int .i64 n, .int .i64 d, .int .i64 p, .int .i64 F]) (by simp)
          have qhX : ∀ i : Wo P, Blk i.W ghX 70 #[.float .f64 T, .int .i64 s, .int .i64 n, .int .i64 d, .int .i64 p] := fun i => (hI i).2 (ghX, 70, #[.float .f64 T, .int .i64 s, .int .i64 n, .int .i64 d, .int .i64 p]) (by simp)
          have qhY : ∀ i : Wo P, Blk i.W ghY 76 #[.float .f64 T, .int .i64 s, .int .i64 n, .int .i64 d, .int .i64 p, .bool an] := fun i => (hI i).2 (ghY, 76, #[.float .f64 T, .int .i64 s, .int .i64 n, .int .i64 d, .int .i64 p, .bool an]) (by simp)
          have qhZ : ∀ i : Wo P, Blk i.W ghZ 79 #[.float .f64 T, .int .i64 s, .int .i64 n, .int .i64 d, .int .i64 p, .int .i64 F] := fun i => (hI i).2 (ghZ, 79, #[.float .f64 T, .int .i64 s, .int .i64 n, .int .i64 d, .int .i64 p, .int .i64 F]) (by simp)
          have chE0 := fun i => (qhE i).cell 0
          have chE1 := fun i => (qhE i).cell 1
          have chE2 := fun i => (qhE i).cell 2
          have chE3 := fun i => (qhE i).cell 3
          have chE4 := fun i => (qhE i).cell 4
          have chD0 := fun i => (qhD i).cell 0
          have chD1 := fun i => (qhD i).cell 1
          have chD2 := fun i => (qhD i).cell 2
          have chD3 := fun i => (qhD i).cell 3
          have chD4 := fun i => (qhD i).cell 4
          have chD5 := fun i => (qhD i).cell 5
          have chX0 := fun i => (qhX i).cell 0
          have chX1 := fun i => (qhX i).cell 1
          have chX2 := fun i => (qhX i).cell 2
          have chX3 := fun i => (qhX i).cell 3
          have chX4 := fun i => (qhX i).cell 4
          have chY0 := fun i => (qhY i).cell 0
          have chY1 := fun i => (qhY i).cell 1
          have chY2 := fun i => (qhY i).cell 2
          have chY3 := fun i => (qhY i).cell 3
          have chY4 := fun i => (qhY i).cell 4
          have chY5 := fun i => (qhY i).cell 5
          have chZ0 := fun i => (qhZ i).cell 0
          have chZ1 := fun i => (qhZ i).cell 1
          have chZ2 := fun i => (qhZ i).cell 2
          have chZ3 := fun i => (qhZ i).cell 3
          have chZ4 := fun i => (qhZ i).cell 4
          have chZ5 := fun i => (qhZ i).cell 5
          have HI := hide hI
          have HO := hide hO
          have H0 := hide h0
          clear hO h0 hI hb qhE qhD qhX qhY qhZ hE hD hX hY hZ
          refine wp_region_quietC (by kernel_rfl) (by kernel_rfl) H0.out ?_
          repeat (go_big_quiet_step (first
            | (go_at_call 79; exact Calls.quietC HO.out (K0.out _))
            | (go_at_call 70; exact Calls.quietC HO.out (same20_self _ _ _ _ _ _))))
          refine wpQuiet_nil ?_
          intro _ hw'
          obtain ⟨iw, rfl⟩ := hw'
          go_wp2_with fail
          go_meet
          exact (HI.out iw).1
  case rest =>
    as_aux_lemma =>
      clear hb
      have hb := hcut
      clear hcut
      clear hE hi2
      have G1 := fun V => getevent_any S V HM.out
      obtain ⟨t1, a1, b1, c1, d1, V1⟩ := gevV_shap S
      have O1 : gevE S = 0 → evS t1 a1 b1 c1 d1 = S ∧ rightE t1 a1 b1 c1 = true ∧ t1 < 18446744073709551616 := fun h => gev_once S h t1 a1 b1 c1 d1 V1
      simp only [V1] at G1
      clear V1
      generalize gevE S = E1 at *
      replace G1 := hide G1
      replace O1 := hide O1
      go_wp2_with fail
      refine (G1.out _).mono ?_
      rintro e w201 ⟨rfl, k201⟩
      replace hb := below_after hb k201
      clear k201
      clear G1
      go_upto_if 135 with fail
      have hX := Blk.new w201 70 #[.float .f64 t1, .int .i64 a1, .int .i64 b1, .int .i64 c1, .int .i64 d1]
      replace hb := hb.alloc hb.size (.cells #[.float .f64 t1, .int .i64 a1, .int .i64 b1, .int .i64 c1, .int .i64 d1] 70)
      generalize w201.alloc (.cells #[.float .f64 t1, .int .i64 a1, .int .i64 b1, .int .i64 c1, .int .i64 d1] 70) = w202 at *
      generalize w201.heap.size = ghX at *
      by_cases hE : E1 = 0
      · as_aux_lemma =>
          obtain ⟨o1, o2, o3⟩ := O1.out hE
          have P1 := fun V => putevent_any t1 a1 b1 c1 d1 V o3
          have e1 : evV t1 a1 b1 c1 d1 = S := (if_pos o2).trans o1
          simp only [e1, o2, show putE true = 0 from rfl] at P1
          replace P1 := hide P1
          subst hE
          clear o1 o2 o3 e1 O1
          have chX0 := hX.cell 0
          have chX1 := hX.cell 1
          have chX2 := hX.cell 2
          have chX3 := hX.cell 3
          have chX4 := hX.cell 4
          simp only [List.getElem?_toArray, List.getElem?_cons_zero, List.getElem?_cons_succ] at chX0 chX1 chX2 chX3 chX4
          go_wp2_with fail
          clear chX0 chX1 chX2 chX3 chX4
          refine (P1.out _).mono ?_
          rintro e w301 ⟨rfl, k301⟩
          replace hX := hX.below k301 hX.lt
          replace hb := below_after hb k301
          clear k301
          clear hX P1
          have G1 := fun V => getstate_any S V HM.out
          have O1 := gs_once S
          generalize gsZ S = Z at *
          generalize gsA S = a1 at *
          generalize gsB S = b1 at *
          generalize gsE S = E1 at *
          replace G1 := hide G1
          replace O1 := hide O1
          go_wp2_with fail
          refine (G1.out _).mono ?_
          rintro e w401 ⟨A1, c1, rfl, hry, k401⟩
          replace hb := below_after hb k401
          clear k401
          clear G1
          go_upto_if 154 with fail
          have hX := Blk.new w401 92 #[.slice A1 Z.length c1, .int .i64 a1, .int .i64 b1]
          have k2 : Below w401.heap.size w401 (w401.alloc (.cells #[.slice A1 Z.length c1, .int .i64 a1, .int .i64 b1] 92)) := (Below.refl _ _).alloc (Nat.le_refl _) _
          replace hry := hry.go k2
          replace hb := below_after hb k2
          clear k2
          generalize w401.alloc (.cells #[.slice A1 Z.length c1, .int .i64 a1, .int .i64 b1] 92) = w402 at *
          generalize w401.heap.size = ghX at *
          by_cases hE : E1 = 0
          · as_aux_lemma =>
              obtain ⟨o1, o2⟩ := O1.out hE
              have P1 := putstate_any A1 _ c1 Z a1 b1 w402 rfl hry
              have e1 : stV Z a1 b1 = S := (if_pos o2).trans o1
              rw [e1, o2, show putE true = 0 from rfl] at P1
              replace P1 := hide P1
              subst hE
              clear o1 o2 e1 O1
              have x0 := hX.cell 0
              have x1 := hX.cell 1
              have x2 := hX.cell 2
              simp only [List.getElem?_toArray, List.getElem?_cons_zero, List.getElem?_cons_succ] at x0 x1 x2
              go_wp2_with fail
              refine P1.out.mono ?_
              rintro e w403 ⟨rfl, k3⟩
              replace hb := below_after hb k3
              clear k3 x0 x1 x2 hX hry P1
              have G1 := fun V => getmsg_any S V HM.out
              obtain ⟨t1, a2, b2, c2, d2, x2, V1⟩ := gmV_shap S
              have O1 : gmE S = 0 → oneS (if x2 then 1 else 0) ++ evS t1 a2 b2 c2 d2 = S ∧ rightE t1 a2 b2 c2 = true ∧ t1 < 18446744073709551616 := fun h => gm_once S h t1 a2 b2 c2 d2 x2 V1
              simp only [V1] at G1
              clear V1
              generalize gmE S = E2 at *
              replace G1 := hide G1
              replace O1 := hide O1
              go_wp2_with fail
              refine (G1.out _).mono ?_
              rintro e w501 ⟨rfl, k501⟩
              replace hb := below_after hb k501
              clear k501
              clear G1
              go_upto_if 173 with fail
              have hX := Blk.new w501 76 #[.float .f64 t1, .int .i64 a2, .int .i64 b2, .int .i64 c2, .int .i64 d2, .bool x2]
              replace hb := hb.alloc hb.size (.cells #[.float .f64 t1, .int .i64 a2, .int .i64 b2, .int .i64 c2, .int .i64 d2, .bool x2] 76)
              generalize w501.alloc (.cells #[.float .f64 t1, .int .i64 a2, .int .i64 b2, .int .i64 c2, .int .i64 d2, .bool x2] 76) = w502 at *
              generalize w501.heap.size = ghX at *
              by_cases hE : E2 = 0
              · as_aux_lemma =>
                  obtain ⟨o1, o2, o3⟩ := O1.out hE
                  have P1 := fun V => putmsg_any t1 a2 b2 c2 d2 x2 V o3
                  have e1 : msgV t1 a2 b2 c2 d2 x2 = S := (if_pos o2).trans o1
                  simp only [e1, o2, show putE true = 0 from rfl] at P1
                  replace P1 := hide P1
                  subst hE
                  clear o1 o2 o3 e1 O1
                  have chX0 := hX.cell 0
                  have chX1 := hX.cell 1
                  have chX2 := hX.cell 2
                  have chX3 := hX.cell 3
                  have chX4 := hX.cell 4
                  have chX5 := hX.cell 5
                  simp only [List.getElem?_toArray, List.getElem?_cons_zero, List.getElem?_cons_succ] at chX0 chX1 chX2 chX3 chX4 chX5
                  go_wp2_with fail
                  clear chX0 chX1 chX2 chX3 chX4 chX5
                  refine (P1.out _).mono ?_
                  rintro e w601 ⟨rfl, k601⟩
                  replace hX := hX.below k601 hX.lt
                  replace hb := below_after hb k601
                  clear k601
                  go_wp2_with fail
                  refine (awake20 _).mono ?_
                  rintro e w602 ⟨rfl, k602⟩
                  replace hX := hX.below k602 hX.lt
                  replace hb := below_after hb k602
                  clear k602
                  go_wp2_with fail
                  go_ret
                  exact ⟨rfl, hb⟩
              · as_aux_lemma =>
                  have hEb : (E2 != 0) = true := by rw [bne_iff_ne]; exact hE
                  clear O1 hE hX
                  rw [hEb]
                  clear hEb
                  go_wp2_with fail
                  refine (awake20 _).mono ?_
                  rintro e w601 ⟨rfl, k1⟩
                  go_wp2_with fail
                  go_ret
                  exact ⟨rfl, below_after hb k1⟩
          · as_aux_lemma =>
              have hEb : (E1 == 0) = false := by rw [beq_eq_false_iff_ne]; exact hE
              clear O1 hE hX hry
              rw [hEb]
              clear hEb
              go_step
              go_step
              have G1 := fun V => getmsg_any S V HM.out
              obtain ⟨t1, a2, b2, c2, d2, x2, V1⟩ := gmV_shap S
              have O1 : gmE S = 0 → oneS (if x2 then 1 else 0) ++ evS t1 a2 b2 c2 d2 = S ∧ rightE t1 a2 b2 c2 = true ∧ t1 < 18446744073709551616 := fun h => gm_once S h t1 a2 b2 c2 d2 x2 V1
              simp only [V1] at G1
              clear V1
              generalize gmE S = E2 at *
              replace G1 := hide G1
              replace O1 := hide O1
              go_wp2_with fail
              refine (G1.out _).mono ?_
              rintro e w501 ⟨rfl, k501⟩
              replace hb := below_after hb k501
              clear k501
              clear G1
              go_upto_if 173 with fail
              have hX := Blk.new w501 76 #[.float .f64 t1, .int .i64 a2, .int .i64 b2, .int .i64 c2, .int .i64 d2, .bool x2]
              replace hb := hb.alloc hb.size (.cells #[.float .f64 t1, .int .i64 a2, .int .i64 b2, .int .i64 c2, .int .i64 d2, .bool x2] 76)
              generalize w501.alloc (.cells #[.float .f64 t1, .int .i64 a2, .int .i64 b2, .int .i64 c2, .int .i64 d2, .bool x2] 76) = w502 at *
              generalize w501.heap.size = ghX at *
              by_cases hE : E2 = 0
              · as_aux_lemma =>
                  obtain ⟨o1, o2, o3⟩ := O1.out hE
                  have P1 := fun V => putmsg_any t1 a2 b2 c2 d2 x2 V o3
                  have e1 : msgV t1 a2 b2 c2 d2 x2 = S := (if_pos o2).trans o1
                  simp only [e1, o2, show putE true = 0 from rfl] at P1
                  replace P1 := hide P1
                  subst hE
                  clear o1 o2 o3 e1 O1
                  have chX0 := hX.cell 0
                  have chX1 := hX.cell 1
                  have chX2 := hX.cell 2
                  have chX3 := hX.cell 3
                  have chX4 := hX.cell 4
                  have chX5 := hX.cell 5
                  simp only [List.getElem?_toArray, List.getElem?_cons_zero, List.getElem?_cons_succ] at chX0 chX1 chX2 chX3 chX4 chX5
                  go_wp2_with fail
                  clear chX0 chX1 chX2 chX3 chX4 chX5
                  refine (P1.out _).mono ?_
                  rintro e w601 ⟨rfl, k601⟩
                  replace hX := hX.below k601 hX.lt
                  replace hb := below_after hb k601
                  clear k601
                  go_wp2_with fail
                  refine (awake20 _).mono ?_
                  rintro e w602 ⟨rfl, k602⟩
                  replace hX := hX.below k602 hX.lt
                  replace hb := below_after hb k602
                  clear k602
                  go_wp2_with fail
                  go_ret
                  exact ⟨rfl, hb⟩
              · as_aux_lemma =>
                  have hEb : (E2 != 0) = true := by rw [bne_iff_ne]; exact hE
                  clear O1 hE hX
                  rw [hEb]
                  clear hEb
                  go_wp2_with fail
                  refine (awake20 _).mono ?_
                  rintro e w601 ⟨rfl, k1⟩
                  go_wp2_with fail
                  go_ret
                  exact ⟨rfl, below_after hb k1⟩
      · as_aux_lemma =>
          have hEb : (E1 == 0) = false := by rw [beq_eq_false_iff_ne]; exact hE
          clear O1 hE hX
          rw [hEb]
          clear hEb
          go_step
          go_step
          have G1 := fun V => getstate_any S V HM.out
          have O1 := gs_once S
          generalize gsZ S = Z at *
          generalize gsA S = a1 at *
          generalize gsB S = b1 at *
          generalize gsE S = E1 at *
          replace G1 := hide G1
          replace O1 := hide O1
          go_wp2_with fail
          refine (G1.out _).mono ?_
          rintro e w401 ⟨A1, c1, rfl, hry, k401⟩
          replace hb := below_after hb k401
          clear k401
          clear G1
          go_upto_if 154 with fail
          have hX := Blk.new w401 92 #[.slice A1 Z.length c1, .int .i64 a1, .int .i64 b1]
          have k2 : Below w401.heap.size w401 (w401.alloc (.cells #[.slice A1 Z.length c1, .int .i64 a1, .int .i64 b1] 92)) := (Below.refl _ _).alloc (Nat.le_refl _) _
          replace hry := hry.go k2
          replace hb := below_after hb k2
          clear k2
          generalize w401.alloc (.cells #[.slice A1 Z.length c1, .int .i64 a1, .int .i64 b1] 92) = w402 at *
          generalize w401.heap.size = ghX at *
          by_cases hE : E1 = 0
          · as_aux_lemma =>
              obtain ⟨o1, o2⟩ := O1.out hE
              have P1 := putstate_any A1 _ c1 Z a1 b1 w402 rfl hry
              have e1 : stV Z a1 b1 = S := (if_pos o2).trans o1
              rw [e1, o2, show putE true = 0 from rfl] at P1
              replace P1 := hide P1
              subst hE
              clear o1 o2 e1 O1
              have x0 := hX.cell 0
              have x1 := hX.cell 1
              have x2 := hX.cell 2
              simp only [List.getElem?_toArray, List.getElem?_cons_zero, List.getElem?_cons_succ] at x0 x1 x2
              go_wp2_with fail
              refine P1.out.mono ?_
              rintro e w403 ⟨rfl, k3⟩
              replace hb := below_after hb k3
              clear k3 x0 x1 x2 hX hry P1
              have G1 := fun V => getmsg_any S V HM.out
              obtain ⟨t1, a2, b2, c2, d2, x2, V1⟩ := gmV_shap S
              have O1 : gmE S = 0 → oneS (if x2 then 1 else 0) ++ evS t1 a2 b2 c2 d2 = S ∧ rightE t1 a2 b2 c2 = true ∧ t1 < 18446744073709551616 := fun h => gm_once S h t1 a2 b2 c2 d2 x2 V1
              simp only [V1] at G1
              clear V1
              generalize gmE S = E2 at *
              replace G1 := hide G1
              replace O1 := hide O1
              go_wp2_with fail
              refine (G1.out _).mono ?_
              rintro e w501 ⟨rfl, k501⟩
              replace hb := below_after hb k501
              clear k501
              clear G1
              go_upto_if 173 with fail
              have hX := Blk.new w501 76 #[.float .f64 t1, .int .i64 a2, .int .i64 b2, .int .i64 c2, .int .i64 d2, .bool x2]
              replace hb := hb.alloc hb.size (.cells #[.float .f64 t1, .int .i64 a2, .int .i64 b2, .int .i64 c2, .int .i64 d2, .bool x2] 76)
              generalize w501.alloc (.cells #[.float .f64 t1, .int .i64 a2, .int .i64 b2, .int .i64 c2, .int .i64 d2, .bool x2] 76) = w502 at *
              generalize w501.heap.size = ghX at *
              by_cases hE : E2 = 0
              · as_aux_lemma =>
                  obtain ⟨o1, o2, o3⟩ := O1.out hE
                  have P1 := fun V => putmsg_any t1 a2 b2 c2 d2 x2 V o3
                  have e1 : msgV t1 a2 b2 c2 d2 x2 = S := (if_pos o2).trans o1
                  simp only [e1, o2, show putE true = 0 from rfl] at P1
                  replace P1 := hide P1
                  subst hE
                  clear o1 o2 o3 e1 O1
                  have chX0 := hX.cell 0
                  have chX1 := hX.cell 1
                  have chX2 := hX.cell 2
                  have chX3 := hX.cell 3
                  have chX4 := hX.cell 4
                  have chX5 := hX.cell 5
                  simp only [List.getElem?_toArray, List.getElem?_cons_zero, List.getElem?_cons_succ] at chX0 chX1 chX2 chX3 chX4 chX5
                  go_wp2_with fail
                  clear chX0 chX1 chX2 chX3 chX4 chX5
                  refine (P1.out _).mono ?_
                  rintro e w601 ⟨rfl, k601⟩
                  replace hX := hX.below k601 hX.lt
                  replace hb := below_after hb k601
                  clear k601
                  go_wp2_with fail
                  refine (awake20 _).mono ?_
                  rintro e w602 ⟨rfl, k602⟩
                  replace hX := hX.below k602 hX.lt
                  replace hb := below_after hb k602
                  clear k602
                  go_wp2_with fail
                  go_ret
                  exact ⟨rfl, hb⟩
              · as_aux_lemma =>
                  have hEb : (E2 != 0) = true := by rw [bne_iff_ne]; exact hE
                  clear O1 hE hX
                  rw [hEb]
                  clear hEb
                  go_wp2_with fail
                  refine (awake20 _).mono ?_
                  rintro e w601 ⟨rfl, k1⟩
                  go_wp2_with fail
                  go_ret
                  exact ⟨rfl, below_after hb k1⟩
          · as_aux_lemma =>
              have hEb : (E1 == 0) = false := by rw [beq_eq_false_iff_ne]; exact hE
              clear O1 hE hX hry
              rw [hEb]
              clear hEb
              go_step
              go_step
              have G1 := fun V => getmsg_any S V HM.out
              obtain ⟨t1, a2, b2, c2, d2, x2, V1⟩ := gmV_shap S
              have O1 : gmE S = 0 → oneS (if x2 then 1 else 0) ++ evS t1 a2 b2 c2 d2 = S ∧ rightE t1 a2 b2 c2 = true ∧ t1 < 18446744073709551616 := fun h => gm_once S h t1 a2 b2 c2 d2 x2 V1
              simp only [V1] at G1
              clear V1
              generalize gmE S = E2 at *
              replace G1 := hide G1
              replace O1 := hide O1
              go_wp2_with fail
              refine (G1.out _).mono ?_
              rintro e w501 ⟨rfl, k501⟩
              replace hb := below_after hb k501
              clear k501
              clear G1
              go_upto_if 173 with fail
              have hX := Blk.new w501 76 #[.float .f64 t1, .int .i64 a2, .int .i64 b2, .int .i64 c2, .int .i64 d2, .bool x2]
              replace hb := hb.alloc hb.size (.cells #[.float .f64 t1, .int .i64 a2, .int .i64 b2, .int .i64 c2, .int .i64 d2, .bool x2] 76)
              generalize w501.alloc (.cells #[.float .f64 t1, .int .i64 a2, .int .i64 b2, .int .i64 c2, .int .i64 d2, .bool x2] 76) = w502 at *
              generalize w501.heap.size = ghX at *
              by_cases hE : E2 = 0
              · as_aux_lemma =>
                  obtain ⟨o1, o2, o3⟩ := O1.out hE
                  have P1 := fun V => putmsg_any t1 a2 b2 c2 d2 x2 V o3
                  have e1 : msgV t1 a2 b2 c2 d2 x2 = S := (if_pos o2).trans o1
                  simp only [e1, o2, show putE true = 0 from rfl] at P1
                  replace P1 := hide P1
                  subst hE
                  clear o1 o2 o3 e1 O1
                  have chX0 := hX.cell 0
                  have chX1 := hX.cell 1
                  have chX2 := hX.cell 2
                  have chX3 := hX.cell 3
                  have chX4 := hX.cell 4
                  have chX5 := hX.cell 5
                  simp only [List.getElem?_toArray, List.getElem?_cons_zero, List.getElem?_cons_succ] at chX0 chX1 chX2 chX3 chX4 chX5
                  go_wp2_with fail
                  clear chX0 chX1 chX2 chX3 chX4 chX5
                  refine (P1.out _).mono ?_
                  rintro e w601 ⟨rfl, k601⟩
                  replace hX := hX.below k601 hX.lt
                  replace hb := below_after hb k601
                  clear k601
                  go_wp2_with fail
                  refine (awake20 _).mono ?_
                  rintro e w602 ⟨rfl, k602⟩
                  replace hX := hX.below k602 hX.lt
                  replace hb := below_after hb k602
                  clear k602
                  go_wp2_with fail
                  go_ret
                  exact ⟨rfl, hb⟩
              · as_aux_lemma =>
                  have hEb : (E2 != 0) = true := by rw [bne_iff_ne]; exact hE
                  clear O1 hE hX
                  rw [hEb]
                  clear hEb
                  go_wp2_with fail
                  refine (awake20 _).mono ?_
                  rintro e w601 ⟨rfl, k1⟩
                  go_wp2_with fail
                  go_ret
                  exact ⟨rfl, below_after hb k1⟩
theorem back20_all (t : Nat) (s n d p : Int) (an : Bool) (f : Int) (S : ByteArray) (w : World) (ht : t < 18446744073709551616) (hp : -9223372036854775808 ≤ p ∧ p ≤ 9223372036854775807) (hf : 0 ≤ f ∧ f ≤ 255) :
    Calls Try.prog 21 #[.agg #[.float .f64 t, .int .i64 s, .int .i64 n, .int .i64 d, .int .i64 p, .bool an, .int .u8 f, .string S]] w fun e w' => e = .returned (.bool true) ∧ Below w.heap.size w w' := by
  by_cases h200 : S.size ≤ 200
  · exact back20_walk t s n d p an f S w ht hp hf h200
  · have hi2 : (200 : Int) < (S.size : Int) := by omega
    have hX := Blk.new w 101 #[.float .f64 t, .int .i64 s, .int .i64 n, .int .i64 d, .int .i64 p, .bool an, .int .u8 f, .string S]
    have hb : Below w.heap.size w (w.alloc (.cells #[.float .f64 t, .int .i64 s, .int .i64 n, .int .i64 d, .int .i64 p, .bool an, .int .u8 f, .string S] 101)) := (Below.refl _ _).alloc (Nat.le_refl _) _
    clear hp ht hf h200
    go_enter Try.func21, Try.ntmps21
    go_upto_region 1 with fail
    generalize w.alloc _ = W0 at *
    have x0 := hX.cell 0
    have x1 := hX.cell 1
    have x2 := hX.cell 2
    have x3 := hX.cell 3
    have x4 := hX.cell 4
    have x5 := hX.cell 5
    have x6 := hX.cell 6
    have x7 := hX.cell 7
    simp only [List.getElem?_toArray, List.getElem?_cons_zero, List.getElem?_cons_succ] at x0 x1 x2 x3 x4 x5 x6 x7
    have z : ∀ i o, (W0.alloc o).cell? ⟨w.heap.size, i, none⟩ = W0.cell? ⟨w.heap.size, i, none⟩ := fun i o => World.cell?_alloc_lt W0 o _ hX.lt
    go_region
    replace hb := (hb.alloc hb.size (.cells #[.float .f64 t, .int .i64 s, .int .i64 n, .int .i64 d, .int .i64 p] 70)).drew
    clear x0 x1 x2 x3 x4 x5 x6 x7 z hX
    generalize (W0.alloc (.cells #[.float .f64 t, .int .i64 s, .int .i64 n, .int .i64 d, .int .i64 p] 70)).drew = w100 at *
    go_wp2_with fail
    refine (awake20 _).mono ?_
    rintro e w1 ⟨rfl, h1⟩
    go_wp2_with fail
    go_ret
    exact ⟨rfl, below_after hb h1⟩
end Go.Proofs.Ytpgbfglfmmohdaa
