/- More laws of pack: what stands at any place of any bytes; lesser numbers have lesser bytes. No condition but sizes that any memory has. -/
import Derived.Test.YtpgbfglfmmohdaaLaw01
import Derived.Test.YtpgbfglfmmohdaaPackPl3
import Derived.WalkLawsBesides
set_option linter.unusedVariables false
set_option maxRecDepth 20000
namespace Go.Proofs.Ytpgbfglfmmohdaa
open Go.RowKit Go.Deep

theorem reads_walk (s : ByteArray) (p : Int) (w : World) (hs : s.size ≤ 9223372036854775807) :
    Calls Try.prog 10 #[.string s, .int .i64 p] w fun e w' => e = .returned (.bool true) ∧ Below w.heap.size w w' := by
  go_enter Try.func10, Try.ntmps10
  go_wp2_with fail
  refine (readu_all _ _ _ hs).mono ?_
  rintro e w' ⟨rfl, rfl⟩
  go_wp2_with fail
  refine (rreadu_all _ _ _ hs).mono ?_
  rintro e w' ⟨rfl, rfl⟩
  go_wp2_with fail
  refine (awake01 _).mono ?_
  rintro e w1 ⟨rfl, hb1⟩
  go_wp2_with fail
  refine (readi_all _ _ _ hs).mono ?_
  rintro e w' ⟨rfl, rfl⟩
  go_wp2_with fail
  refine (rreadi_all _ _ _ hs).mono ?_
  rintro e w' ⟨rfl, rfl⟩
  go_wp2_with fail
  refine (readtext_all _ _ _ hs).mono ?_
  rintro e w' ⟨rfl, rfl⟩
  go_wp2_with fail
  refine (rreadtext_all _ _ _ hs).mono ?_
  rintro e w' ⟨rfl, k, rfl⟩
  go_wp2_with fail
  refine (readlist_all _ _ _ hs).mono ?_
  rintro e w2 ⟨v2, rfl, ho2, hb2⟩
  go_wp2_with fail
  refine (rreadlist_all _ _ _ hs).mono ?_
  rintro e w3 ⟨v3, rfl, ho3, hb3⟩
  have ho2' := ho2.below hb3
  obtain ⟨A, c, rfl, hr, hl⟩ := ho2'.reads
  obtain ⟨A', c', rfl, hr', _⟩ := ho3.reads
  have hb := below_after (below_after (below_after hb1 (below_drewN (Below.refl _ _) k)) hb2) hb3
  clear ho2 ho3 ho2' hb1 hb2 hb3
  go_wp2_with fail
  refine (ints_same _ _ _ _ _ _ _ _ _ hl rfl hr hr').mono ?_
  rintro e w4 ⟨rfl, k4, rfl⟩
  go_wp2
  go_ret
  exact ⟨rfl, below_drewN hb _⟩
theorem orders_walk (a b c d : Int) (w : World) (ha : 0 ≤ a) (ha' : a ≤ 18446744073709551615) (hb : 0 ≤ b) (hb' : b ≤ 18446744073709551615)
    (hc : -9223372036854775808 ≤ c) (hc' : c ≤ 9223372036854775807) (hd : -9223372036854775808 ≤ d) (hd' : d ≤ 9223372036854775807) :
    Calls Try.prog 4 #[.agg #[.int .u64 a, .int .u64 b, .int .i64 c, .int .i64 d]] w fun e w' => e = .returned (.bool true) ∧ Below w.heap.size w w' := by
  have e1 := uS_less a b ha ha' hb hb'
  have e2 := iS_less c d hc hc' hd hd'
  have e3 := uS_beq a b ha ha' hb hb'
  go_enter Try.func4, Try.ntmps4
  go_wp2
  go_quiet (fail)
  go_wp2_with fail
  refine (awake01 _).mono ?_
  rintro e w1 ⟨rfl, hb1⟩
  have hb1 := below_after (below_drewN ((Below.refl _ _).alloc (Nat.le_refl _) _) _) hb1
  go_wp2_with fail
  refine (u_any _ _ ha ha').mono ?_
  rintro e w2 ⟨rfl, hb2⟩
  have hb2 := below_after hb1 hb2
  go_wp2_with fail
  refine (u_any _ _ hb hb').mono ?_
  rintro e w3 ⟨rfl, hb3⟩
  have hb3 := below_after hb2 hb3
  go_wp2_with fail
  refine (i_any _ _).mono ?_
  rintro e w4 ⟨rfl, hb4⟩
  have hb4 := below_after hb3 hb4
  go_wp2_with fail
  refine (i_any _ _).mono ?_
  rintro e w5 ⟨rfl, hb5⟩
  have hb5 := below_after hb4 hb5
  go_wp2_with fail
  refine (u_any _ _ ha ha').mono ?_
  rintro e w6 ⟨rfl, hb6⟩
  have hb6 := below_after hb5 hb6
  go_wp2_with fail
  refine (u_any _ _ hb hb').mono ?_
  rintro e w7 ⟨rfl, hb7⟩
  have hb7 := below_after hb6 hb7
  go_wp2
  go_ret
  exact ⟨rfl, hb7⟩

theorem run_concat (x y : ByteArray) (h : x.size + y.size ≤ 9223372036854775807) (w : World) : (Op.stringOp .add x y).run Try.prog w = .ok (.string (x ++ y)) w := by
  have h2 : ¬ (9223372036854775807 : Int) < (x.size : Int) + (y.size : Int) := by omega
  have h3 : IntKind.i64.max = 9223372036854775807 := rfl
  simp [Op.stringOp, h2, h3]
theorem readu_back (a b : ByteArray) (n : Int) (w : World) (h0 : 0 ≤ n) (h1 : n ≤ 18446744073709551615) (ha : a.size ≤ 5000) (hb : b.size ≤ 5000) :
    Calls Try.prog 41 #[.string ((a ++ uS n) ++ b), .int .i64 a.size] w fun e w' => e = .returned (.tuple #[.int .u64 n, .int .i64 (a.size + 8 : Nat), .int .i64 0]) ∧ w = w' := by
  have hsz : ((a ++ uS n) ++ b).size = a.size + 8 + b.size := by rw [ByteArray.size_append, ByteArray.size_append, us_size]
  have h := readu_any ((a ++ uS n) ++ b) a.size w (by omega) (by omega)
  rw [u_back a b n h0 h1] at h
  exact h
theorem readi_back (a b : ByteArray) (m : Int) (w : World) (h0 : -9223372036854775808 ≤ m) (h1 : m ≤ 9223372036854775807) (ha : a.size ≤ 5000) (hb : b.size ≤ 5000) :
    Calls Try.prog 43 #[.string ((a ++ iS m) ++ b), .int .i64 a.size] w fun e w' => e = .returned (.tuple #[.int .i64 m, .int .i64 (a.size + 8 : Nat), .int .i64 0]) ∧ w = w' := by
  have hsz : ((a ++ iS m) ++ b).size = a.size + 8 + b.size := by rw [ByteArray.size_append, ByteArray.size_append, is_size]
  have h := readi_any ((a ++ iS m) ++ b) a.size w (by omega) (by omega)
  rw [i_back a b m h0 h1] at h
  exact h
theorem readtext_back (a b s : ByteArray) (w : World) (hs : s.size ≤ 4096) (ha : a.size ≤ 5000) (hb : b.size ≤ 5000) :
    Calls Try.prog 45 #[.string ((a ++ (bs (be 2 s.size) ++ s)) ++ b), .int .i64 a.size] w fun e w' => e = .returned (.tuple #[.string s, .int .i64 (a.size + 2 + s.size : Nat), .int .i64 0]) ∧ w = w' := by
  have hsz : ((a ++ (bs (be 2 s.size) ++ s)) ++ b).size = a.size + (2 + s.size) + b.size := by rw [ByteArray.size_append, ByteArray.size_append, ByteArray.size_append, bs_size, be_length]
  have hn := text_num a b s hs
  obtain ⟨e, e2⟩ := rc_ok (most := 4096) (size := 1) (s := (a ++ (bs (be 2 s.size) ++ s)) ++ b) (p := a.size) (by omega) (by omega) (by omega)
  have e3 := rt_ok e
  have h := readtext_all ((a ++ (bs (be 2 s.size) ++ s)) ++ b) a.size w (by omega)
  rw [e, e2, e3, hn, text_ext, Nat.one_mul] at h
  exact h
theorem readlist_back (a b : ByteArray) (zs : List Int) (w : World) (hl : zs.length ≤ 512) (hz : ∀ z ∈ zs, -9223372036854775808 ≤ z ∧ z ≤ 9223372036854775807) (ha : a.size ≤ 5000) (hb : b.size ≤ 5000) :
    Calls Try.prog 47 #[.string ((a ++ listS zs) ++ b), .int .i64 a.size] w fun e w' => ∃ v, e = .returned (.tuple #[v, .int .i64 (a.size + (listS zs).size : Nat), .int .i64 0]) ∧ OwnI w' w.heap.size v zs ∧ Below w.heap.size w w' := by
  have hsl := listS_size zs
  have hsz : ((a ++ listS zs) ++ b).size = a.size + (listS zs).size + b.size := by rw [ByteArray.size_append, ByteArray.size_append]
  have hn := list_num a b zs hl
  obtain ⟨e, e2⟩ := rc_ok (most := 512) (size := 8) (s := (a ++ listS zs) ++ b) (p := a.size) (by omega) (by omega) (by omega)
  have e3 := rl_ok e
  rw [hn, list_items a b zs hz zs.length (Nat.le_refl _), List.take_length] at e3
  refine (readlist_all ((a ++ listS zs) ++ b) a.size w (by omega)).mono ?_
  rintro e4 w' ⟨v, rfl, ho, hbl⟩
  rw [e3] at ho
  refine ⟨v, ?_, ho, hbl⟩
  rw [e, e2, hn, hsl, Nat.add_assoc]
/-- What is laid, in its block. -/
def LaidAt (w : World) (g : Nat) (a b s : ByteArray) (n m : Int) (A : Option Addr) (l c : Nat) : Prop := Blk w g 62 #[.string a, .string b, .int .u64 n, .int .i64 m, .string s, .slice A l c]
theorem LaidAt.cells {w : World} {g : Nat} {a b s : ByteArray} {n m : Int} {A : Option Addr} {l c : Nat} (h : LaidAt w g a b s n m A l c) :
    w.cell? ⟨g, 0, none⟩ = some (.string a) ∧ w.cell? ⟨g, 1, none⟩ = some (.string b) ∧ w.cell? ⟨g, 2, none⟩ = some (.int .u64 n) ∧ w.cell? ⟨g, 3, none⟩ = some (.int .i64 m) ∧ w.cell? ⟨g, 4, none⟩ = some (.string s) ∧ w.cell? ⟨g, 5, none⟩ = some (.slice A l c) :=
  ⟨h.cell 0, h.cell 1, h.cell 2, h.cell 3, h.cell 4, h.cell 5⟩
theorem LaidAt.below {w w' : World} {g : Nat} {a b s : ByteArray} {n m : Int} {A : Option Addr} {l c : Nat} (h : LaidAt w g a b s n m A l c) (hb : Below w.heap.size w w') : LaidAt w' g a b s n m A l c := Blk.below h hb (Blk.lt h)
theorem LaidAt.lt {w : World} {g : Nat} {a b s : ByteArray} {n m : Int} {A : Option Addr} {l c : Nat} (h : LaidAt w g a b s n m A l c) : g < w.heap.size := Blk.lt h

set_option maxHeartbeats 1600000 in
theorem back_walk (a b s : ByteArray) (n m : Int) (A : Option Addr) (l c : Nat) (zs : List Int) (w : World) (ha : a.size ≤ 9223372036854775807) (hb : b.size ≤ 9223372036854775807) (hs : s.size ≤ 9223372036854775807)
    (hn : 0 ≤ n) (hn' : n ≤ 18446744073709551615) (hm : -9223372036854775808 ≤ m) (hm' : m ≤ 9223372036854775807) (hl : zs.length = l) (hl' : l ≤ 9223372036854775807) (hr : Reads w w.heap.size 1 A l (zs.map (Value.int .i64)))
    (hz : ∀ z ∈ zs, -9223372036854775808 ≤ z ∧ z ≤ 9223372036854775807) :
    Calls Try.prog 12 #[.agg #[.string a, .string b, .int .u64 n, .int .i64 m, .string s, .slice A l c]] w fun e w' => e = .returned (.bool true) ∧ Below w.heap.size w w' := by
  by_cases h123 : 5000 < a.size ∨ 5000 < b.size ∨ 600 < l
  · by_cases h1 : 5000 < a.size
    · go_enter Try.func12, Try.ntmps12
      go_wp2_with fail
      refine (awake01 _).mono ?_
      rintro e w1 ⟨rfl, hb1⟩
      go_wp2
      go_ret
      exact ⟨rfl, below_after ((Below.refl _ _).alloc (Nat.le_refl _) _) hb1⟩
    · by_cases h2 : 5000 < b.size
      · go_enter Try.func12, Try.ntmps12
        go_wp2_with fail
        refine (awake01 _).mono ?_
        rintro e w1 ⟨rfl, hb1⟩
        go_wp2
        go_ret
        exact ⟨rfl, below_after ((Below.refl _ _).alloc (Nat.le_refl _) _) hb1⟩
      · have h3 : 600 < l := by omega
        clear h123
        go_enter Try.func12, Try.ntmps12
        go_wp2_with fail
        refine (awake01 _).mono ?_
        rintro e w1 ⟨rfl, hb1⟩
        go_wp2
        go_ret
        exact ⟨rfl, below_after ((Below.refl _ _).alloc (Nat.le_refl _) _) hb1⟩
  have h1 : a.size ≤ 5000 := by omega
  have h2 : b.size ≤ 5000 := by omega
  have h3 : l ≤ 600 := by omega
  clear h123
  have hu8 := us_size n
  have hi8 := is_size m
  have hu8' : (uS n).size ≤ 8 := by omega
  have hi8' : (iS m).size ≤ 8 := by omega
  clear hu8 hi8
  have hcat1 := run_concat a (uS n) (by omega)
  have hcat2 := run_concat (a ++ uS n) b (by rw [ByteArray.size_append]; omega)
  have hcat3 := run_concat a (iS m) (by omega)
  have hcat4 := run_concat (a ++ iS m) b (by rw [ByteArray.size_append]; omega)
  have Hl := hide hl
  clear hl
  go_enter Try.func12, Try.ntmps12
  go_wp2_with fail
  have hA : LaidAt (w.alloc (.cells #[.string a, .string b, .int .u64 n, .int .i64 m, .string s, .slice A l c] 62)) w.heap.size a b s n m A l c := Blk.new w _ _
  have hB : Below w.heap.size w (w.alloc (.cells #[.string a, .string b, .int .u64 n, .int .i64 m, .string s, .slice A l c] 62)) := (Below.refl _ _).alloc (Nat.le_refl _) _
  generalize w.alloc (.cells #[.string a, .string b, .int .u64 n, .int .i64 m, .string s, .slice A l c] 62) = w1 at *
  obtain ⟨c0, c1, c2, c3, c4, c5⟩ := hA.cells
  have hlt := hA.lt
  go_region_held3 (fun w' => w'.cell? ⟨w.heap.size, 0, none⟩ = some (.string a) ∧ w'.cell? ⟨w.heap.size, 1, none⟩ = some (.string b) ∧ w'.cell? ⟨w.heap.size, 2, none⟩ = some (.int .u64 n))
    (first | go_keep | (refine ⟨?_, ?_, ?_⟩ <;> (rw [hc2 _ _ (by first | assumption | (simp; omega))]; assumption)))
    (first | (go_at_call 23; refine (u_any _ _ hn hn').mono ?_; rintro e w2 ⟨rfl, hb2⟩; obtain ⟨hc2, hf2⟩ := bcell hb2) | (go_at_call 41; refine (readu_back _ _ _ _ hn hn' h1 h2).mono ?_; rintro e w3 ⟨rfl, rfl⟩))
  have hA2 : LaidAt w2 w.heap.size a b s n m A l c := LaidAt.below (w := w1.drew) hA hb2
  have hB2 : Below w.heap.size w w2 := below_after hB.drew hb2
  clear hA hB c0 c1 c2 c3 c4 c5 hlt hb2 hc2 hf2
  obtain ⟨c0, c1, c2, c3, c4, c5⟩ := hA2.cells
  have hlt := hA2.lt
  go_wp2_with fail
  go_region_held3 (fun w' => w'.cell? ⟨w.heap.size, 0, none⟩ = some (.string a) ∧ w'.cell? ⟨w.heap.size, 1, none⟩ = some (.string b) ∧ w'.cell? ⟨w.heap.size, 3, none⟩ = some (.int .i64 m))
    (first | go_keep | (refine ⟨?_, ?_, ?_⟩ <;> (rw [hc3 _ _ (by first | assumption | (simp; omega))]; assumption)))
    (first | (go_at_call 25; refine (i_any _ _).mono ?_; rintro e w3 ⟨rfl, hb3⟩; obtain ⟨hc3, hf3⟩ := bcell hb3) | (go_at_call 43; refine (readi_back _ _ _ _ hm hm' h1 h2).mono ?_; rintro e w4 ⟨rfl, rfl⟩))
  have hA3 : LaidAt w3 w.heap.size a b s n m A l c := LaidAt.below (w := w2.drew) hA2 hb3
  have hB3 : Below w.heap.size w w3 := below_after hB2.drew hb3
  clear hA2 hB2 c0 c1 c2 c3 c4 c5 hlt hb3 hc3 hf3
  obtain ⟨c0, c1, c2, c3, c4, c5⟩ := hA3.cells
  have hlt := hA3.lt
  by_cases hs4 : s.size ≤ 4096
  · have hbz := be_size 2 s.size
    go_wp2_with fail
    refine (text_any _ _ hs4).mono ?_
    rintro e w4 ⟨rfl, hb4⟩
    have hA4 := hA3.below hb4
    have hB4 := below_after hB3 hb4
    clear hA3 hB3 c0 c1 c2 c3 c4 c5 hlt hb4
    obtain ⟨c0, c1, c2, c3, c4, c5⟩ := hA4.cells
    have hlt := hA4.lt
    have hcat5 := run_concat a (bs (be 2 s.size) ++ s) (by rw [ByteArray.size_append]; omega)
    have hcat6 := run_concat (a ++ (bs (be 2 s.size) ++ s)) b (by rw [ByteArray.size_append, ByteArray.size_append]; omega)
    go_wp2_with fail
    refine (readtext_back _ _ _ _ hs4 h1 h2).mono ?_
    rintro e w' ⟨rfl, rfl⟩
    have hbz2 : (bs (be 2 s.size) ++ s).size = 2 + s.size := by rw [ByteArray.size_append, bs_size, be_length]
    by_cases hm5 : l ≤ 512
    · have hl5 : zs.length ≤ 512 := by rw [Hl.out]; exact hm5
      go_wp2_with fail
      refine (list_any _ _ _ zs _ Hl.out hm5 ((hr.below hB4).more hB4.size)).mono ?_
      rintro e w5 ⟨rfl, hb5⟩
      have hA5 := hA4.below hb5
      have hB5 := below_after hB4 hb5
      clear hA4 hB4 c0 c1 c2 c3 c4 c5 hlt hb5
      obtain ⟨c0, c1, c2, c3, c4, c5⟩ := hA5.cells
      have hlt := hA5.lt
      have hls := listS_size zs
      have hls' : (listS zs).size ≤ 5000 := by omega
      clear hls
      have hcat5 := run_concat a (listS zs) (by omega)
      have hcat6 := run_concat (a ++ listS zs) b (by rw [ByteArray.size_append]; omega)
      go_wp2_with fail
      refine (readlist_back _ _ _ _ hl5 hz h1 h2).mono ?_
      rintro e w6 ⟨v, rfl, ho, hb6⟩
      have hA6 := hA5.below hb6
      have hB6 := below_after hB5 hb6
      clear hA5 hB5 c0 c1 c2 c3 c4 c5 hlt hb6
      obtain ⟨c0, c1, c2, c3, c4, c5⟩ := hA6.cells
      have hlt := hA6.lt
      obtain ⟨A', c', rfl, hr6, _⟩ := ho.reads
      rw [Hl.out] at hr6
      rw [Hl.out]
      go_wp2_with fail
      refine (ints_same _ _ _ _ _ zs _ _ _ hl' Hl.out hr6 (hr.below hB6)).mono ?_
      rintro e w' ⟨rfl, k6, rfl⟩
      go_wp2_with fail
      refine (awake01 _).mono ?_
      rintro e w7 ⟨rfl, hb7⟩
      go_wp2
      go_ret
      exact ⟨rfl, below_after (below_drewN hB6 k6) hb7⟩
    · go_wp2_with fail
      refine (list_big _ _ _ _ (by omega) hl').mono ?_
      rintro e w5 ⟨rfl, rfl⟩
      go_wp2_with fail
      refine (awake01 _).mono ?_
      rintro e w7 ⟨rfl, hb7⟩
      go_wp2
      go_ret
      exact ⟨rfl, below_after hB4 hb7⟩
  · go_wp2_with fail
    refine (text_big _ _ (by omega) hs).mono ?_
    rintro e w' ⟨rfl, rfl⟩
    obtain ⟨w4, rfl⟩ : ∃ w4 : World, w4 = w3 := ⟨_, rfl⟩
    have hA4 := hA3
    have hB4 := hB3
    clear hA3 hB3
    by_cases hm5 : l ≤ 512
    · have hl5 : zs.length ≤ 512 := by rw [Hl.out]; exact hm5
      go_wp2_with fail
      refine (list_any _ _ _ zs _ Hl.out hm5 ((hr.below hB4).more hB4.size)).mono ?_
      rintro e w5 ⟨rfl, hb5⟩
      have hA5 := hA4.below hb5
      have hB5 := below_after hB4 hb5
      clear hA4 hB4 c0 c1 c2 c3 c4 c5 hlt hb5
      obtain ⟨c0, c1, c2, c3, c4, c5⟩ := hA5.cells
      have hlt := hA5.lt
      have hls := listS_size zs
      have hls' : (listS zs).size ≤ 5000 := by omega
      clear hls
      have hcat5 := run_concat a (listS zs) (by omega)
      have hcat6 := run_concat (a ++ listS zs) b (by rw [ByteArray.size_append]; omega)
      go_wp2_with fail
      refine (readlist_back _ _ _ _ hl5 hz h1 h2).mono ?_
      rintro e w6 ⟨v, rfl, ho, hb6⟩
      have hA6 := hA5.below hb6
      have hB6 := below_after hB5 hb6
      clear hA5 hB5 c0 c1 c2 c3 c4 c5 hlt hb6
      obtain ⟨c0, c1, c2, c3, c4, c5⟩ := hA6.cells
      have hlt := hA6.lt
      obtain ⟨A', c', rfl, hr6, _⟩ := ho.reads
      rw [Hl.out] at hr6
      rw [Hl.out]
      go_wp2_with fail
      refine (ints_same _ _ _ _ _ zs _ _ _ hl' Hl.out hr6 (hr.below hB6)).mono ?_
      rintro e w' ⟨rfl, k6, rfl⟩
      go_wp2_with fail
      refine (awake01 _).mono ?_
      rintro e w7 ⟨rfl, hb7⟩
      go_wp2
      go_ret
      exact ⟨rfl, below_after (below_drewN hB6 k6) hb7⟩
    · go_wp2_with fail
      refine (list_big _ _ _ _ (by omega) hl').mono ?_
      rintro e w5 ⟨rfl, rfl⟩
      go_wp2_with fail
      refine (awake01 _).mono ?_
      rintro e w7 ⟨rfl, hb7⟩
      go_wp2
      go_ret
      exact ⟨rfl, below_after hB4 hb7⟩
end Go.Proofs.Ytpgbfglfmmohdaa
