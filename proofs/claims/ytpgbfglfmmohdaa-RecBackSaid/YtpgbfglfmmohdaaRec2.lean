/- More walks of package rec and of its reference: what is laid. No condition. -/
import Derived.Test.YtpgbfglfmmohdaaRec
set_option linter.unusedVariables false
set_option maxRecDepth 20000
namespace Go.Proofs.Ytpgbfglfmmohdaa
open Go.RowKit Go.Deep

attribute [local go_sem] run_store_float
theorem putevent_any (t : Nat) (s n d p : Int) (w : World) (ht : t < 18446744073709551616) : Calls Try.prog 60 #[.agg #[.float .f64 t, .int .i64 s, .int .i64 n, .int .i64 d, .int .i64 p]] w fun e w' => e = .returned (.tuple #[.string (evV t s n d p), .int .i64 (putE (rightE t s n d))]) ∧ Below w.heap.size w w' := by
  have hX := Blk.new w 70 #[.float .f64 t, .int .i64 s, .int .i64 n, .int .i64 d, .int .i64 p]
  have hb : Below w.heap.size w (w.alloc (.cells #[.float .f64 t, .int .i64 s, .int .i64 n, .int .i64 d, .int .i64 p] 70)) := (Below.refl _ _).alloc (Nat.le_refl _) _
  cases hr : rightE t s n d
  · have hv : evV t s n d p = ⟨#[]⟩ := by unfold evV; rw [hr]; rfl
    rw [hv]
    go_enter Try.func60, Try.ntmps60
    go_wp2_with fail
    refine (right_any _ _ _ _ _ _).mono ?_
    rw [hr]
    rintro e w1 ⟨rfl, hb1⟩
    go_wp2_with fail
    go_ret2
    exact ⟨rfl, below_after hb hb1⟩
  · have hv : evV t s n d p = evS t s n d p := by unfold evV; rw [hr]; rfl
    obtain ⟨hn, ⟨hs0, hs1⟩, ⟨hn0, hn1⟩, hd0, hd1⟩ := right_facts hr
    rw [hv]
    clear hv
    go_enter Try.func60, Try.ntmps60
    go_wp2_with fail
    refine (right_any _ _ _ _ _ _).mono ?_
    rw [hr]
    rintro e w1 ⟨rfl, hb1⟩
    have hX := hX.below hb1 hX.lt
    have hb := below_after hb hb1
    clear hb1
    go_wp2_with fail
    obtain ⟨P, hO, h0, hne, hI⟩ := BoxC.hidden _ _ _ (BoxC.one w w1 _ _ _ hb hX)
    have hB : ∀ i : Wo P, Blk i.W w.heap.size _ _ := fun i => (hI i).2 _ (List.mem_singleton.2 rfl)
    have k0 := fun i => (hB i).cell 0
    have k1 := fun i => (hB i).cell 1
    have k2 := fun i => (hB i).cell 2
    have k3 := fun i => (hB i).cell 3
    have k4 := fun i => (hB i).cell 4
    have c1 := fun w => run_cat (uS (keyB (normF t))) (oneS (s + 1)) (by rw [us_size, one_size]; omega) w
    have c2 := fun w => run_cat (uS (keyB (normF t)) ++ oneS (s + 1)) (iS n) (by simp only [ByteArray.size_append, us_size, one_size, is_size]; omega) w
    have c3 := fun w => run_cat ((uS (keyB (normF t)) ++ oneS (s + 1)) ++ iS n) (oneS d) (by simp only [ByteArray.size_append, us_size, one_size, is_size]; omega) w
    have c4 := fun w => run_cat (((uS (keyB (normF t)) ++ oneS (s + 1)) ++ iS n) ++ oneS d) (iS p) (by simp only [ByteArray.size_append, us_size, one_size, is_size]; omega) w
    have hw1 : IntKind.i64.wrap (s + 1) = s + 1 := IntWalk.i64_in _ (by omega)
    have T1 := hide (fun W => time_any t s n d p W ht hn)
    have T2 := hide (fun W => one_any (s + 1) W (by omega) (by omega))
    have T3 := hide (fun W => one_any d W (by omega) (by omega))
    have HI := hide hI
    have HO := hide hO
    have H0 := hide h0
    clear hb hX hI hO h0 hB 
    refine wp_region_quietC (by kernel_rfl) (by kernel_rfl) H0.out ?_
    repeat (go_big_quiet_step (first
      | (go_at_call 97; exact Calls.quietC HO.out (T1.out _))
      | (go_at_call 98; with_reducible exact Calls.quietC HO.out (T2.out _))
      | (go_at_call 98; with_reducible exact Calls.quietC HO.out (T3.out _))
      | (go_at_call 25; exact Calls.quietC HO.out (i_any _ _))))
    refine wpQuiet_nil ?_
    intro _ hw'
    obtain ⟨i, rfl⟩ := hw'
    go_wp2
    go_ret2
    exact ⟨rfl, (HI.out i).1⟩
theorem ev_size (t : Nat) (s n d p : Int) : (evS t s n d p).size = 26 := by unfold evS; simp only [ByteArray.size_append, us_size, one_size, is_size]
theorem evV_size (t : Nat) (s n d p : Int) : (evV t s n d p).size ≤ 26 := by
  unfold evV
  split
  · rw [ev_size]
    exact Nat.le_refl _
  · exact Nat.zero_le _
def msgV (t : Nat) (s n d p : Int) (a : Bool) : ByteArray := if rightE t s n d then oneS (if a then 1 else 0) ++ evS t s n d p else ⟨#[]⟩
def doneB (t : Nat) (s n d f : Int) : Bool := rightE t s n d && decide (0 ≤ f ∧ f ≤ 7)
def doneV (t : Nat) (s n d p f : Int) : ByteArray := if doneB t s n d f then evS t s n d p ++ oneS f else ⟨#[]⟩
theorem putmsg_any (t : Nat) (s n d p : Int) (a : Bool) (w : World) (ht : t < 18446744073709551616) : Calls Try.prog 61 #[.agg #[.float .f64 t, .int .i64 s, .int .i64 n, .int .i64 d, .int .i64 p, .bool a]] w fun e w' => e = .returned (.tuple #[.string (msgV t s n d p a), .int .i64 (putE (rightE t s n d))]) ∧ Below w.heap.size w w' := by
  have hX := Blk.new w 76 #[.float .f64 t, .int .i64 s, .int .i64 n, .int .i64 d, .int .i64 p, .bool a]
  have hb : Below w.heap.size w (w.alloc (.cells #[.float .f64 t, .int .i64 s, .int .i64 n, .int .i64 d, .int .i64 p, .bool a] 76)) := (Below.refl _ _).alloc (Nat.le_refl _) _
  have hpe := putevent_any t s n d p (w.alloc (.cells #[.float .f64 t, .int .i64 s, .int .i64 n, .int .i64 d, .int .i64 p, .bool a] 76)) ht
  cases hr : rightE t s n d
  · have hv : msgV t s n d p a = ⟨#[]⟩ := by unfold msgV; rw [hr]; rfl
    have hv2 : evV t s n d p = ⟨#[]⟩ := by unfold evV; rw [hr]; rfl
    rw [hv]
    rw [hv2, hr] at hpe
    clear hv hv2
    go_enter Try.func61, Try.ntmps61
    go_wp2_with fail
    refine hpe.mono ?_
    clear hpe
    rintro e w1 ⟨rfl, hb1⟩
    go_wp2_with fail
    go_ret2
    exact ⟨rfl, below_after hb hb1⟩
  · have hv2 : evV t s n d p = evS t s n d p := by unfold evV; rw [hr]; rfl
    rw [hv2, hr] at hpe
    have hz := ev_size t s n d p
    cases a
    · have hv : msgV t s n d p false = oneS 0 ++ evS t s n d p := by unfold msgV; rw [hr]; rfl
      rw [hv]
      clear hv hv2
      generalize evS t s n d p = E at *
      have c1 := fun w => run_cat (oneS 0) E (by rw [hz, one_size]; omega) w
      clear hz
      go_enter Try.func61, Try.ntmps61
      go_wp2_with fail
      refine hpe.mono ?_
      clear hpe
      rintro e w1 ⟨rfl, hb1⟩
      have hX := hX.below hb1 hX.lt
      have k5 := hX.cell 5
      go_wp2_with fail
      refine (one_any 0 _ (by decide) (by decide)).mono ?_
      rintro e w2 ⟨rfl, hb2⟩
      clear k5
      go_wp2_with fail
      go_ret2
      exact ⟨rfl, below_after (below_after hb hb1) hb2⟩
    · have hv : msgV t s n d p true = oneS 1 ++ evS t s n d p := by unfold msgV; rw [hr]; rfl
      rw [hv]
      clear hv hv2
      generalize evS t s n d p = E at *
      have c1 := fun w => run_cat (oneS 1) E (by rw [hz, one_size]; omega) w
      clear hz
      go_enter Try.func61, Try.ntmps61
      go_wp2_with fail
      refine hpe.mono ?_
      clear hpe
      rintro e w1 ⟨rfl, hb1⟩
      have hX := hX.below hb1 hX.lt
      have k5 := hX.cell 5
      go_wp2_with fail
      refine (one_any 1 _ (by decide) (by decide)).mono ?_
      rintro e w2 ⟨rfl, hb2⟩
      clear k5
      go_wp2_with fail
      go_ret2
      exact ⟨rfl, below_after (below_after hb hb1) hb2⟩
theorem putdone_any (t : Nat) (s n d p f : Int) (w : World) (ht : t < 18446744073709551616) : Calls Try.prog 62 #[.agg #[.float .f64 t, .int .i64 s, .int .i64 n, .int .i64 d, .int .i64 p, .int .i64 f]] w fun e w' => e = .returned (.tuple #[.string (doneV t s n d p f), .int .i64 (putE (doneB t s n d f))]) ∧ Below w.heap.size w w' := by
  have hX := Blk.new w 79 #[.float .f64 t, .int .i64 s, .int .i64 n, .int .i64 d, .int .i64 p, .int .i64 f]
  have hb : Below w.heap.size w (w.alloc (.cells #[.float .f64 t, .int .i64 s, .int .i64 n, .int .i64 d, .int .i64 p, .int .i64 f] 79)) := (Below.refl _ _).alloc (Nat.le_refl _) _
  have hpe := putevent_any t s n d p (w.alloc (.cells #[.float .f64 t, .int .i64 s, .int .i64 n, .int .i64 d, .int .i64 p, .int .i64 f] 79)) ht
  cases hr : rightE t s n d
  · have hd : doneB t s n d f = false := by unfold doneB; rw [hr]; rfl
    have hv : doneV t s n d p f = ⟨#[]⟩ := by unfold doneV; rw [hd]; rfl
    have hv2 : evV t s n d p = ⟨#[]⟩ := by unfold evV; rw [hr]; rfl
    rw [hv, hd]
    rw [hv2, hr] at hpe
    clear hv hv2 hd
    go_enter Try.func62, Try.ntmps62
    go_wp2_with fail
    refine hpe.mono ?_
    clear hpe
    rintro e w1 ⟨rfl, hb1⟩
    go_wp2_with fail
    go_ret2
    exact ⟨rfl, below_after hb hb1⟩
  · have hv2 : evV t s n d p = evS t s n d p := by unfold evV; rw [hr]; rfl
    have hd : doneB t s n d f = decide (0 ≤ f ∧ f ≤ 7) := by unfold doneB; rw [hr]; rfl
    rw [hv2, hr] at hpe
    have hz := ev_size t s n d p
    by_cases h0 : 0 ≤ f
    · by_cases h7 : f ≤ 7
      · have hd1 : doneB t s n d f = true := by rw [hd]; simp [h0, h7]
        have hv : doneV t s n d p f = evS t s n d p ++ oneS f := by unfold doneV; rw [hd1]; rfl
        rw [hv, hd1]
        clear hv hv2 hd hd1
        generalize evS t s n d p = E at *
        have c1 := fun w => run_cat E (oneS f) (by rw [hz, one_size]; omega) w
        clear hz
        go_enter Try.func62, Try.ntmps62
        go_wp2_with fail
        refine hpe.mono ?_
        clear hpe
        rintro e w1 ⟨rfl, hb1⟩
        have hX := hX.below hb1 hX.lt
        have k5 := hX.cell 5
        go_wp2_with fail
        refine (one_any f _ h0 (by omega)).mono ?_
        rintro e w2 ⟨rfl, hb2⟩
        clear k5
        go_wp2_with fail
        go_ret2
        exact ⟨rfl, below_after (below_after hb hb1) hb2⟩
      · have hd1 : doneB t s n d f = false := by rw [hd]; simp [h7]
        have hv : doneV t s n d p f = ⟨#[]⟩ := by unfold doneV; rw [hd1]; rfl
        rw [hv, hd1]
        clear hv hv2 hd hd1 hz
        generalize evS t s n d p = E at *
        go_enter Try.func62, Try.ntmps62
        go_wp2_with fail
        refine hpe.mono ?_
        clear hpe
        rintro e w1 ⟨rfl, hb1⟩
        have hX := hX.below hb1 hX.lt
        have k5 := hX.cell 5
        go_wp2_with fail
        go_ret2
        exact ⟨rfl, below_after hb hb1⟩
    · have hd1 : doneB t s n d f = false := by rw [hd]; simp [h0]
      have hv : doneV t s n d p f = ⟨#[]⟩ := by unfold doneV; rw [hd1]; rfl
      rw [hv, hd1]
      clear hv hv2 hd hd1 hz
      generalize evS t s n d p = E at *
      go_enter Try.func62, Try.ntmps62
      go_wp2_with fail
      refine hpe.mono ?_
      clear hpe
      rintro e w1 ⟨rfl, hb1⟩
      have hX := hX.below hb1 hX.lt
      have k5 := hX.cell 5
      go_wp2_with fail
      go_ret2
      exact ⟨rfl, below_after hb hb1⟩
end Go.Proofs.Ytpgbfglfmmohdaa
