/- The walks of package rec: what is laid. No condition. -/
import Derived.Test.YtpgbfglfmmohdaaLaw02e
import Derived.Test.YtpgbfglfmmohdaaQuietC
set_option linter.unusedVariables false
set_option maxRecDepth 20000
namespace Go.Proofs.Ytpgbfglfmmohdaa
open Go.RowKit Go.Deep

attribute [local go_sem] run_store_float
/-- May an event be? -/
def rightE (t : Nat) (s n d : Int) : Bool := decide (¬ isNan t ∧ (-1 ≤ s ∧ s ≤ 5) ∧ (0 ≤ n ∧ n ≤ 1099511627776) ∧ 0 ≤ d ∧ d ≤ 5)
set_option maxHeartbeats 400000 in
theorem right_any (t : Nat) (s n d p : Int) (w : World) : Calls Try.prog 96 #[.agg #[.float .f64 t, .int .i64 s, .int .i64 n, .int .i64 d, .int .i64 p]] w fun e w' => e = .returned (.bool (rightE t s n d)) ∧ Below w.heap.size w w' := by
  by_cases h : isNan t
  · have hf : rightE t s n d = false := by unfold rightE; simp [h]
    rw [hf]
    go_enter Try.func96, Try.ntmps96
    go_wp2_with fail
    refine (isnan_any _ _).mono ?_
    rw [decide_eq_true h]
    rintro e w' ⟨rfl, rfl⟩
    go_wp2
    go_ret
    exact ⟨rfl, (Below.refl _ _).alloc (Nat.le_refl _) _⟩
  · have hf : rightE t s n d = decide ((-1 ≤ s ∧ s ≤ 5) ∧ (0 ≤ n ∧ n ≤ 1099511627776) ∧ 0 ≤ d ∧ d ≤ 5) := by unfold rightE; simp [h]
    have HF := hide hf
    clear hf
    go_enter Try.func96, Try.ntmps96
    go_wp2_with fail
    refine (isnan_any _ _).mono ?_
    rw [decide_eq_false h]
    rintro e w' ⟨rfl, rfl⟩
    go_wp2
    all_goals
      go_ret
      exact ⟨ret_bool (by rw [HF.out, Bool.eq_iff_iff]; simp; try omega), (Below.refl _ _).alloc (Nat.le_refl _) _⟩
set_option maxHeartbeats 400000 in
theorem rright_any (t : Nat) (s n d p : Int) (w : World) : Calls Try.prog 63 #[.agg #[.float .f64 t, .int .i64 s, .int .i64 n, .int .i64 d, .int .i64 p]] w fun e w' => e = .returned (.bool (rightE t s n d)) ∧ Below w.heap.size w w' := by
  by_cases h : isNan t
  · have hf : rightE t s n d = false := by unfold rightE; simp [h]
    have ho := fo_nan t t (.inl h)
    rw [hf]
    go_enter Try.func63, Try.ntmps63
    go_wp2
    go_ret
    exact ⟨rfl, (Below.refl _ _).alloc (Nat.le_refl _) _⟩
  · have hf : rightE t s n d = decide ((-1 ≤ s ∧ s ≤ 5) ∧ (0 ≤ n ∧ n ≤ 1099511627776) ∧ 0 ≤ d ∧ d ≤ 5) := by unfold rightE; simp [h]
    have HF := hide hf
    have ho := fo_self t h
    clear hf h
    go_enter Try.func63, Try.ntmps63
    go_wp2
    all_goals
      go_ret
      exact ⟨ret_bool (by rw [HF.out, Bool.eq_iff_iff]; simp; try omega), (Below.refl _ _).alloc (Nat.le_refl _) _⟩
def oneS (n : Int) : ByteArray := bs [UInt8.ofNat n.toNat]
theorem one_any (n : Int) (w : World) (h0 : 0 ≤ n) (h1 : n ≤ 255) : Calls Try.prog 98 #[.int .i64 n] w fun e w' => e = .returned (.string (oneS n)) ∧ Below w.heap.size w w' := by
  have hc : (convert 82 9 (.slice (some ⟨w.heap.size, 0, none⟩) 1 1)).run Try.prog (w.alloc (.cells #[.int .u8 n] 5)) = .ok (.string (oneS n)) (w.alloc (.cells #[.int .u8 n] 5)) := by
    have h := own_string (OwnB.fresh w w.heap.size (Nat.le_refl _) [UInt8.ofNat n.toNat] (by simp) (by simp [maxLen]))
    have e : byteV (UInt8.ofNat n.toNat) = .int .u8 n := by
      unfold byteV
      congr 1
      rw [UInt8.toNat_ofNat']
      omega
    simp only [List.map_cons, List.map_nil, e, List.length_cons, List.length_nil] at h
    exact h
  go_enter Try.func98, Try.ntmps98
  go_wp2_with fail
  go_ret
  exact ⟨rfl, (Below.refl _ _).alloc (Nat.le_refl _) _⟩
/-- 's[l:]' of a string. -/
theorem run_slice_str1 {P : Program} {t : TypeId} (ht : P.underlying t = some .string) (s : ByteArray) (k : IntKind) (l : Int) (a : Nat) (hl : l = a) (h2 : a ≤ s.size) (hm : s.size ≤ 9223372036854775807) (w : World) :
    (Instr.slice t (.string s) (some (.int k l)) none none).run P w = .ok (.string (s.extract a s.size)) w := by
  subst hl
  have e1 : (0 : Int) ≤ (a : Int) ∧ (a : Int) ≤ (s.size : Int) := by omega
  simp [Instr.slice, run_underlying ht, Instr.sliceBounds, Instr.sliceBound, asIntOf, e1, h2]
theorem extract_first (x y : ByteArray) (n : Nat) (h : x.size = n) : (x ++ y).extract 0 n = x := by
  apply ByteArray.ext
  subst h
  simp
theorem keyS_first (t : Nat) (s n : Int) : (keyS t s n).extract 0 8 = uS (keyB (normF t)) := by
  unfold keyS
  rw [show (uS (keyB (normF t)) ++ iS s) ++ iS n = uS (keyB (normF t)) ++ (iS s ++ iS n) from ByteArray.ext (by simp)]
  exact extract_first _ _ 8 (us_size _)
theorem keyS_size24 (t : Nat) (s n : Int) : (keyS t s n).size = 24 := by
  unfold keyS
  rw [ByteArray.size_append, ByteArray.size_append, us_size, is_size, is_size]
theorem time_any (t : Nat) (s n d p : Int) (w : World) (ht : t < 18446744073709551616) (h : ¬ isNan t) : Calls Try.prog 97 #[.agg #[.float .f64 t, .int .i64 s, .int .i64 n, .int .i64 d, .int .i64 p]] w fun e w' => e = .returned (.string (uS (keyB (normF t)))) ∧ Below w.heap.size w w' := by
  have hk : kS t s n = keyS t s n := by unfold kS; rw [if_neg h]
  have hsl := run_slice_str0 Try.underlying9 (keyS t s n) .i64 8 8 rfl (by rw [keyS_size24]; omega)
  rw [keyS_first] at hsl
  go_enter Try.func97, Try.ntmps97
  go_wp2_with fail
  refine (key_all t s n _ ht).mono ?_
  rw [hk]
  rintro e w1 ⟨rfl, hb1⟩
  clear hk
  go_wp2_with fail
  go_ret
  exact ⟨rfl, below_after ((Below.refl _ _).alloc (Nat.le_refl _) _) hb1⟩
theorem one_size (n : Int) : (oneS n).size = 1 := rfl
/-- An event's key, its bytes. -/
def keyR (t : Nat) (s n p : Int) : ByteArray := ((uS (keyB (normF t)) ++ oneS (s + 1)) ++ iS n) ++ iS p
def evS (t : Nat) (s n d p : Int) : ByteArray := (((uS (keyB (normF t)) ++ oneS (s + 1)) ++ iS n) ++ oneS d) ++ iS p
def keyV (t : Nat) (s n d p : Int) : ByteArray := if rightE t s n d then keyR t s n p else ⟨#[]⟩
def evV (t : Nat) (s n d p : Int) : ByteArray := if rightE t s n d then evS t s n d p else ⟨#[]⟩
def putE (b : Bool) : Int := if b then 0 else 2
theorem right_facts {t : Nat} {s n d : Int} (h : rightE t s n d = true) : ¬ isNan t ∧ (-1 ≤ s ∧ s ≤ 5) ∧ (0 ≤ n ∧ n ≤ 1099511627776) ∧ 0 ≤ d ∧ d ≤ 5 := of_decide_eq_true h
theorem reckey_any (t : Nat) (s n d p : Int) (w : World) (ht : t < 18446744073709551616) : Calls Try.prog 57 #[.agg #[.float .f64 t, .int .i64 s, .int .i64 n, .int .i64 d, .int .i64 p]] w fun e w' => e = .returned (.tuple #[.string (keyV t s n d p), .int .i64 (putE (rightE t s n d))]) ∧ Below w.heap.size w w' := by
  have hX := Blk.new w 70 #[.float .f64 t, .int .i64 s, .int .i64 n, .int .i64 d, .int .i64 p]
  have hb : Below w.heap.size w (w.alloc (.cells #[.float .f64 t, .int .i64 s, .int .i64 n, .int .i64 d, .int .i64 p] 70)) := (Below.refl _ _).alloc (Nat.le_refl _) _
  cases hr : rightE t s n d
  · have hv : keyV t s n d p = ⟨#[]⟩ := by unfold keyV; rw [hr]; rfl
    rw [hv]
    go_enter Try.func57, Try.ntmps57
    go_wp2_with fail
    refine (right_any _ _ _ _ _ _).mono ?_
    rw [hr]
    rintro e w1 ⟨rfl, hb1⟩
    go_wp2_with fail
    go_ret2
    exact ⟨rfl, below_after hb hb1⟩
  · have hv : keyV t s n d p = keyR t s n p := by unfold keyV; rw [hr]; rfl
    obtain ⟨hn, ⟨hs0, hs1⟩, ⟨hn0, hn1⟩, hd0, hd1⟩ := right_facts hr
    rw [hv]
    clear hv
    go_enter Try.func57, Try.ntmps57
    go_wp2_with fail
    refine (right_any _ _ _ _ _ _).mono ?_
    rw [hr]
    rintro e w1 ⟨rfl, hb1⟩
    have hX := hX.below hb1 hX.lt
    have hb := below_after hb hb1
    clear hb1
    go_wp2_with fail
    obtain ⟨P, hO, h0, hne, hI⟩ := BoxC.hidden _ _ _ (BoxC.one w w1 _ _ _ hb hX)
    have hB : ∀ i : Wo P, Blk i.W w.heap.size _ _ := fun i => (hI i).2 _ (List.mem_singleton.2 rfl)
    have k0 := fun i => (hB i).cell 0
    have k1 := fun i => (hB i).cell 1
    have k2 := fun i => (hB i).cell 2
    have k3 := fun i => (hB i).cell 3
    have k4 := fun i => (hB i).cell 4
    have c1 := fun w => run_cat (uS (keyB (normF t))) (oneS (s + 1)) (by rw [us_size, one_size]; omega) w
    have c2 := fun w => run_cat (uS (keyB (normF t)) ++ oneS (s + 1)) (iS n) (by rw [ByteArray.size_append, us_size, one_size, is_size]; omega) w
    have c3 := fun w => run_cat ((uS (keyB (normF t)) ++ oneS (s + 1)) ++ iS n) (iS p) (by rw [ByteArray.size_append, ByteArray.size_append, us_size, one_size, is_size, is_size]; omega) w
    have hw1 : IntKind.i64.wrap (s + 1) = s + 1 := IntWalk.i64_in _ (by omega)
    have t1 := fun W => time_any t s n d p W ht hn
    have t2 := fun W => one_any (s + 1) W (by omega) (by omega)
    have T1 := hide t1
    have T2 := hide t2
    have HI := hide hI
    have HO := hide hO
    have H0 := hide h0
    clear hb hX hI hO h0 hB t1 t2
    refine wp_region_quietC (by kernel_rfl) (by kernel_rfl) H0.out ?_
    repeat (go_big_quiet_step (first
      | (go_at_call 97; exact Calls.quietC HO.out (T1.out _))
      | (go_at_call 98; exact Calls.quietC HO.out (T2.out _))
      | (go_at_call 25; exact Calls.quietC HO.out (i_any _ _))))
    refine wpQuiet_nil ?_
    intro _ hw'
    obtain ⟨i, rfl⟩ := hw'
    go_wp2
    go_ret2
    exact ⟨rfl, (HI.out i).1⟩
end Go.Proofs.Ytpgbfglfmmohdaa
