/- Plain law: what any bytes are, as an event, a message, what was handled. -/
import Derived.Test.YtpgbfglfmmohdaaRef20b
set_option linter.unusedVariables false
namespace Go.Proofs.Ytpgbfglfmmohdaa
open Go.RowKit Go.Deep

theorem ext_list (s : ByteArray) (a b : Nat) : (s.extract a b).data.toList = (s.data.toList.drop a).take (b - a) := by
  rw [ByteArray.data_extract, Array.toList_extract]
theorem rdN_ext (s : ByteArray) (a b p c : Nat) (h : a + p + c ≤ b) : rdN (s.extract a b) p c = rdN s (a + p) c := by
  unfold rdN
  rw [ext_list, List.drop_take, List.take_take, List.drop_drop, Nat.min_eq_left (by omega)]
theorem byteN_list (s : ByteArray) (k : Nat) (h : k < s.size) : byteN s k = ((s.data.toList[k]'(by rw [dlen]; exact h)).toNat : Int) := by
  rw [byteN_in h]
  rfl
theorem byteN_ext (s : ByteArray) (a b j : Nat) (h : a + j < b) (hb : b ≤ s.size) : byteN (s.extract a b) j = byteN s (a + j) := by
  have hz : (s.extract a b).size = b - a := ext_size s a b hb
  rw [byteN_list _ _ (by omega), byteN_list _ _ (by omega)]
  congr 2
  simp only [ext_list, List.getElem_take, List.getElem_drop]
theorem timeB_of {s s' : ByteArray} {k k' : Nat} (h : rdN s k 8 = rdN s' k' 8) : timeB s k = timeB s' k' := by unfold timeB; rw [h]
/-- An event's raw fields at k. -/
structure RawEq (s : ByteArray) (k : Nat) (e : ByteArray) : Prop where
  t : timeB e 0 = timeB s k
  src : byteN e 8 = byteN s (k + 8)
  n : rdN e 9 8 = rdN s (k + 9) 8
  d : byteN e 17 = byteN s (k + 17)
  p : rdN e 18 8 = rdN s (k + 18) 8
theorem raw_ext (s : ByteArray) (k : Nat) (h : k + 26 ≤ s.size) : RawEq s k (s.extract k (k + 26)) :=
  ⟨timeB_of (rdN_ext s k (k + 26) 0 8 (by omega)), byteN_ext s k (k + 26) 8 (by omega) h, rdN_ext s k (k + 26) 9 8 (by omega), byteN_ext s k (k + 26) 17 (by omega) h, rdN_ext s k (k + 26) 18 8 (by omega)⟩
def rawR (s : ByteArray) (k : Nat) : Bool := rightE (timeB s k) (wrap64 (byteN s (k + 8) - 1)) (unI (rdN s (k + 9) 8 : Nat)) (byteN s (k + 17))
def rawA (s : ByteArray) (k : Nat) : Array Value := #[.float .f64 (timeB s k), .int .i64 (wrap64 (byteN s (k + 8) - 1)), .int .i64 (unI (rdN s (k + 9) 8 : Nat)), .int .i64 (byteN s (k + 17)), .int .i64 (unI (rdN s (k + 18) 8 : Nat))]
theorem RawEq.right {s : ByteArray} {k : Nat} {e : ByteArray} (h : RawEq s k e) : rawR e 0 = rawR s k := by
  unfold rawR
  rw [Nat.zero_add, Nat.zero_add, Nat.zero_add, h.t, h.src, h.n, h.d]
theorem RawEq.arr {s : ByteArray} {k : Nat} {e : ByteArray} (h : RawEq s k e) : rawA e 0 = rawA s k := by
  unfold rawA
  rw [Nat.zero_add, Nat.zero_add, Nat.zero_add, Nat.zero_add, h.t, h.src, h.n, h.d, h.p]
theorem gevE_short {s : ByteArray} (h : s.size < 26) : gevE s = 5 := by
  unfold gevE endE
  rw [ge_short s 0 (by omega), if_pos rfl]
theorem gevE_long {s : ByteArray} (h : 26 < s.size) : gevE s = 6 := by
  obtain ⟨_, _, _, _, _, k, sh⟩ := ge_in s 0 (by omega)
  unfold gevE endE
  rw [k, sh, if_neg (by decide), if_pos (.inl (by omega))]
theorem endE_at (s : ByteArray) (k : Int) (ok : Bool) (h : k = (s.size : Int)) : endE s k false ok = if ok then 0 else 6 := by
  unfold endE
  rw [if_neg (by decide)]
  cases ok
  · rw [if_pos (.inr rfl)]; rfl
  · rw [if_neg]
    · rfl
    · rintro (h1 | h1)
      · omega
      · exact absurd h1 (by decide)
theorem gev_at {s : ByteArray} (h : s.size = 26) : gevE s = (if rawR s 0 then 0 else 6) ∧ gevV s = .agg (if rawR s 0 then rawA s 0 else evZ) := by
  obtain ⟨t, a, n, d, p, k, sh⟩ := ge_in s 0 (by omega)
  have e : gevE s = if rawR s 0 then 0 else 6 := by
    unfold gevE
    rw [t, a, n, d, k, sh]
    exact endE_at s _ _ (by omega)
  refine ⟨e, ?_⟩
  unfold gevV orZ evC
  rw [e, t, a, n, d, p]
  cases rawR s 0
  · rw [if_neg (by decide)]; rfl
  · rw [if_pos (by rfl)]; rfl
theorem gm_at {s : ByteArray} (h : s.size = 27) : gmE s = (if rawR s 1 && decide (byteN s 0 ≤ 1) then 0 else 6) ∧ gmV s = .agg (if rawR s 1 && decide (byteN s 0 ≤ 1) then (rawA s 1).push (.bool (byteN s 0 == 1)) else evZ.push (.bool false)) := by
  obtain ⟨t, a, n, d, p, k, sh⟩ := ge_in s 1 (by omega)
  have k0 : byteK s 0 = 1 := byteK_in (by omega)
  have s0 : byteS s 0 false = false := byteS_in (by omega) _
  have e : gmE s = if rawR s 1 && decide (byteN s 0 ≤ 1) then 0 else 6 := by
    unfold gmE
    rw [k0, s0, t, a, n, d, k, sh]
    exact endE_at s _ _ (by omega)
  refine ⟨e, ?_⟩
  unfold gmV orZ
  rw [e, k0, t, a, n, d, p]
  cases rawR s 1 && decide (byteN s 0 ≤ 1)
  · rw [if_neg (by decide)]; rfl
  · rw [if_pos (by rfl)]; rfl
theorem gd_at {s : ByteArray} (h : s.size = 27) : gdE s = (if rawR s 0 && decide (byteN s 26 ≤ 7) then 0 else 6) ∧ gdV s = .agg (if rawR s 0 && decide (byteN s 26 ≤ 7) then (rawA s 0).push (.int .i64 (byteN s 26)) else evZ.push (.int .i64 0)) := by
  obtain ⟨t, a, n, d, p, k, sh⟩ := ge_in s 0 (by omega)
  have k0 : byteK s 26 = 27 := byteK_in (by omega)
  have s0 : byteS s 26 false = false := byteS_in (by omega) _
  rw [Nat.zero_add] at k
  have e : gdE s = if rawR s 0 && decide (byteN s 26 ≤ 7) then 0 else 6 := by
    unfold gdE
    rw [k, sh, k0, s0, t, a, n, d]
    exact endE_at s _ _ (by omega)
  refine ⟨e, ?_⟩
  unfold gdV orZ
  rw [e, k, t, a, n, d, p]
  cases rawR s 0 && decide (byteN s 26 ≤ 7)
  · rw [if_neg (by decide)]; rfl
  · rw [if_pos (by rfl)]; rfl
theorem gmE_short {s : ByteArray} (h : s.size < 27) : gmE s = 5 := by
  have e : geSh s (byteK s 0) (byteS s 0 false) = true := by
    by_cases hz : 0 < s.size
    · rw [byteK_in hz, byteS_in hz]
      exact ge_short s 1 (by omega)
    · rw [show byteS s 0 false = true from if_neg hz]
      exact geSh_true _ _
  unfold gmE endE
  rw [e, if_pos rfl]
theorem gmE_long {s : ByteArray} (h : 27 < s.size) : gmE s = 6 := by
  obtain ⟨_, _, _, _, _, k, sh⟩ := ge_in s 1 (by omega)
  have k0 : byteK s 0 = 1 := byteK_in (by omega)
  have s0 : byteS s 0 false = false := byteS_in (by omega) _
  unfold gmE endE
  rw [k0, s0, k, sh, if_neg (by decide), if_pos (.inl (by omega))]
theorem gdE_short {s : ByteArray} (h : s.size < 27) : gdE s = 5 := by
  have e : byteS s (geK s 0) (geSh s 0 false) = true := by
    by_cases hz : s.size < 26
    · rw [ge_short s 0 (by omega)]
      exact byteS_true _ _
    · obtain ⟨_, _, _, _, _, k, sh⟩ := ge_in s 0 (by omega)
      rw [k, sh]
      exact if_neg (by omega)
  unfold gdE endE
  rw [e, if_pos rfl]
theorem gdE_long {s : ByteArray} (h : 27 < s.size) : gdE s = 6 := by
  obtain ⟨_, _, _, _, _, k, sh⟩ := ge_in s 0 (by omega)
  have k0 : byteK s 26 = 27 := byteK_in (by omega)
  have s0 : byteS s 26 false = false := byteS_in (by omega) _
  rw [Nat.zero_add] at k
  unfold gdE endE
  rw [k, sh, k0, s0, if_neg (by decide), if_pos (.inl (by omega))]
/-- The bytes of an event without its Dst. -/
theorem raw_gev2 (s : ByteArray) (h : s.size = 26) (g : ByteArray) (hg : g = s.extract 0 17 ++ s.extract 18 s.size) : g.size = 25 ∧ timeB g 0 = timeB s 0 ∧ byteN g 8 = byteN s 8 ∧ rdN g 9 8 = rdN s 9 8 ∧ rdN g 17 8 = rdN s 18 8 := by
  subst hg
  have hz : (s.extract 0 17 ++ s.extract 18 s.size).size = 25 := by rw [ByteArray.size_append, ext_size _ _ _ (by omega), ext_size _ _ _ (by omega), h]
  have hl : s.data.toList.length = 26 := by rw [dlen]; exact h
  have hd : (s.extract 0 17 ++ s.extract 18 s.size).data.toList = s.data.toList.take 17 ++ s.data.toList.drop 18 := by
    rw [app_data, ext_list, ext_list, List.drop_zero, h]
    congr 1
    exact List.take_of_length_le (by rw [List.length_drop, hl]; exact Nat.le_refl _)
  have hlo : ∀ p, p + 8 ≤ 17 → rdN (s.extract 0 17 ++ s.extract 18 s.size) p 8 = rdN s p 8 := by
    intro p hp
    unfold rdN
    rw [hd, List.drop_append_of_le_length (by rw [List.length_take, hl]; omega), List.take_append_of_le_length (by rw [List.length_drop, List.length_take, hl]; omega), List.drop_take, List.take_take, Nat.min_eq_left (by omega)]
  refine ⟨hz, timeB_of (hlo 0 (by omega)), ?_, hlo 9 (by omega), ?_⟩
  · rw [byteN_list _ _ (by omega), byteN_list _ _ (by omega)]
    congr 2
    simp only [hd]
    rw [List.getElem_append_left (by rw [List.length_take, hl]; omega), List.getElem_take]
  · unfold rdN
    rw [hd, List.drop_left' (by rw [List.length_take, hl]; rfl)]
theorem gev_of (s : ByteArray) (h : s.size = 26) (g : ByteArray) (hg : g = s.extract 0 17 ++ s.extract 18 s.size) : ofE g (byteN s 17) = gevE s ∧ ofV g (byteN s 17) = gevV s := by
  obtain ⟨hz, t, a, n, p⟩ := raw_gev2 s h g hg
  obtain ⟨e1, e2⟩ := of25 g (byteN s 17) hz
  obtain ⟨e3, e4⟩ := gev_at h
  have hlt := g[8].toNat_lt
  have ha : (g[8].toNat : Int) - 1 = wrap64 (byteN s 8 - 1) := by rw [← a, byteN_in (by omega)]; exact (IntWalk.wrap64_in _ (by omega)).symm
  have hr : rightE (timeB g 0) ((g[8].toNat : Int) - 1) (unI (rdN g 9 8 : Nat)) (byteN s 17) = rawR s 0 := by
    unfold rawR
    rw [ha, t, n, Nat.zero_add, Nat.zero_add, Nat.zero_add]
  rw [hr] at e1 e2
  refine ⟨e1.trans e3.symm, ?_⟩
  rw [e2, e4, ha, t, n, p]
  unfold orZ rawA
  rw [Nat.zero_add, Nat.zero_add, Nat.zero_add, Nat.zero_add]
  cases rawR s 0
  · rw [if_neg (by decide)]; rfl
  · rw [if_pos (by rfl)]; rfl
end Go.Proofs.Ytpgbfglfmmohdaa
