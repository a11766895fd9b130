/- More plain laws of pack: what was laid is read as it was, and what is read is laid as the very bytes. No program in sight. No condition. -/
import Derived.Test.YtegegljpmelomaaPackPl2
set_option linter.unusedVariables false
namespace Go.Proofs.Ytegegljpmelomaa
open Go.RowKit Go.Deep

theorem rdN_at (s : ByteArray) (X l Y : List UInt8) (h : s.data.toList = X ++ (l ++ Y)) : rdN s X.length l.length = num l := by
  unfold rdN
  rw [h, List.drop_left, List.take_left]
theorem ext_at (s : ByteArray) (X l Y : List UInt8) (h : s.data.toList = X ++ (l ++ Y)) : s.extract X.length (X.length + l.length) = bs l := by
  apply ByteArray.ext
  apply Array.toList_inj.1
  rw [Lib.extract_data, h, List.drop_left, Nat.add_sub_cancel_left, List.take_left]
  rfl
theorem app_data (a b : ByteArray) : (a ++ b).data.toList = a.data.toList ++ b.data.toList := by simp
theorem dlen (a : ByteArray) : a.data.toList.length = a.size := by simp
theorem bs_app (a b : List UInt8) : bs (a ++ b) = bs a ++ bs b := by
  apply ByteArray.ext
  apply Array.toList_inj.1
  rw [app_data]
  rfl
theorem unI_lo (m : Nat) (h : m < 18446744073709551616) : IntKind.u64.wrap (unI m + 9223372036854775808) = m := by
  unfold unI wrap64
  simp only [IntKind.wrap_u64]
  omega
theorem unI_back (m : Int) (h0 : -9223372036854775808 ≤ m) (h1 : m ≤ 9223372036854775807) : unI (IntKind.u64.wrap (m + 9223372036854775808)) = m := by
  unfold unI wrap64
  simp only [IntKind.wrap_u64]
  omega

/-! What was laid is read as it was. -/
theorem u_back (a b : ByteArray) (n : Int) (h0 : 0 ≤ n) (h1 : n ≤ 18446744073709551615) : ((rdN ((a ++ uS n) ++ b) a.size 8 : Nat) : Int) = n := by
  have h := rdN_at ((a ++ uS n) ++ b) a.data.toList (be 8 n.toNat) b.data.toList (by rw [app_data, app_data, List.append_assoc]; rfl)
  rw [dlen, be_length] at h
  rw [h, num_be, Nat.mod_eq_of_lt (by omega)]
  omega
theorem i_back (a b : ByteArray) (m : Int) (h0 : -9223372036854775808 ≤ m) (h1 : m ≤ 9223372036854775807) : unI ((rdN ((a ++ iS m) ++ b) a.size 8 : Nat) : Int) = m := by
  unfold iS
  rw [u_back _ _ _ (wrap_u64_rng _).1 (wrap_u64_rng _).2]
  exact unI_back m h0 h1
theorem us_size (n : Int) : (uS n).size = 8 := by unfold uS; rw [bs_size, be_length]
theorem is_size (n : Int) : (iS n).size = 8 := us_size _
theorem text_num (a b s : ByteArray) (h : s.size ≤ 4096) : rdN ((a ++ (bs (be 2 s.size) ++ s)) ++ b) a.size 2 = s.size := by
  have h2 := rdN_at ((a ++ (bs (be 2 s.size) ++ s)) ++ b) a.data.toList (be 2 s.size) (s.data.toList ++ b.data.toList) (by rw [app_data, app_data, app_data, bs_data]; simp only [List.append_assoc])
  rw [dlen, be_length] at h2
  rw [h2, num_be, Nat.mod_eq_of_lt (by omega)]
theorem text_ext (a b s : ByteArray) : ((a ++ (bs (be 2 s.size) ++ s)) ++ b).extract (a.size + 2) (a.size + 2 + s.size) = s := by
  have h2 := ext_at ((a ++ (bs (be 2 s.size) ++ s)) ++ b) (a.data.toList ++ be 2 s.size) s.data.toList b.data.toList (by rw [app_data, app_data, app_data, bs_data]; simp only [List.append_assoc])
  rw [List.length_append, dlen, be_length, dlen] at h2
  exact h2
theorem list_num (a b : ByteArray) (zs : List Int) (h : zs.length ≤ 512) : rdN ((a ++ listS zs) ++ b) a.size 2 = zs.length := by
  have h2 := rdN_at ((a ++ listS zs) ++ b) a.data.toList (be 2 zs.length) (liB zs ++ b.data.toList) (by rw [app_data, app_data]; unfold listS; rw [bs_data]; simp only [List.append_assoc])
  rw [dlen, be_length] at h2
  rw [h2, num_be, Nat.mod_eq_of_lt (by omega)]
theorem listS_size (zs : List Int) : (listS zs).size = 2 + 8 * zs.length := by unfold listS; rw [bs_size, List.length_append, be_length, liB_length]
theorem list_items (a b : ByteArray) (zs : List Int) (hz : ∀ z ∈ zs, -9223372036854775808 ≤ z ∧ z ≤ 9223372036854775807) : ∀ k, k ≤ zs.length → rlItems ((a ++ listS zs) ++ b) a.size k = zs.take k := by
  intro k
  induction k with
  | zero => intro _; simp [rlItems]
  | succ k ih =>
    intro hk
    have hkl : k < zs.length := by omega
    rw [rlItems_succ, ih (by omega), List.take_succ_eq_append_getElem hkl]
    congr 2
    have hsplit : liB zs = liB (zs.take k) ++ (be 8 (IntKind.u64.wrap (zs[k] + 9223372036854775808)).toNat ++ liB (zs.drop (k + 1))) := by
      have e1 : zs = zs.take k ++ (zs[k] :: zs.drop (k + 1)) := by rw [← List.drop_eq_getElem_cons hkl, List.take_append_drop]
      conv => lhs; rw [e1]
      unfold liB
      rw [List.flatMap_append, List.flatMap_cons]
    have h2 := rdN_at ((a ++ listS zs) ++ b) (a.data.toList ++ be 2 zs.length ++ liB (zs.take k)) (be 8 (IntKind.u64.wrap (zs[k] + 9223372036854775808)).toNat) (liB (zs.drop (k + 1)) ++ b.data.toList)
      (by rw [app_data, app_data]; unfold listS; rw [bs_data, hsplit]; simp only [List.append_assoc])
    rw [List.length_append, List.length_append, dlen, be_length, be_length, liB_length, List.length_take, Nat.min_eq_left (by omega)] at h2
    have hw := wrap_u64_rng (zs[k] + 9223372036854775808)
    rw [h2, num_be, Nat.mod_eq_of_lt (by omega), Int.toNat_of_nonneg hw.1]
    have hb := hz zs[k] (List.getElem_mem hkl)
    exact unI_back _ hb.1 hb.2

/-! What is read is laid as the very bytes. -/
theorem take_len (s : ByteArray) (p k : Nat) (h : p + k ≤ s.size) : ((s.data.toList.drop p).take k).length = k := by
  rw [List.length_take, List.length_drop, dlen]
  omega
theorem be_rdN (s : ByteArray) (p k : Nat) (h : p + k ≤ s.size) : be k (rdN s p k) = (s.data.toList.drop p).take k := by
  have := be_num ((s.data.toList.drop p).take k)
  rw [take_len s p k h] at this
  exact this
theorem bs_ext (s : ByteArray) (p k : Nat) : bs ((s.data.toList.drop p).take k) = s.extract p (p + k) := by
  apply ByteArray.ext
  apply Array.toList_inj.1
  rw [Lib.extract_data, Nat.add_sub_cancel_left]
  rfl
theorem u_once (s : ByteArray) (p : Nat) (h : p + 8 ≤ s.size) : uS (rdN s p 8 : Nat) = s.extract p (p + 8) := by
  unfold uS
  rw [Int.toNat_natCast, be_rdN s p 8 h, bs_ext]
theorem i_once (s : ByteArray) (p : Nat) (h : p + 8 ≤ s.size) : iS (unI (rdN s p 8 : Nat)) = s.extract p (p + 8) := by
  unfold iS
  have := rdN_lt s p 8
  rw [unI_lo _ (by omega)]
  exact u_once s p h
theorem text_once (s : ByteArray) (p : Nat) (h : p + 2 + rdN s p 2 ≤ s.size) : bs (be 2 (rdN s p 2)) ++ s.extract (p + 2) (p + 2 + rdN s p 2) = s.extract p (p + 2 + rdN s p 2) := by
  rw [be_rdN s p 2 (by omega), ← bs_ext s (p + 2), ← bs_app]
  have e : s.data.toList.drop (p + 2) = (s.data.toList.drop p).drop 2 := by rw [List.drop_drop]
  rw [e, ← List.take_add, bs_ext, Nat.add_assoc]
theorem ext_size (s : ByteArray) (a b : Nat) (h : b ≤ s.size) : (s.extract a b).size = b - a := by
  rw [ByteArray.size_extract]
  omega
theorem list_once (s : ByteArray) (p : Nat) : ∀ m, p + 2 + 8 * m ≤ s.size → liB (rlItems s p m) = (s.data.toList.drop (p + 2)).take (8 * m) := by
  intro m
  induction m with
  | zero => intro _; simp [rlItems, liB]
  | succ m ih =>
    intro h
    have hr := rdN_lt s (p + 2 + 8 * m) 8
    have e : liB (rlItems s p (m + 1)) = liB (rlItems s p m) ++ be 8 (rdN s (p + 2 + 8 * m) 8) := by
      rw [rlItems_succ]
      unfold liB
      rw [List.flatMap_append]
      simp only [List.flatMap_cons, List.flatMap_nil, List.append_nil]
      rw [unI_lo _ (by omega), Int.toNat_natCast]
    have e2 : s.data.toList.drop (p + 2 + 8 * m) = (s.data.toList.drop (p + 2)).drop (8 * m) := by rw [List.drop_drop]
    rw [e, ih (by omega), be_rdN s _ 8 (by omega), e2, ← List.take_add]
    congr 1
theorem list_once_s (s : ByteArray) (p : Nat) (h : p + 2 + 8 * rdN s p 2 ≤ s.size) : listS (rlItems s p (rdN s p 2)) = s.extract p (p + 2 + 8 * rdN s p 2) := by
  unfold listS
  rw [rlItems_length, list_once s p _ h, be_rdN s p 2 (by omega)]
  have e : s.data.toList.drop (p + 2) = (s.data.toList.drop p).drop 2 := by rw [List.drop_drop]
  rw [e, ← List.take_add, bs_ext, Nat.add_assoc]
end Go.Proofs.Ytegegljpmelomaa
