/- Plain law: what was laid as an event is read as it was. -/
import Derived.Test.YtpgbfglfmmohdaaRdr8
import Derived.Test.YtpgbfglfmmohdaaRecPl
import Derived.Test.YtpgbfglfmmohdaaLaw02f
set_option linter.unusedVariables false
namespace Go.Proofs.Ytpgbfglfmmohdaa
open Go.RowKit Go.Deep

theorem size_list (s : ByteArray) (l : List UInt8) (h : s.data.toList = l) : s.size = l.length := by rw [← h, dlen]
theorem byte_at (s : ByteArray) (X Y : List UInt8) (b : UInt8) (h : s.data.toList = X ++ (b :: Y)) : byteN s X.length = (b.toNat : Int) := by
  have hz := size_list s _ h
  have hl : X.length < s.size := by rw [hz, List.length_append, List.length_cons]; omega
  unfold byteN
  rw [dif_pos hl]
  have e : s[X.length] = s.data.toList[X.length]'(by rw [dlen]; exact hl) := rfl
  rw [e]
  congr 2
  simp only [h, List.getElem_append_right (Nat.le_refl _), Nat.sub_self, List.getElem_cons_zero]
theorem i_at (s : ByteArray) (X Y : List UInt8) (m : Int) (h0 : -9223372036854775808 ≤ m) (h1 : m ≤ 9223372036854775807) (h : s.data.toList = X ++ ((iS m).data.toList ++ Y)) : unI ((rdN s X.length 8 : Nat) : Int) = m := by
  have := i_back (bs X) (bs Y) m h0 h1
  have e : (bs X ++ iS m) ++ bs Y = s := by
    apply ByteArray.ext
    apply Array.toList_inj.1
    rw [app_data, app_data, bs_data, bs_data, h, List.append_assoc]
  rw [e, bs_size] at this
  exact this
theorem evS_data (t : Nat) (s n d p : Int) : (evS t s n d p).data.toList = (uS (keyB (normF t))).data.toList ++ ([UInt8.ofNat (s + 1).toNat] ++ ((iS n).data.toList ++ ([UInt8.ofNat d.toNat] ++ (iS p).data.toList))) := by
  unfold evS
  rw [app_data, app_data, app_data, app_data, List.append_assoc, List.append_assoc, List.append_assoc]
  rfl
theorem is_len (n : Int) : (iS n).data.toList.length = 8 := by unfold iS; rw [us_len]
structure GeAt (b : ByteArray) (k : Nat) (t : Nat) (s n d p : Int) : Prop where
  t : geT b k = t
  s : geS b k = s
  n : geN b k = n
  d : geD b k = d
  p : geP b k = p
  kk : geK b k = k + 26
  sh : ∀ sh, geSh b k sh = sh
theorem wordK_in {s : ByteArray} {k : Nat} (h : k + 8 ≤ s.size) : wordK s k = k + 8 := if_pos h
theorem byteK_in {s : ByteArray} {k : Nat} (h : k < s.size) : byteK s k = k + 1 := if_pos h
theorem wordS_in {s : ByteArray} {k : Nat} (h : k + 8 ≤ s.size) (sh : Bool) : wordS s k sh = sh := if_pos h
theorem byteS_in {s : ByteArray} {k : Nat} (h : k < s.size) (sh : Bool) : byteS s k sh = sh := if_pos h
theorem wordN_in {s : ByteArray} {k : Nat} (h : k + 8 ≤ s.size) : wordN s k = unI (rdN s k 8 : Nat) := if_pos h
theorem timeN_in {s : ByteArray} {k : Nat} (h : k + 8 ≤ s.size) : timeN s k = timeB s k := if_pos h
theorem byteN_in {s : ByteArray} {k : Nat} (h : k < s.size) : byteN s k = (s[k].toNat : Int) := dif_pos h
theorem timeB_at (b : ByteArray) (X Y : List UInt8) (t : Nat) (ht : t < 18446744073709551616) (hn : ¬ isNan t) (h : b.data.toList = X ++ ((uS (keyB (normF t))).data.toList ++ Y)) : timeB b X.length = normF t := by
  have hr := keyB_rng (normF t) (normF_lt t ht)
  have e : rdN b X.length 8 = (keyB (normF t)).toNat := by
    have h2 := rdN_at b X (be 8 (keyB (normF t)).toNat) Y (by rw [h, uS_data])
    rw [be_length, num_be] at h2
    rw [h2]
    exact Nat.mod_eq_of_lt (by omega)
  have e0 : unB (rdN b X.length 8) = normF t := by rw [e, unB_keyB _ (normF_lt t ht)]
  have hb : ¬ badB (rdN b X.length 8) := by
    unfold badB
    rw [e0]
    rintro (h | h)
    · exact (normF_key hn).1 h
    · exact normF_ne t ht hn h
  unfold timeB
  rw [if_neg hb, e0]
theorem ge_back (b : ByteArray) (X Y : List UInt8) (t : Nat) (s n d p : Int) (ht : t < 18446744073709551616) (hr : rightE t s n d = true) (hp : -9223372036854775808 ≤ p ∧ p ≤ 9223372036854775807)
    (h : b.data.toList = X ++ ((evS t s n d p).data.toList ++ Y)) : GeAt b X.length (normF t) s n d p := by
  obtain ⟨nt, hs, hn, hd⟩ := right_facts hr
  rw [evS_data] at h
  have hz := size_list b _ h
  simp only [List.length_append, List.length_cons, List.length_nil, us_len, is_len] at hz
  have h1 : b.data.toList = X ++ ((uS (keyB (normF t))).data.toList ++ ([UInt8.ofNat (s + 1).toNat] ++ ((iS n).data.toList ++ ([UInt8.ofNat d.toNat] ++ ((iS p).data.toList ++ Y))))) := by rw [h]; simp only [List.append_assoc]
  have h2 : b.data.toList = (X ++ (uS (keyB (normF t))).data.toList) ++ (UInt8.ofNat (s + 1).toNat :: ((iS n).data.toList ++ ([UInt8.ofNat d.toNat] ++ ((iS p).data.toList ++ Y)))) := by rw [h]; simp only [List.append_assoc, List.cons_append, List.nil_append]
  have h3 : b.data.toList = (X ++ ((uS (keyB (normF t))).data.toList ++ [UInt8.ofNat (s + 1).toNat])) ++ ((iS n).data.toList ++ ([UInt8.ofNat d.toNat] ++ ((iS p).data.toList ++ Y))) := by rw [h]; simp only [List.append_assoc, List.cons_append, List.nil_append]
  have h4 : b.data.toList = (X ++ ((uS (keyB (normF t))).data.toList ++ ([UInt8.ofNat (s + 1).toNat] ++ (iS n).data.toList))) ++ (UInt8.ofNat d.toNat :: ((iS p).data.toList ++ Y)) := by rw [h]; simp only [List.append_assoc, List.cons_append, List.nil_append]
  have h5 : b.data.toList = (X ++ ((uS (keyB (normF t))).data.toList ++ ([UInt8.ofNat (s + 1).toNat] ++ ((iS n).data.toList ++ [UInt8.ofNat d.toNat])))) ++ ((iS p).data.toList ++ Y) := by rw [h]; simp only [List.append_assoc, List.cons_append, List.nil_append]
  have b1 := timeB_at b X _ t ht nt h1
  have b2 := byte_at b _ _ _ h2
  have b3 := i_at b _ _ n (by omega) (by omega) h3
  have b4 := byte_at b _ _ _ h4
  have b5 := i_at b _ _ p hp.1 hp.2 h5
  simp only [List.length_append, List.length_cons, List.length_nil, us_len, is_len, UInt8.toNat_ofNat', Nat.zero_add, Nat.reduceAdd] at b2 b3 b4 b5
  clear h h1 h2 h3 h4 h5
  generalize X.length = k at *
  have k1 : wordK b k = k + 8 := wordK_in (by omega)
  have k2 : byteK b (k + 8) = k + 9 := byteK_in (by omega)
  have k3 : wordK b (k + 9) = k + 17 := wordK_in (by omega)
  have k4 : byteK b (k + 17) = k + 18 := byteK_in (by omega)
  have k5 : wordK b (k + 18) = k + 26 := wordK_in (by omega)
  have s1 := fun sh => wordS_in (s := b) (k := k) (by omega) sh
  have s2 := fun sh => byteS_in (s := b) (k := k + 8) (by omega) sh
  have s3 := fun sh => wordS_in (s := b) (k := k + 9) (by omega) sh
  have s4 := fun sh => byteS_in (s := b) (k := k + 17) (by omega) sh
  have s5 := fun sh => wordS_in (s := b) (k := k + 18) (by omega) sh
  constructor
  · unfold geT
    rw [timeN_in (by omega), b1]
  · unfold geS
    rw [k1, b2, show (((s + 1).toNat % 2 ^ 8 : Nat) : Int) = s + 1 by omega, Int.add_sub_cancel]
    exact IntWalk.wrap64_in s (by omega)
  · unfold geN
    rw [k1, k2, wordN_in (by omega), b3]
  · unfold geD
    rw [k1, k2, k3, b4]
    omega
  · unfold geP
    rw [k1, k2, k3, k4, wordN_in (by omega), b5]
  · unfold geK
    rw [k1, k2, k3, k4, k5]
  · intro sh
    unfold geSh
    rw [k1, k2, k3, k4, s1, s2, s3, s4, s5]
structure OfAt (b : ByteArray) (k : Nat) (t : Nat) (s n p : Int) : Prop where
  t : geT b k = t
  s : geS b k = s
  n : geN b k = n
  p : ofP b k = p
  kk : ofK b k = k + 25
  sh : ∀ sh, ofSh b k sh = sh
theorem of_back (b : ByteArray) (X Y : List UInt8) (t : Nat) (s n d p : Int) (ht : t < 18446744073709551616) (hr : rightE t s n d = true) (hp : -9223372036854775808 ≤ p ∧ p ≤ 9223372036854775807)
    (h : b.data.toList = X ++ ((keyR t s n p).data.toList ++ Y)) : OfAt b X.length (normF t) s n p := by
  obtain ⟨nt, hs, hn, hd⟩ := right_facts hr
  rw [keyR_data, oneS_data] at h
  have hz := size_list b _ h
  simp only [List.length_append, List.length_cons, List.length_nil, us_len, is_len] at hz
  have h1 : b.data.toList = X ++ ((uS (keyB (normF t))).data.toList ++ ([UInt8.ofNat (s + 1).toNat] ++ ((iS n).data.toList ++ ((iS p).data.toList ++ Y)))) := by rw [h]; simp only [List.append_assoc]
  have h2 : b.data.toList = (X ++ (uS (keyB (normF t))).data.toList) ++ (UInt8.ofNat (s + 1).toNat :: ((iS n).data.toList ++ ((iS p).data.toList ++ Y))) := by rw [h]; simp only [List.append_assoc, List.cons_append, List.nil_append]
  have h3 : b.data.toList = (X ++ ((uS (keyB (normF t))).data.toList ++ [UInt8.ofNat (s + 1).toNat])) ++ ((iS n).data.toList ++ ((iS p).data.toList ++ Y)) := by rw [h]; simp only [List.append_assoc, List.cons_append, List.nil_append]
  have h5 : b.data.toList = (X ++ ((uS (keyB (normF t))).data.toList ++ ([UInt8.ofNat (s + 1).toNat] ++ (iS n).data.toList))) ++ ((iS p).data.toList ++ Y) := by rw [h]; simp only [List.append_assoc, List.cons_append, List.nil_append]
  have b1 := timeB_at b X _ t ht nt h1
  have b2 := byte_at b _ _ _ h2
  have b3 := i_at b _ _ n (by omega) (by omega) h3
  have b5 := i_at b _ _ p hp.1 hp.2 h5
  simp only [List.length_append, List.length_cons, List.length_nil, us_len, is_len, UInt8.toNat_ofNat', Nat.zero_add, Nat.reduceAdd] at b2 b3 b5
  clear h h1 h2 h3 h5
  generalize X.length = k at *
  have k1 : wordK b k = k + 8 := wordK_in (by omega)
  have k2 : byteK b (k + 8) = k + 9 := byteK_in (by omega)
  have k3 : wordK b (k + 9) = k + 17 := wordK_in (by omega)
  have k5 : wordK b (k + 17) = k + 25 := wordK_in (by omega)
  have s1 := fun sh => wordS_in (s := b) (k := k) (by omega) sh
  have s2 := fun sh => byteS_in (s := b) (k := k + 8) (by omega) sh
  have s3 := fun sh => wordS_in (s := b) (k := k + 9) (by omega) sh
  have s5 := fun sh => wordS_in (s := b) (k := k + 17) (by omega) sh
  constructor
  · unfold geT
    rw [timeN_in (by omega), b1]
  · unfold geS
    rw [k1, b2, show (((s + 1).toNat % 2 ^ 8 : Nat) : Int) = s + 1 by omega, Int.add_sub_cancel]
    exact IntWalk.wrap64_in s (by omega)
  · unfold geN
    rw [k1, k2, wordN_in (by omega), b3]
  · unfold ofP
    rw [k1, k2, k3, wordN_in (by omega), b5]
  · unfold ofK
    rw [k1, k2, k3, k5]
  · intro sh
    unfold ofSh
    rw [k1, k2, k3, s1, s2, s3, s5]
end Go.Proofs.Ytpgbfglfmmohdaa
