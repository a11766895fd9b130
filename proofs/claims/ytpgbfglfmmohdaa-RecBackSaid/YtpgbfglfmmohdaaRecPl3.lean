/- Plain law: what was laid is got as it was, its time as it is kept. -/
import Derived.Test.YtpgbfglfmmohdaaRdr9
import Derived.Test.YtpgbfglfmmohdaaRecPl2
set_option linter.unusedVariables false
namespace Go.Proofs.Ytpgbfglfmmohdaa
open Go.RowKit Go.Deep

theorem right_norm {t : Nat} {s n d : Int} (h : rightE t s n d = true) : rightE (normF t) s n d = true := by
  obtain ⟨nt, hs, hn, hd⟩ := right_facts h
  exact decide_eq_true ⟨(normF_key nt).1, hs, hn, hd⟩
theorem endE_ok {s : ByteArray} {k : Int} {sh ok : Bool} (hk : k = (s.size : Int)) (hs : sh = false) (ho : ok = true) : endE s k sh ok = 0 := by
  unfold endE
  rw [if_neg (by rw [hs]; decide), if_neg]
  rintro (h | h)
  · omega
  · rw [ho] at h
    exact absurd h (by decide)
theorem gev_back (t : Nat) (s n d p : Int) (ht : t < 18446744073709551616) (hr : rightE t s n d = true) (hp : -9223372036854775808 ≤ p ∧ p ≤ 9223372036854775807) :
    gevE (evS t s n d p) = 0 ∧ gevV (evS t s n d p) = .agg #[.float .f64 (normF t), .int .i64 s, .int .i64 n, .int .i64 d, .int .i64 p] := by
  have h := ge_back (evS t s n d p) [] [] t s n d p ht hr hp (by rw [List.append_nil, List.nil_append])
  rw [show ([] : List UInt8).length = 0 from rfl] at h
  have e : gevE (evS t s n d p) = 0 := by
    unfold gevE
    rw [h.t, h.s, h.n, h.d, h.kk, h.sh]
    exact endE_ok (by rw [ev_size]) rfl (right_norm hr)
  refine ⟨e, ?_⟩
  unfold gevV orZ evC
  rw [e, if_pos rfl, h.t, h.s, h.n, h.d, h.p]
theorem of_back_ (t : Nat) (s n d p : Int) (ht : t < 18446744073709551616) (hr : rightE t s n d = true) (hp : -9223372036854775808 ≤ p ∧ p ≤ 9223372036854775807) :
    ofE (keyR t s n p) d = 0 ∧ ofV (keyR t s n p) d = .agg #[.float .f64 (normF t), .int .i64 s, .int .i64 n, .int .i64 d, .int .i64 p] := by
  have h := of_back (keyR t s n p) [] [] t s n d p ht hr hp (by rw [List.append_nil, List.nil_append])
  rw [show ([] : List UInt8).length = 0 from rfl] at h
  have hz : (keyR t s n p).size = 25 := by unfold keyR; simp only [ByteArray.size_append, us_size, one_size, is_size]
  have e : ofE (keyR t s n p) d = 0 := by
    unfold ofE
    rw [h.t, h.s, h.n, h.kk, h.sh]
    exact endE_ok (by rw [hz]) rfl (right_norm hr)
  refine ⟨e, ?_⟩
  unfold ofV orZ
  rw [e, if_pos rfl, h.t, h.s, h.n, h.p]
theorem gm_back (t : Nat) (s n d p : Int) (a : Bool) (ht : t < 18446744073709551616) (hr : rightE t s n d = true) (hp : -9223372036854775808 ≤ p ∧ p ≤ 9223372036854775807) :
    gmE (oneS (if a then 1 else 0) ++ evS t s n d p) = 0 ∧ gmV (oneS (if a then 1 else 0) ++ evS t s n d p) = .agg #[.float .f64 (normF t), .int .i64 s, .int .i64 n, .int .i64 d, .int .i64 p, .bool a] := by
  generalize hS : oneS (if a then 1 else 0) ++ evS t s n d p = S
  have hz : S.size = 27 := by rw [← hS, ByteArray.size_append, one_size, ev_size]
  have hd : S.data.toList = [UInt8.ofNat (if a then (1 : Int) else 0).toNat] ++ ((evS t s n d p).data.toList ++ []) := by rw [← hS, app_data, List.append_nil]; rfl
  have h := ge_back S _ [] t s n d p ht hr hp hd
  rw [List.length_singleton] at h
  have b := byte_at S [] _ _ hd
  rw [show ([] : List UInt8).length = 0 from rfl] at b
  have hb : byteN S 0 = if a then 1 else 0 := by rw [b]; cases a <;> rfl
  have k0 : byteK S 0 = 1 := byteK_in (by omega)
  have s0 : byteS S 0 false = false := byteS_in (by omega) _
  have e : gmE S = 0 := by
    unfold gmE
    rw [k0, s0, h.t, h.s, h.n, h.d, h.kk, h.sh, hb]
    exact endE_ok (by rw [hz]) rfl (by rw [right_norm hr]; cases a <;> rfl)
  refine ⟨e, ?_⟩
  unfold gmV orZ
  rw [e, if_pos rfl, k0, h.t, h.s, h.n, h.d, h.p, hb]
  cases a <;> rfl
theorem gd_back (t : Nat) (s n d p f : Int) (ht : t < 18446744073709551616) (hr : rightE t s n d = true) (hp : -9223372036854775808 ≤ p ∧ p ≤ 9223372036854775807) (h0 : 0 ≤ f) (h7 : f ≤ 7) :
    gdE (evS t s n d p ++ oneS f) = 0 ∧ gdV (evS t s n d p ++ oneS f) = .agg #[.float .f64 (normF t), .int .i64 s, .int .i64 n, .int .i64 d, .int .i64 p, .int .i64 f] := by
  generalize hS : evS t s n d p ++ oneS f = S
  have hz : S.size = 27 := by rw [← hS, ByteArray.size_append, one_size, ev_size]
  have hd : S.data.toList = (evS t s n d p).data.toList ++ (UInt8.ofNat f.toNat :: []) := by rw [← hS, app_data]; rfl
  have h := ge_back S [] _ t s n d p ht hr hp hd
  rw [show ([] : List UInt8).length = 0 from rfl] at h
  have b := byte_at S _ _ _ hd
  rw [dlen, ev_size, UInt8.toNat_ofNat'] at b
  have k0 : geK S 0 = 26 := h.kk
  have hb : byteN S 26 = f := by rw [b]; omega
  have kk : byteK S 26 = 27 := byteK_in (by omega)
  have s0 : byteS S 26 false = false := byteS_in (by omega) _
  have e : gdE S = 0 := by
    unfold gdE
    rw [k0, h.t, h.s, h.n, h.d, h.sh, kk, s0, hb]
    exact endE_ok (by rw [hz]) rfl (by rw [right_norm hr]; simp [h7])
  refine ⟨e, ?_⟩
  unfold gdV orZ
  rw [e, if_pos rfl, k0, h.t, h.s, h.n, h.d, h.p, hb]
end Go.Proofs.Ytpgbfglfmmohdaa
