/- The last walks of package pack: lists read by the reference; the same numbers? No condition but sizes that any memory has. -/
import Derived.Test.YtpgbfglfmmohdaaPack7
set_option linter.unusedVariables false
set_option maxRecDepth 20000
namespace Go.Proofs.Ytpgbfglfmmohdaa
open Go.RowKit Go.Deep

theorem rreadi_any (s : ByteArray) (p : Nat) (w : World) (h : p + 8 ≤ s.size) (hm : s.size ≤ 9223372036854775807) :
    Calls Try.prog 44 #[.string s, .int .i64 p] w fun e w' => e = .returned (.tuple #[.int .i64 (unI (rdN s p 8 : Nat)), .int .i64 (p + 8 : Nat), .int .i64 0]) ∧ w = w' := by
  obtain ⟨h1, _, h3, h4⟩ := ru_ok h
  rw [← h1, ← h3, ← h4]
  exact rreadi_all s p w hm

set_option maxHeartbeats 400000 in
theorem rreadlist_all (s : ByteArray) (p : Int) (w : World) (hm : s.size ≤ 9223372036854775807) :
    Calls Try.prog 48 #[.string s, .int .i64 p] w (ListBack s p w) := by
  rcases rc_ways 512 8 s p with h | ⟨h0, h1, h2⟩ | ⟨q, rfl, h0, hh⟩
  · have e := rc_range (most := 512) (size := 8) h
    have hfin : ∀ w', Below w.heap.size w w' → ListBack s p w (.returned (.tuple #[.slice none 0 0, .int .i64 0, .int .i64 3])) w' := fun w' hb => ⟨_, by rw [rc_no (by rw [e]; decide), e], by rw [rl_no (by rw [e]; decide)]; exact OwnI.nil _ _, hb⟩
    clear e
    rcases h with h | h
    · go_enter Try.func48, Try.ntmps48
      go_wp2
      go_ret3
      exact hfin _ (Below.refl _ _)
    · go_enter Try.func48, Try.ntmps48
      go_wp2
      all_goals go_ret3
      all_goals exact hfin _ (Below.refl _ _)
  · have e := rc_short (most := 512) (size := 8) (s := s) (p := p) (by omega) h2
    have hfin : ∀ w', Below w.heap.size w w' → ListBack s p w (.returned (.tuple #[.slice none 0 0, .int .i64 0, .int .i64 5])) w' := fun w' hb => ⟨_, by rw [rc_no (by rw [e]; decide), e], by rw [rl_no (by rw [e]; decide)]; exact OwnI.nil _ _, hb⟩
    clear e
    go_enter Try.func48, Try.ntmps48
    go_wp2
    go_ret3
    exact hfin _ (Below.refl _ _)
  · have hq1 : q < s.size := by omega
    have hq2 : q + 1 < s.size := by omega
    have Hn := hide (rd2_eq s q h0)
    have hb1 := s[q].toNat_lt
    have hb2 := s[q + 1].toNat_lt
    have hd1 : decide (s.size < q) = false := by simp; omega
    have hd2 : decide ((q : Int) < 0) = false := by simp
    rcases hh with h | ⟨h1, h2⟩ | ⟨h1, h2⟩
    · have e := rc_big (most := 512) (size := 8) h0 h
      have hfin : ∀ w', Below w.heap.size w w' → ListBack s q w (.returned (.tuple #[.slice none 0 0, .int .i64 0, .int .i64 4])) w' := fun w' hb => ⟨_, by rw [rc_no (by rw [e]; decide), e], by rw [rl_no (by rw [e]; decide)]; exact OwnI.nil _ _, hb⟩
      clear e
      rw [← Hn.out] at h
      have k1 : IntKind.i64.wrap ((q : Int) + 1) = (q : Int) + 1 := IntWalk.i64_in _ (by omega)
      have k2 : IntKind.i64.wrap (s[q].toNat : Int) = (s[q].toNat : Int) := IntWalk.i64_in _ (by omega)
      have k3 : IntKind.i64.wrap ((s[q].toNat : Int) * 256) = (s[q].toNat : Int) * 256 := IntWalk.i64_in _ (by omega)
      have k4 : IntKind.i64.wrap (s[q + 1].toNat : Int) = (s[q + 1].toNat : Int) := IntWalk.i64_in _ (by omega)
      have k5 : IntKind.i64.wrap ((s[q].toNat : Int) * 256 + (s[q + 1].toNat : Int)) = (s[q].toNat : Int) * 256 + (s[q + 1].toNat : Int) := IntWalk.i64_in _ (by omega)
      have k6 : 0 ≤ (q : Int) + 1 := by omega
      have k7 := run_index_str Try.underlying9 s .i64 ((q : Int) + 1) (q + 1) (by omega) hq2
      go_enter Try.func48, Try.ntmps48
      go_wp2
      go_quiet (fail)
      clear k1 k2 k3 k4 k5 k6 k7
      go_wp2
      go_ret3
      exact hfin _ (below_drewN (Below.refl _ _) _)
    · have e := rc_left (most := 512) (size := 8) h0 h1 h2
      have hfin : ∀ w', Below w.heap.size w w' → ListBack s q w (.returned (.tuple #[.slice none 0 0, .int .i64 0, .int .i64 5])) w' := fun w' hb => ⟨_, by rw [rc_no (by rw [e]; decide), e], by rw [rl_no (by rw [e]; decide)]; exact OwnI.nil _ _, hb⟩
      clear e
      rw [← Hn.out] at h1 h2
      have k1 : IntKind.i64.wrap ((q : Int) + 1) = (q : Int) + 1 := IntWalk.i64_in _ (by omega)
      have k2 : IntKind.i64.wrap (s[q].toNat : Int) = (s[q].toNat : Int) := IntWalk.i64_in _ (by omega)
      have k3 : IntKind.i64.wrap ((s[q].toNat : Int) * 256) = (s[q].toNat : Int) * 256 := IntWalk.i64_in _ (by omega)
      have k4 : IntKind.i64.wrap (s[q + 1].toNat : Int) = (s[q + 1].toNat : Int) := IntWalk.i64_in _ (by omega)
      have k5 : IntKind.i64.wrap ((s[q].toNat : Int) * 256 + (s[q + 1].toNat : Int)) = (s[q].toNat : Int) * 256 + (s[q + 1].toNat : Int) := IntWalk.i64_in _ (by omega)
      have k6 : 0 ≤ (q : Int) + 1 := by omega
      have k7 := run_index_str Try.underlying9 s .i64 ((q : Int) + 1) (q + 1) (by omega) hq2
      go_enter Try.func48, Try.ntmps48
      go_wp2
      go_quiet (fail)
      clear k1 k2 k3 k4 k5 k6 k7
      go_wp2
      go_ret3
      exact hfin _ (below_drewN (Below.refl _ _) _)
    · obtain ⟨e, e2⟩ := rc_ok (most := 512) (size := 8) h0 h1 h2
      have hfin : ∀ v w', OwnI w' w.heap.size v (rlItems s q (rdN s q 2)) → Below w.heap.size w w' → ListBack s q w (.returned (.tuple #[v, .int .i64 ((q + 2 + 8 * rdN s q 2 : Nat)), .int .i64 0])) w' := fun v w' ho hb => ⟨v, by rw [e2, e], by rw [rl_ok e]; exact ho, hb⟩
      clear e e2
      rw [← Hn.out] at h1 h2 hfin
      have Hfin := hide hfin
      clear hfin
      have k1 : IntKind.i64.wrap ((q : Int) + 1) = (q : Int) + 1 := IntWalk.i64_in _ (by omega)
      have k2 : IntKind.i64.wrap (s[q].toNat : Int) = (s[q].toNat : Int) := IntWalk.i64_in _ (by omega)
      have k3 : IntKind.i64.wrap ((s[q].toNat : Int) * 256) = (s[q].toNat : Int) * 256 := IntWalk.i64_in _ (by omega)
      have k4 : IntKind.i64.wrap (s[q + 1].toNat : Int) = (s[q + 1].toNat : Int) := IntWalk.i64_in _ (by omega)
      have k5 : IntKind.i64.wrap ((s[q].toNat : Int) * 256 + (s[q + 1].toNat : Int)) = (s[q].toNat : Int) * 256 + (s[q + 1].toNat : Int) := IntWalk.i64_in _ (by omega)
      have k6 : 0 ≤ (q : Int) + 1 := by omega
      have k7 := run_index_str Try.underlying9 s .i64 ((q : Int) + 1) (q + 1) (by omega) hq2
      go_enter Try.func48, Try.ntmps48
      go_wp2
      go_quiet (fail)
      clear k1 k2 k3 k4 k5 k6 k7
      have hcast : (s[q].toNat : Int) * 256 + (s[q + 1].toNat : Int) = ((s[q].toNat * 256 + s[q + 1].toNat : Nat) : Int) := by omega
      rw [hcast]
      clear hcast hb1 hb2 Hn
      generalize s[q].toNat * 256 + s[q + 1].toNat = n at *
      go_wp2
      go_loopw [8, 9] (fun v i wr => RdRel s q n w v i wr) (fun _ i _ => n - (intOf i).toNat)
      case atStart => exact ⟨0, Nat.zero_le _, rfl, OwnI.nil _ _, below_drewN (Below.refl _ _) _⟩
      case round =>
        obtain ⟨k, hk, rfl, hown, hb⟩ := hrel
        by_cases hlt : k < n
        · have hbd : q + 2 + 8 * k + 8 ≤ s.size := by omega
          have Hs := hide (rlItems_succ s q k)
          have hll := rlItems_length s q k
          generalize rlItems s q k = cur at *
          have hll2 : cur.length ≤ 512 := by omega
          clear hll
          have hcall := rreadi_any s (q + 2 + 8 * k) wr hbd hm
          rw [show (((q + 2 + 8 * k : Nat)) : Int) = (q : Int) + 2 + 8 * (k : Int) from by omega] at hcall
          have Hcall := Lib.hid hcall
          clear hcall
          go_wp2_with fail
          refine ((Hcall.out)).mono ?_
          rintro e w' ⟨rfl, rfl⟩
          clear Hcall
          generalize rdN s (q + 2 + 8 * k) 8 = x at *
          go_wp2_with (at_builtin; go_must (refine wpList_append_int _ rfl (.tmp 63) (.tmp 65) rfl w.heap.size _ cur rfl hown (unI x) rfl (by omega) hb.size ?_); intro v1 w1 hown1 hext1)
          have hb1 := hb.trans (hext1.below hb.size hown.base)
          clear hown hb hext1
          go_roundw
          case rel => exact ⟨k + 1, by omega, by go_num, by rw [Hs.out]; exact hown1, hb1⟩
          case measure => simp [intOf]; omega
        · obtain rfl : k = n := by omega
          go_wp2
          go_ret3
          exact Hfin.out _ _ hown hb

/-- Two slices that read as one list are the same. -/
theorem ints_same (A A' : Option Addr) (m c c' : Nat) (zs : List Int) (w : World) (B B' : Nat) (hm : m ≤ 9223372036854775807) (hl : zs.length = m) (hr : Reads w B 1 A m (zs.map (Value.int .i64))) (hr' : Reads w B' 1 A' m (zs.map (Value.int .i64))) :
    Calls Try.prog 49 #[.slice A m c, .slice A' m c'] w fun e w' => e = .returned (.bool true) ∧ ∃ k, w' = w.drewN k := by
  have Hl := hide hl
  clear hl
  go_enter Try.func49, Try.ntmps49
  go_wp2
  go_loopw [5] (fun i wr => ∃ k q : Nat, k ≤ m ∧ i = .int .i64 k ∧ wr = w.drewN q) (fun i _ => m - (intOf i).toNat)
  case atStart => exact ⟨0, 0, Nat.zero_le _, rfl, rfl⟩
  case round =>
    obtain ⟨k, q, hk, rfl, rfl⟩ := hrel
    by_cases hlt : k < m
    · obtain ⟨ad, u, rfl, _, hu, hc⟩ := hr.at_ hlt
      obtain ⟨ad', u', rfl, _, hu', hc'⟩ := hr'.at_ hlt
      rw [hu] at hu'
      injection hu' with hu'
      subst hu'
      rw [List.getElem?_map] at hu
      have hkl : k < zs.length := by rw [Hl.out]; exact hlt
      rw [List.getElem?_eq_getElem hkl] at hu
      generalize zs[k] = z at *
      simp only [Option.map_some, Option.some.injEq] at hu
      subst hu
      clear hkl hr hr'
      go_wp2
      go_quiet (fail)
      go_wp2
      go_roundw
      case rel => exact ⟨k + 1, _, by omega, by go_num, rfl⟩
      case measure => simp [intOf]; omega
    · obtain rfl : k = m := by omega
      go_wp2
      go_ret
      exact ⟨rfl, _, rfl⟩
end Go.Proofs.Ytpgbfglfmmohdaa
