/- The walk of act's events: what a handler sends. No condition but sizes. -/
import Derived.Test.YtpfcmfannkbipaaAct4
import Derived.Test.YtpfcmfannkbipaaOut8
set_option linter.unusedVariables false
set_option linter.unusedSimpArgs false
set_option maxRecDepth 20000
namespace Go.Proofs.Ytpfcmfannkbipaa
open Go.RowKit Go.Deep

attribute [local go_sem] run_store_float
/-- What is sent, in memory of the call's own; or that a time would not come later. -/
def EvTo (w : World) (ok : Bool) (L : List Ev) (e : Ending) (w' : World) : Prop := ∃ q : Sl Ev, e = .returned (.tuple #[q.val, .bool ok]) ∧ q.L = (if ok then L else []) ∧ OwnR 37 5 encEv w' w.heap.size q.val q.L ∧ Below w.heap.size w w'
def EvRel (w : World) (M S E : Array Value) (dl : List Nat) (t fin : Nat) (lp sent : Int) (L : List Snt) (i : Value) (wr : World) : Prop :=
  ∃ (k : Nat) (v : Value), k ≤ L.length ∧ i = .int .i64 k ∧ (L.take k).all (sndOk dl t) = true ∧ EvS w M S E lp v (sndV dl t fin lp sent 0 (L.take k)) wr
theorem evs_begin (w : World) (M S E : Array Value) (lp : Int) :
    EvS w M S E lp (.slice none 0 0) [] (((((w.alloc (.cells M 58)).alloc (.cells #[.int .i64 lp] 3)).alloc (.cells S 61)).alloc (.cells E 37)).alloc (.cells #[.slice none 0 0] 65)) := by
  have hb := allocs_blk [(M, 58), (#[.int .i64 lp], 3), (S, 61), (E, 37), (#[.slice none 0 0], 65)] w
  exact ⟨allocs_below [(M, 58), (#[.int .i64 lp], 3), (S, 61), (E, 37), (#[.slice none 0 0], 65)] w, by simp, hb 0 _ rfl, hb 1 _ rfl, hb 2 _ rfl, hb 3 _ rfl, hb 4 _ rfl, OwnR.nil⟩
set_option maxHeartbeats 4000000 in
theorem events_any (m : Mdl) (lp : Int) (s : St) (e : Ev) (l : Sl Snt) (w : World) (hm : m.At w) (h1 : 1 ≤ m.dl.L.length) (h2 : m.dl.L.length ≤ 1000) (hl : l.At SntAt 3 w) (hl2 : l.L.length ≤ 1000) (hs : 0 ≤ s.sent) (hs2 : s.sent ≤ 1099511627776) :
    Calls Try.prog 78 #[m.val, .int .i64 lp, s.val, .agg #[.float .f64 e.1, .int .i64 e.2.1, .int .i64 e.2.2.1, .int .i64 e.2.2.2.1, .int .i64 e.2.2.2.2], l.val] w
      (EvTo w (l.L.all (sndOk m.dl.L e.1)) (sndV m.dl.L e.1 m.fin lp s.sent 0 l.L)) := by
  have hP1 := fun (h : l.L.all (sndOk m.dl.L e.1) = false) W (hb : Below w.heap.size w W) => (show EvTo w (l.L.all (sndOk m.dl.L e.1)) (sndV m.dl.L e.1 m.fin lp s.sent 0 l.L) (.returned (.tuple #[.slice none 0 0, .bool false])) W from by
    rw [h]; exact ⟨⟨none, 0, []⟩, rfl, rfl, OwnR.nil, hb⟩)
  have hP2 := fun (h : l.L.all (sndOk m.dl.L e.1) = true) (q : Sl Ev) W (hL : q.L = sndV m.dl.L e.1 m.fin lp s.sent 0 l.L) (hown : OwnR 37 5 encEv W w.heap.size q.val q.L) (hb : Below w.heap.size w W) => (show EvTo w (l.L.all (sndOk m.dl.L e.1)) (sndV m.dl.L e.1 m.fin lp s.sent 0 l.L) (.returned (.tuple #[q.val, .bool true])) W from by
    rw [h]; exact ⟨q, rfl, hL, hown, hb⟩)
  generalize EvTo _ _ _ = Post at *
  have HP1 := hide hP1
  have HP2 := hide hP2
  have hbeg := evs_begin w #[.int .i64 m.seed, .float .f64 m.fin, m.dl.val, m.pl.val, m.ll.val, m.il.val] #[s.wd.val, .int .i64 s.sent, .int .i64 s.dice] #[.float .f64 e.1, .int .i64 e.2.1, .int .i64 e.2.2.1, .int .i64 e.2.2.2.1, .int .i64 e.2.2.2.2] lp
  have hput := fun wr v L k (x : Snt) hS hd hL hk => put_any w wr m.seed m.fin m.dl m.pl.val m.ll.val m.il.val s.wd.val (.int .i64 s.dice) (.int .i64 e.2.1) (.int .i64 e.2.2.1) (.int .i64 e.2.2.2.1) (.int .i64 e.2.2.2.2) e.1 lp s.sent v L k x hS hd h1 h2 hL hk hs hs2
  have hd := hm.2.2.1
  clear hP1 hP2 hm h1 h2 hs hs2
  obtain ⟨t, src, n, dst, pay⟩ := e
  obtain ⟨seed, fin, dl, pl, ll, il⟩ := m
  obtain ⟨wd, sent, dice⟩ := s
  obtain ⟨lA, lc, ls⟩ := l
  obtain ⟨hr, hn, hc⟩ := hl
  simp only [Mdl.val, St.val, St.pl] at *
  generalize hdv : dl.val = dv at *
  generalize pl.val = pv at *
  generalize ll.val = lv at *
  generalize il.val = iv at *
  generalize wd.val = wv at *
  simp only [Sl.val] at hn hc hl2 ⊢
  have HU := hide hput
  have HD := hide hd
  have HR := hide hr
  have hn2 : ls.length ≤ 9223372036854775807 := by omega
  clear hput hd hr hdv
  go_enter Try.func78, Try.ntmps78
  go_wp2_with fail
  go_loopw [19] (fun i wr => EvRel w #[.int .i64 seed, .float .f64 fin, dv, pv, lv, iv] #[wv, .int .i64 sent, .int .i64 dice] #[.float .f64 t, .int .i64 src, .int .i64 n, .int .i64 dst, .int .i64 pay] dl.L t fin lp sent ls i wr) (fun i _ => ls.length - (intOf i).toNat)
  case atStart => exact ⟨0, .slice none 0 0, Nat.zero_le _, rfl, by simp, hbeg⟩
  case round =>
    clear hbeg
    obtain ⟨k, v, hk, rfl, hall, hS⟩ := hrel
    by_cases hlt : k < ls.length
    · have hx := List.getElem?_eq_getElem hlt
      obtain ⟨a, rfl, h0, h1, h2⟩ := (HR.out.below SntAt.keeps hS.bel) k _ hx
      generalize ls[k] = x at *
      have kI : (k : Int) < (ls.length : Int) := by omega
      have HS := hide hS
      have HA := hide hall
      have HX := hide hx
      clear hS hall hx
      have hS3 := HS.out.below ((Below.refl wr.heap.size wr).alloc (Nat.le_refl _) (.cells #[.int .i64 x.1, .int .i64 x.2.1, .int .i64 x.2.2] 130))
      have hd3 := HD.out.below FlAt.keeps hS3.bel
      have hv3 := Nat.le_trans (sndV_len dl.L t fin lp sent (ls.take k) 0) (by rw [List.length_take]; omega : (ls.take k).length ≤ 1000)
      have HC := hide (HU.out _ _ _ k x hS3 hd3 hv3 (by omega))
      clear hS3 hd3 hv3
      go_wp2_with fail
      refine HC.out.mono ?_
      rintro e w2 ⟨rfl, v', hS4⟩
      clear HC
      have HT := hide (sndV_take (dl := dl.L) (t := t) (fin := fin) (lp := lp) (sent := sent) HX.out)
      cases hok : sndOk dl.L t x
      · have HO := hide (HP1.out (all_fail _ _ _ _ HX.out hok) w2 hS4.bel)
        clear hok hS4
        go_wp2_with fail
        exact HO.out
      · rw [hok, if_pos rfl, ← HT.out] at hS4
        have HS4 := hide hS4
        have HA2 := hide ((all_take_succ (sndOk dl.L t) ls k x HX.out).trans (by rw [HA.out, hok]))
        clear hok hS4
        go_wp2_with fail
        go_roundw
        case rel => exact ⟨k + 1, v', by omega, by go_num, HA2.out, HS4.out⟩
        case measure => simp [intOf]; omega
    · obtain rfl : k = ls.length := by omega
      rw [List.take_length] at hall hS
      have o0 := hS.oB.cell 0
      simp only [List.getElem?_toArray, List.getElem?_cons_zero, List.getElem?_cons_succ] at o0
      obtain ⟨q, rfl, hqL, _, _⟩ := hS.own.form
      have HS := hide hS
      have HL := hide hqL
      have HO := hide (HP2.out hall q wr hqL (by rw [hqL]; exact hS.own.lower (by omega)) hS.bel)
      simp only [Sl.val] at o0 HO
      clear hS hall hqL
      go_wp2_with fail
      exact HO.out
end Go.Proofs.Ytpfcmfannkbipaa
