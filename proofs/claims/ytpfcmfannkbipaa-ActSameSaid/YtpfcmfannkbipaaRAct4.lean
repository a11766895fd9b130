/- The walks of R08's Begin and First, of a model that may be. No condition. -/
import Derived.Test.YtpfcmfannkbipaaAct9
set_option linter.unusedVariables false
set_option linter.unusedSimpArgs false
set_option maxRecDepth 20000
namespace Go.Proofs.Ytpfcmfannkbipaa
open Go.RowKit Go.Deep

attribute [local go_sem] run_store_float
/-- 'append([]E{}, s...)': a copy in memory of its own. -/
theorem app_new {P : Program} {α : Type} {d : Dec α} (e T ty : TypeId) (size bytes : Nat) (z : Value) (enc : α → List Value) (hsz : 0 < size) (hlen : ∀ x, (enc x).length = size) (hone : ∀ x, ∀ u ∈ enc x, u.oneCell' = true)
    (hT : P.underlying T = some (.slice e)) (hinf : (P.info? e).map (fun i => (i.zero, i.size, i.bytes)) = some (some z, size, bytes)) (hz : z.cells.size = size) (hl : Lays d enc)
    (w : World) (s : Sl α) (hs : s.At d size w) (hb : s.L.length * bytes ≤ 140737488355328) (h6 : s.L.length ≤ 9223372036854775807) :
    ∃ v' w', (Builtin.append_ #[T, T] ty #[.slice (some ⟨w.heap.size, 0, none⟩) 0 0, .slice s.A s.L.length s.c]).run P (w.alloc (.cells #[] e)) = .ok v' w' ∧ OwnR e size enc w' w.heap.size v' s.L ∧ Below w.heap.size w w' := by
  have hown : OwnR e size enc (w.alloc (.cells #[] e)) w.heap.size (.slice (some ⟨w.heap.size, 0, none⟩) 0 0) ([] : List α) :=
    ⟨by simp, .inr ⟨w.heap.size, 0, #[], rfl, Nat.le_refl _, Blk.new w e #[], Nat.le_refl _, Nat.zero_le _, by simp, by simp⟩⟩
  have hz1 : (w.alloc (.cells #[] e)).heap.size = w.heap.size + 1 := Array.size_push ..
  have hr := (RowD.reads hsz hlen hl hs.1).alloc (Nat.le_refl _) (.cells #[] e)
  obtain ⟨v', w', hrun, h2, h3⟩ := run_append_src (P := P) e T ty size bytes z enc hsz hlen hone hT hinf hz (w.alloc (.cells #[] e)) w.heap.size w.heap.size _ [] s.L s.A s.L.length s.c hown hr rfl (by simpa using hb) (by simpa using h6) (by rw [hz1]; omega)
  refine ⟨v', w', hrun, h2, ?_⟩
  have h4 : Below w.heap.size (w.alloc (.cells #[] e)) w' := h3.below (by rw [hz1]; omega) (fun k hk => Nat.le_of_eq (Option.some.inj hk))
  exact ((Below.refl w.heap.size w).alloc (Nat.le_refl _) _).trans h4
def RBegTo (w : World) (m : Mdl) (e : Ending) (w' : World) : Prop := ∃ q : Sl Ev, e = .returned q.val ∧ q.L = begV m.fin 0 m.il.L ∧ OwnR 37 5 encEv w' w.heap.size q.val q.L ∧ Below w.heap.size w w'
set_option maxHeartbeats 2000000 in
theorem rbegin_any (m : Mdl) (w : World) (hm : m.At w) (hc : chkB m = true) : Calls Try.prog 52 #[m.val] w (RBegTo w m) := by
  have hX := Blk.new w 58 #[.int .i64 m.seed, .float .f64 m.fin, m.dl.val, m.pl.val, m.ll.val, m.il.val]
  have hb0 : Below w.heap.size w (w.alloc (.cells #[.int .i64 m.seed, .float .f64 m.fin, m.dl.val, m.pl.val, m.ll.val, m.il.val] 58)) := (Below.refl _ _).alloc (Nat.le_refl _) _
  have n1 : m.il.L.length ≤ m.il.c ∧ m.il.c ≤ 9223372036854775807 := hm.2.2.2.2.2.2
  have hP := fun (q : Sl Ev) W (h0 : q.L = begV m.fin 0 m.il.L) (h1 : OwnR 37 5 encEv W w.heap.size q.val q.L) (h2 : Below w.heap.size w W) => (show RBegTo w m (.returned q.val) W from ⟨q, rfl, h0, h1, h2⟩)
  have hc7 := (chk_counts hc).2.2.2.2.2.2
  have HNF := hide (chk_parts hc).2.1
  have HR := hide (fun W (h : Below w.heap.size w W) => hm.2.2.2.2.2.1.below InitAt.keeps h)
  generalize RBegTo w m = Post at *
  have HP := hide hP
  clear hP hm hc
  obtain ⟨seed, fin, dl, pl, ll, ⟨iA, ic, il⟩⟩ := m
  simp only [Mdl.val, Sl.val] at *
  have q1 : il.length ≤ 9223372036854775807 := by omega
  have HX := hide hX
  have HB2 := hide hb0
  clear hb0 n1
  have x0 := hX.cell 0
  have x1 := hX.cell 1
  have x2 := hX.cell 2
  have x3 := hX.cell 3
  have x4 := hX.cell 4
  have x5 := hX.cell 5
  simp only [List.getElem?_toArray, List.getElem?_cons_zero, List.getElem?_cons_succ] at x0 x1 x2 x3 x4 x5
  clear hX
  go_enter Try.func52, Try.ntmps52
  go_upto_region 1 with fail
  generalize World.alloc w _ = wc at *
  go_wp2_with fail
  clear x0 x1 x2 x3 x4 x5
  go_loopw [3, 4] (fun v i wr => BgRel wc fin il v i wr) (fun _ i _ => il.length - (intOf i).toNat)
  case atStart => exact ⟨0, ⟨none, 0, []⟩, Nat.zero_le _, rfl, rfl, rfl, OwnR.nil, Below.refl _ _⟩
  case round =>
    obtain ⟨k, q, hk, rfl, rfl, hqL, hown, hbr⟩ := hrel
    have x5 := keepc hbr (HX.out.cell 5)
    by_cases hlt : k < il.length
    · have hx := List.getElem?_eq_getElem hlt
      obtain ⟨a, hA, g0, g1, g2, _⟩ := (HR.out wr (below_after HB2.out hbr)) k _ hx
      have hA2 : iA = some a := hA
      clear hA
      subst hA2
      generalize il[k] = x2 at *
      have kI : (k : Int) < (il.length : Int) := by omega
      have kJ : (0 : Int) ≤ (k : Int) := by omega
      have x1 := keepc hbr (HX.out.cell 1)
      have HBF := hide (begV_take (fin := fin) hx)
      have HF := hide (show begF fin k x2 = if timesI (normF x2.1) fin ≤ 0 then [(normF x2.1, -1, (k : Int), x2.2.1, x2.2.2)] else [] from rfl)
      have hno := fun W => rnorm_any x2.1 W
      have hTn := norm_num x2.1
      generalize normF x2.1 = T at *
      generalize normE x2.1 = U at *
      have HWW := le_ways T fin hTn HNF.out
      have hq3 : q.L.length ≤ 1000 := by rw [hqL]; exact Nat.le_trans (begV_len fin (il.take k) 0) (by rw [List.length_take]; omega)
      obtain ⟨q2, w2, hrun, hq2, hown2, hb3⟩ := ev_add (wc := wc) (wr := wr.drew) (hown.below (Below.refl _ _).drew) hbr.drew (T, -1, (k : Int), x2.2.1, x2.2.2) hq3 65
      simp only at hrun hq2 hown2
      rw [show wr.drew.heap.size = wr.heap.size from rfl] at hrun
      have HO2 := hide (show OwnR 37 5 encEv w2 wc.heap.size q2.val q2.L from by rw [hq2]; exact hown2)
      have HQ2 := hide hq2
      have HB3 := hide hb3
      have HO := hide hown
      have HBR := hide hbr
      have HQ := hide hqL
      have CD := hide (fun o => And.intro (keepc ((Below.refl wr.drew.heap.size wr.drew).alloc (Nat.le_refl _) o) x5) (And.intro (keepc ((Below.refl wr.drew.heap.size wr.drew).alloc (Nat.le_refl _) o) g1) (keepc ((Below.refl wr.drew.heap.size wr.drew).alloc (Nat.le_refl _) o) g2)))
      clear hown hbr hqL hown2 hq2 hb3 hx hq3 hTn
      go_wp2_with fail
      refine (hno _).mono ?_
      rintro e w3 ⟨rfl, rfl⟩
      have hWW := HWW
      clear hno HWW
      rcases hWW with ⟨z1, z2⟩ | ⟨z1, z2⟩ | ⟨z1, z2⟩
      case' inr.inr =>
        have HF2 := hide (HF.out.trans (if_neg (Int.not_le.2 z1)))
        clear HF HO2 HB3 hrun z1
        go_wp2_with fail
        go_roundw
        case rel => exact ⟨k + 1, q, by omega, rfl, by go_num, by rw [HBF.out, HF2.out, HQ.out, List.append_nil], HO.out, HBR.out⟩
        case measure => simp [intOf]; omega
      all_goals
        have HF2 := hide (HF.out.trans (if_pos z1))
        clear HF HO HBR z1
        go_upto_region 7 with fail
        clear z2 g0 x1
        refine wp_region_reads (fun w' => w'.cell? ⟨w.heap.size, 5, none⟩ = some (.slice (some a) il.length ic) ∧ w'.cell? ⟨(a.add (k * 3)).block, (a.add (k * 3)).off + 1, none⟩ = some (.int .i64 x2.2.1) ∧ w'.cell? ⟨(a.add (k * 3)).block, (a.add (k * 3)).off + 2, none⟩ = some (.int .i64 x2.2.2))
          (.slice q.A q.L.length q.c) 16 1 (by kernel_rfl) (by kernel_rfl) (Or.inl ⟨by rfl, fun w => by rfl⟩) (fun _ _ _ h => h) ⟨x5, g1, g2⟩ ?_
        simp only [Act.put, List.setIfInBounds_toArray, List.set_cons_zero, List.set_cons_succ, List.take_succ_cons, List.take_zero, List.drop_succ_cons, List.drop_zero]
        repeat (refine head_step ?_ (by rfl) ?_ (fun _ _ _ h => h) ?_; rotate_left; (intro w' hs; obtain ⟨zs, zg, zh⟩ := hs; go_simp; (try with_reducible rfl)); (try simp only [Act.put, List.setIfInBounds_toArray, List.set_cons_zero, List.set_cons_succ]))
        refine head_nil ?_
        clear x5 g1 g2
        refine mid_step _ (wr.drew.alloc (.cells #[.float .f64 T, .int .i64 (-1), .int .i64 k, .int .i64 x2.2.1, .int .i64 x2.2.2] 37)) (by rfl) (by go_simp; rfl) (CD.out _) ?_
        refine mid_nil ?_
        simp only [Act.put, List.setIfInBounds_toArray, List.set_cons_zero, List.set_cons_succ]
        clear CD
        go_wp2_with (at_builtin; refine wpList_of_append rfl _ w2 (.tmp 28) (.tmp 45) 65 _ _ _ rfl rfl rfl hrun ?_)
        go_roundw
        case rel => exact ⟨k + 1, q2, by omega, rfl, by go_num, by rw [HQ2.out, HBF.out, HF2.out, HQ.out], HO2.out, HB3.out⟩
        case measure => simp [intOf]; omega
    · obtain rfl : k = il.length := by omega
      rw [List.take_length] at hqL
      have HH := hide (HP.out q wr hqL (hown.lower HB2.out.size) (below_after HB2.out hbr))
      clear hqL hown hbr
      go_wp2_with fail
      first | exact HH.out | (go_ret; exact HH.out)
end Go.Proofs.Ytpfcmfannkbipaa
