/- The walk of the reference's Same on outputs that are the same; what holds of every output, plainly; the law's awake. No condition but sizes. -/
import Derived.Test.YtgohdpnlaedeiaaRv5
set_option linter.unusedVariables false
set_option linter.unusedSimpArgs false
set_option maxRecDepth 20000
namespace Go.Proofs.Ytgohdpnlaedeiaa
open Go.RowKit Go.Deep

def SntAt : Dec Snt := fun w p x => w.cell? p = some (.int .i64 x.1) ∧ w.cell? ⟨p.block, p.off + 1, none⟩ = some (.int .i64 x.2.1) ∧ w.cell? ⟨p.block, p.off + 2, none⟩ = some (.int .i64 x.2.2)
theorem SntAt.keeps : SntAt.keeps := fun _ _ _ _ hb h => ⟨keepc hb h.1, keepc hb h.2.1, keepc hb h.2.2⟩
theorem makes_snt : Makes SntAt encSnt (fun _ _ => True) := fun w g o x _ h => ⟨h 0 _ rfl, h 1 _ rfl, h 2 _ rfl⟩
def SamRel (w : World) (X Y : Array Value) (len : Nat) (i : Value) (wr : World) : Prop :=
  ∃ k : Nat, k ≤ len ∧ i = .int .i64 k ∧ Below w.heap.size w wr ∧ Blk wr w.heap.size 30 X ∧ Blk wr (w.heap.size + 1) 30 Y
set_option maxHeartbeats 2000000 in
theorem rsame_self (w : World) (s t : Sl Int) (u v : Sl Snt) (d f : Int) (hs : s.At IntAt 1 w) (ht : t.At IntAt 1 w) (hu : u.At SntAt 3 w) (hv : v.At SntAt 3 w) (h1 : s.L = t.L) (h2 : u.L = v.L) :
    Calls Try.prog 12 #[.agg #[s.val, u.val, .int .i64 d, .int .i64 f], .agg #[t.val, v.val, .int .i64 d, .int .i64 f]] w fun e w' => e = .returned (.bool true) ∧ Below w.heap.size w w' := by
  obtain ⟨uA, uc, uL⟩ := u
  obtain ⟨vA, vc, vL⟩ := v
  simp only at h2
  subst h2
  have hX := (Blk.new w 30 #[s.val, .slice uA uL.length uc, .int .i64 d, .int .i64 f]).alloc (.cells #[t.val, .slice vA uL.length vc, .int .i64 d, .int .i64 f] 30)
  have hY := Blk.new (w.alloc (.cells #[s.val, .slice uA uL.length uc, .int .i64 d, .int .i64 f] 30)) 30 #[t.val, .slice vA uL.length vc, .int .i64 d, .int .i64 f]
  have hz : (w.alloc (.cells #[s.val, .slice uA uL.length uc, .int .i64 d, .int .i64 f] 30)).heap.size = w.heap.size + 1 := Array.size_push ..
  have hb : Below w.heap.size w ((w.alloc (.cells #[s.val, .slice uA uL.length uc, .int .i64 d, .int .i64 f] 30)).alloc (.cells #[t.val, .slice vA uL.length vc, .int .i64 d, .int .i64 f] 30)) := ((Below.refl _ _).alloc (Nat.le_refl _) _).alloc (by rw [hz]; omega) _
  rw [hz] at hY
  clear hz
  have hI := rints_self s t _ (hs.below IntAt.keeps hb) (ht.below IntAt.keeps hb) h1
  have HI := hide hI
  have HX := hide hX
  have HY := hide hY
  have HB := hide hb
  have HU := hide (And.intro hu hv)
  have hlu := hu.2
  clear hI hX hY hb hu hv hs ht h1
  simp only at hlu
  unfold Sl.val at *
  simp only at *
  go_enter Try.func12, Try.ntmps12
  go_upto_region 1 with fail
  generalize (w.alloc _).alloc _ = w1 at *
  have x0 := HX.out.cell 0
  have x1 := HX.out.cell 1
  have x2 := HX.out.cell 2
  have x3 := HX.out.cell 3
  have y0 := HY.out.cell 0
  have y1 := HY.out.cell 1
  have y2 := HY.out.cell 2
  have y3 := HY.out.cell 3
  simp only [List.getElem?_toArray, List.getElem?_cons_zero, List.getElem?_cons_succ] at x0 x1 x2 x3 y0 y1 y2 y3
  go_wp2_with fail
  refine HI.out.mono ?_
  rintro e w2 ⟨rfl, n, rfl⟩
  replace HX := hide (HX.out.drewN n)
  replace HY := hide (HY.out.drewN n)
  replace HB := hide (below_drewN HB.out n)
  clear HI
  go_wp2_with fail
  clear x0 x1 x2 x3 y0 y1 y2 y3
  generalize w1.drewN n = w2 at *
  go_loopw [5] (fun i wr => SamRel w #[.slice s.A s.L.length s.c, .slice uA uL.length uc, .int .i64 d, .int .i64 f] #[.slice t.A t.L.length t.c, .slice vA uL.length vc, .int .i64 d, .int .i64 f] uL.length i wr) (fun i _ => uL.length - (intOf i).toNat)
  case atStart => exact ⟨0, Nat.zero_le _, rfl, HB.out, HX.out, HY.out⟩
  case round =>
    clear HX HY HB
    obtain ⟨k, hk, rfl, hb, hX, hY⟩ := hrel
    have HB := hide hb
    have HX := hide hX
    have HY := hide hY
    have x1 := hX.cell 1
    have y1 := hY.cell 1
    simp only [List.getElem?_toArray, List.getElem?_cons_zero, List.getElem?_cons_succ] at x1 y1
    clear hX hY
    by_cases hlt : k < uL.length
    · obtain ⟨a, ha, p0, p1, p2⟩ := (HU.out.1.below SntAt.keeps hb).1 k _ (List.getElem?_eq_getElem hlt)
      obtain ⟨a', ha', q0, q1, q2⟩ := (HU.out.2.below SntAt.keeps hb).1 k _ (List.getElem?_eq_getElem hlt)
      simp only at ha ha'
      subst ha
      subst ha'
      have kI : (k : Int) < (uL.length : Int) := by omega
      have kI0 : (0 : Int) ≤ (k : Int) := by omega
      generalize uL[k] = x at *
      clear hb
      go_wp2_with fail
      go_quiet (fail)
      clear p0 p1 p2 q0 q1 q2 x1 y1
      have HBN := hide (below_drewN HB.out nq)
      have HXN := hide (HX.out.drewN nq)
      have HYN := hide (HY.out.drewN nq)
      generalize wr.drewN nq = w3 at *
      go_wp2_with fail
      go_roundw
      case rel => exact ⟨k + 1, by omega, by go_num, HBN.out, HXN.out, HYN.out⟩
      case measure => simp [intOf]; omega
    · obtain rfl : k = uL.length := by omega
      clear hb
      go_wp2_with fail
      go_ret
      exact ⟨rfl, HB.out⟩
end Go.Proofs.Ytgohdpnlaedeiaa
