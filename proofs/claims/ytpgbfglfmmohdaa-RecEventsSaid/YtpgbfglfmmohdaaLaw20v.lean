/- The walk of law20's RecEvents. Printed by wip/tools/events20.py. No condition. -/
import Derived.Test.YtpgbfglfmmohdaaRec4
set_option linter.unusedVariables false
set_option linter.unusedSimpArgs false
set_option maxRecDepth 20000
namespace Go.Proofs.Ytpgbfglfmmohdaa
open Go.RowKit Go.Deep

attribute [local go_sem] run_store_float
def noS : ByteArray := ⟨#[]⟩
set_option maxHeartbeats 4000000 in
theorem events_wrong (t : Nat) (s n d p : Int) (an : Bool) (f : Int) (w : World) (ht : t < 18446744073709551616) (hr : rightE t s n d = false) :
    Calls Try.prog 18 #[.agg #[.float .f64 t, .int .i64 s, .int .i64 n, .int .i64 d, .int .i64 p], .bool an, .int .i64 f] w fun e w' => e = .returned (.bool true) ∧ Below w.heap.size w w' := by
  have hE := Blk.new w 70 #[.float .f64 t, .int .i64 s, .int .i64 n, .int .i64 d, .int .i64 p]
  have hb : Below w.heap.size w (w.alloc (.cells #[.float .f64 t, .int .i64 s, .int .i64 n, .int .i64 d, .int .i64 p] 70)) := (Below.refl _ _).alloc (Nat.le_refl _) _
  have K1 := fun V => reckey_any t s n d p V ht
  have K2 := fun V => putevent_any t s n d p V ht
  have K3 := fun V => putmsg_any t s n d p an V ht
  have K4 := fun V => putdone_any t s n d p f V ht
  have e1 : keyV t s n d p = noS := by unfold keyV; rw [hr]; rfl
  have e2 : evV t s n d p = noS := by unfold evV; rw [hr]; rfl
  have e3 : msgV t s n d p an = noS := by unfold msgV; rw [hr]; rfl
  have e5 : doneB t s n d f = false := by unfold doneB; rw [hr]; rfl
  have e4 : doneV t s n d p f = noS := by unfold doneV; rw [e5]; rfl
  simp only [e1, e2, e3, e4, e5, hr, show putE false = 2 from rfl] at K1 K2 K3 K4
  clear e1 e2 e3 e4 e5
  have HR := hide hr
  clear hr ht
  have c0 : ∀ V, (Op.stringOp .add noS noS).run Try.prog V = .ok (.string noS) V := fun V => run_cat noS noS (by decide) V
  have c1 : noS.toList = [] := by rw [Lib.toList_data]; rfl
  generalize noS = Z at *
  replace K1 := hide K1
  replace K2 := hide K2
  replace K3 := hide K3
  replace K4 := hide K4
  go_enter Try.func18, Try.ntmps18
  go_upto_region 1 with fail
  generalize w.alloc _ = W0 at *
  have x0 := hE.cell 0
  have x1 := hE.cell 1
  have x2 := hE.cell 2
  have x3 := hE.cell 3
  have x4 := hE.cell 4
  simp only [List.getElem?_toArray, List.getElem?_cons_zero, List.getElem?_cons_succ] at x0 x1 x2 x3 x4
  go_wp2_with fail
  clear x0 x1 x2 x3 x4
  refine (K1.out _).mono ?_
  rintro e w101 ⟨rfl, k101⟩
  replace hE := hE.below k101 hE.lt
  replace hb := below_after hb k101
  clear k101
  have x0 := hE.cell 0
  have x1 := hE.cell 1
  have x2 := hE.cell 2
  have x3 := hE.cell 3
  have x4 := hE.cell 4
  simp only [List.getElem?_toArray, List.getElem?_cons_zero, List.getElem?_cons_succ] at x0 x1 x2 x3 x4
  go_wp2_with fail
  clear x0 x1 x2 x3 x4
  refine (K2.out _).mono ?_
  rintro e w102 ⟨rfl, k102⟩
  replace hE := hE.below k102 hE.lt
  replace hb := below_after hb k102
  clear k102
  have x0 := hE.cell 0
  have x1 := hE.cell 1
  have x2 := hE.cell 2
  have x3 := hE.cell 3
  have x4 := hE.cell 4
  simp only [List.getElem?_toArray, List.getElem?_cons_zero, List.getElem?_cons_succ] at x0 x1 x2 x3 x4
  go_wp2_with fail
  clear x0 x1 x2 x3 x4
  refine (K3.out _).mono ?_
  rintro e w103 ⟨rfl, k103⟩
  replace hE := hE.below k103 hE.lt
  replace hb := below_after hb k103
  clear k103
  have x0 := hE.cell 0
  have x1 := hE.cell 1
  have x2 := hE.cell 2
  have x3 := hE.cell 3
  have x4 := hE.cell 4
  simp only [List.getElem?_toArray, List.getElem?_cons_zero, List.getElem?_cons_succ] at x0 x1 x2 x3 x4
  go_wp2_with fail
  clear x0 x1 x2 x3 x4
  refine (K4.out _).mono ?_
  rintro e w104 ⟨rfl, k104⟩
  replace hE := hE.below k104 hE.lt
  replace hb := below_after hb k104
  clear k104
  have x0 := hE.cell 0
  have x1 := hE.cell 1
  have x2 := hE.cell 2
  have x3 := hE.cell 3
  have x4 := hE.cell 4
  simp only [List.getElem?_toArray, List.getElem?_cons_zero, List.getElem?_cons_succ] at x0 x1 x2 x3 x4
  go_wp2_with fail
  clear x0 x1 x2 x3 x4
  refine ((hide fun V => rright_any t s n d p V).out _).mono ?_
  rintro e w105 ⟨rfl, k105⟩
  replace hE := hE.below k105 hE.lt
  replace hb := below_after hb k105
  clear k105
  clear K1 K2 K3 K4
  rw [HR.out]
  go_wp2_with fail
  refine (awake20 _).mono ?_
  rintro e w106 ⟨rfl, k106⟩
  replace hE := hE.below k106 hE.lt
  replace hb := below_after hb k106
  clear k106
  go_wp2_with fail
  go_ret
  exact ⟨rfl, hb⟩
set_option maxHeartbeats 4000000 in
theorem events_good (t : Nat) (s n d p : Int) (an : Bool) (f : Int) (w : World) (ht : t < 18446744073709551616) (hr : rightE t s n d = true) (hf : 0 ≤ f ∧ f ≤ 7) :
    Calls Try.prog 18 #[.agg #[.float .f64 t, .int .i64 s, .int .i64 n, .int .i64 d, .int .i64 p], .bool an, .int .i64 f] w fun e w' => e = .returned (.bool true) ∧ Below w.heap.size w w' := by
  have hE := Blk.new w 70 #[.float .f64 t, .int .i64 s, .int .i64 n, .int .i64 d, .int .i64 p]
  have hb : Below w.heap.size w (w.alloc (.cells #[.float .f64 t, .int .i64 s, .int .i64 n, .int .i64 d, .int .i64 p] 70)) := (Below.refl _ _).alloc (Nat.le_refl _) _
  have K1 := fun V => reckey_any t s n d p V ht
  have K2 := fun V => putevent_any t s n d p V ht
  have K3 := fun V => putmsg_any t s n d p an V ht
  have K4 := fun V => putdone_any t s n d p f V ht
  have K5 := fun V => rkey20_any t s n d p V ht hr
  have K6 := fun V => revent20_any t s n d p V ht hr
  have e1 : keyV t s n d p = keyR t s n p := if_pos hr
  have e2 : evV t s n d p = evS t s n d p := if_pos hr
  have e3 : msgV t s n d p an = oneS (if an then 1 else 0) ++ evS t s n d p := if_pos hr
  have e5 : doneB t s n d f = true := by unfold doneB; rw [hr, decide_eq_true hf]; rfl
  have e4 : doneV t s n d p f = evS t s n d p ++ oneS f := if_pos e5
  simp only [e1, e2, e3, e4, e5, hr, show putE false = 2 from rfl, show putE true = 0 from rfl] at K1 K2 K3 K4
  clear e1 e2 e3 e4 e5
  have HR := hide hr
  have hz := ev_size t s n d p
  have HV : Hid (an = an) := hide rfl
  have ca : ∀ V, (Op.stringOp .add (oneS (if an then 1 else 0)) (evS t s n d p)).run Try.prog V = .ok (.string (oneS (if an then 1 else 0) ++ evS t s n d p)) V := fun V => run_cat _ _ (by rw [hz, one_size]; omega) V
  have cb : ∀ V, (Op.stringOp .add (evS t s n d p) (oneS f)).run Try.prog V = .ok (.string (evS t s n d p ++ oneS f)) V := fun V => run_cat _ _ (by rw [hz, one_size]; omega) V
  have cv := conv_one f hf.1 (by omega)
  have hw : IntKind.u8.wrap f = f := by rw [IntKind.wrap_u8]; omega
  have f1 : ¬ f < 0 := by omega
  have f2 : ¬ 7 < f := by omega
  clear hr ht hz HV
  generalize evS t s n d p ++ oneS f = D at *
  generalize hM : oneS (if an then 1 else 0) ++ evS t s n d p = M at *
  clear hM
  generalize evS t s n d p = E at *
  generalize keyR t s n p = K at *
  generalize oneS f = O at *
  replace K1 := hide K1
  replace K2 := hide K2
  replace K3 := hide K3
  replace K4 := hide K4
  replace K5 := hide K5
  replace K6 := hide K6
  go_enter Try.func18, Try.ntmps18
  go_upto_region 1 with fail
  generalize w.alloc _ = W0 at *
  have x0 := hE.cell 0
  have x1 := hE.cell 1
  have x2 := hE.cell 2
  have x3 := hE.cell 3
  have x4 := hE.cell 4
  simp only [List.getElem?_toArray, List.getElem?_cons_zero, List.getElem?_cons_succ] at x0 x1 x2 x3 x4
  go_wp2_with fail
  clear x0 x1 x2 x3 x4
  refine (K1.out _).mono ?_
  rintro e w101 ⟨rfl, k101⟩
  replace hE := hE.below k101 hE.lt
  replace hb := below_after hb k101
  clear k101
  have x0 := hE.cell 0
  have x1 := hE.cell 1
  have x2 := hE.cell 2
  have x3 := hE.cell 3
  have x4 := hE.cell 4
  simp only [List.getElem?_toArray, List.getElem?_cons_zero, List.getElem?_cons_succ] at x0 x1 x2 x3 x4
  go_wp2_with fail
  clear x0 x1 x2 x3 x4
  refine (K2.out _).mono ?_
  rintro e w102 ⟨rfl, k102⟩
  replace hE := hE.below k102 hE.lt
  replace hb := below_after hb k102
  clear k102
  have x0 := hE.cell 0
  have x1 := hE.cell 1
  have x2 := hE.cell 2
  have x3 := hE.cell 3
  have x4 := hE.cell 4
  simp only [List.getElem?_toArray, List.getElem?_cons_zero, List.getElem?_cons_succ] at x0 x1 x2 x3 x4
  go_wp2_with fail
  clear x0 x1 x2 x3 x4
  refine (K3.out _).mono ?_
  rintro e w103 ⟨rfl, k103⟩
  replace hE := hE.below k103 hE.lt
  replace hb := below_after hb k103
  clear k103
  have x0 := hE.cell 0
  have x1 := hE.cell 1
  have x2 := hE.cell 2
  have x3 := hE.cell 3
  have x4 := hE.cell 4
  simp only [List.getElem?_toArray, List.getElem?_cons_zero, List.getElem?_cons_succ] at x0 x1 x2 x3 x4
  go_wp2_with fail
  clear x0 x1 x2 x3 x4
  refine (K4.out _).mono ?_
  rintro e w104 ⟨rfl, k104⟩
  replace hE := hE.below k104 hE.lt
  replace hb := below_after hb k104
  clear k104
  have x0 := hE.cell 0
  have x1 := hE.cell 1
  have x2 := hE.cell 2
  have x3 := hE.cell 3
  have x4 := hE.cell 4
  simp only [List.getElem?_toArray, List.getElem?_cons_zero, List.getElem?_cons_succ] at x0 x1 x2 x3 x4
  go_wp2_with fail
  clear x0 x1 x2 x3 x4
  refine ((hide fun V => rright_any t s n d p V).out _).mono ?_
  rintro e w105 ⟨rfl, k105⟩
  replace hE := hE.below k105 hE.lt
  replace hb := below_after hb k105
  clear k105
  clear K1 K2 K3 K4
  rw [HR.out]
  cases an
  · have ch : ∀ V, (Op.stringOp .add (⟨#[0]⟩ : ByteArray) E).run Try.prog V = .ok (.string M) V := ca
    clear ca
    have x0 := hE.cell 0
    have x1 := hE.cell 1
    have x2 := hE.cell 2
    have x3 := hE.cell 3
    have x4 := hE.cell 4
    simp only [List.getElem?_toArray, List.getElem?_cons_zero, List.getElem?_cons_succ] at x0 x1 x2 x3 x4
    go_wp2_with fail
    clear x0 x1 x2 x3 x4
    refine (K5.out _).mono ?_
    rintro e w201 ⟨rfl, k201⟩
    replace hE := hE.below k201 hE.lt
    replace hb := below_after hb k201
    clear k201
    have x0 := hE.cell 0
    have x1 := hE.cell 1
    have x2 := hE.cell 2
    have x3 := hE.cell 3
    have x4 := hE.cell 4
    simp only [List.getElem?_toArray, List.getElem?_cons_zero, List.getElem?_cons_succ] at x0 x1 x2 x3 x4
    go_wp2_with fail
    clear x0 x1 x2 x3 x4
    refine (K6.out _).mono ?_
    rintro e w202 ⟨rfl, k202⟩
    replace hE := hE.below k202 hE.lt
    replace hb := below_after hb k202
    clear k202
    go_wp2_with fail
    refine (awake20 _).mono ?_
    rintro e w203 ⟨rfl, k203⟩
    replace hE := hE.below k203 hE.lt
    replace hb := below_after hb k203
    clear k203
    go_upto_region 14 with fail
    have cva := cv _ _ (byte_new w203 f)
    clear cv
    have hb2 := hb.alloc hb.size (.cells #[.int .u8 f] 5)
    go_wp2_with fail
    go_ret
    exact ⟨rfl, hb2⟩
  · have ch : ∀ V, (Op.stringOp .add (⟨#[1]⟩ : ByteArray) E).run Try.prog V = .ok (.string M) V := ca
    clear ca
    have x0 := hE.cell 0
    have x1 := hE.cell 1
    have x2 := hE.cell 2
    have x3 := hE.cell 3
    have x4 := hE.cell 4
    simp only [List.getElem?_toArray, List.getElem?_cons_zero, List.getElem?_cons_succ] at x0 x1 x2 x3 x4
    go_wp2_with fail
    clear x0 x1 x2 x3 x4
    refine (K5.out _).mono ?_
    rintro e w201 ⟨rfl, k201⟩
    replace hE := hE.below k201 hE.lt
    replace hb := below_after hb k201
    clear k201
    have x0 := hE.cell 0
    have x1 := hE.cell 1
    have x2 := hE.cell 2
    have x3 := hE.cell 3
    have x4 := hE.cell 4
    simp only [List.getElem?_toArray, List.getElem?_cons_zero, List.getElem?_cons_succ] at x0 x1 x2 x3 x4
    go_wp2_with fail
    clear x0 x1 x2 x3 x4
    refine (K6.out _).mono ?_
    rintro e w202 ⟨rfl, k202⟩
    replace hE := hE.below k202 hE.lt
    replace hb := below_after hb k202
    clear k202
    go_wp2_with fail
    refine (awake20 _).mono ?_
    rintro e w203 ⟨rfl, k203⟩
    replace hE := hE.below k203 hE.lt
    replace hb := below_after hb k203
    clear k203
    go_upto_region 14 with fail
    have cva := cv _ _ (byte_new w203 f)
    clear cv
    have hb2 := hb.alloc hb.size (.cells #[.int .u8 f] 5)
    go_wp2_with fail
    go_ret
    exact ⟨rfl, hb2⟩
set_option maxHeartbeats 4000000 in
theorem events_bad (t : Nat) (s n d p : Int) (an : Bool) (f : Int) (w : World) (ht : t < 18446744073709551616) (hr : rightE t s n d = true) (hf : ¬ (0 ≤ f ∧ f ≤ 7)) :
    Calls Try.prog 18 #[.agg #[.float .f64 t, .int .i64 s, .int .i64 n, .int .i64 d, .int .i64 p], .bool an, .int .i64 f] w fun e w' => e = .returned (.bool true) ∧ Below w.heap.size w w' := by
  have hE := Blk.new w 70 #[.float .f64 t, .int .i64 s, .int .i64 n, .int .i64 d, .int .i64 p]
  have hb : Below w.heap.size w (w.alloc (.cells #[.float .f64 t, .int .i64 s, .int .i64 n, .int .i64 d, .int .i64 p] 70)) := (Below.refl _ _).alloc (Nat.le_refl _) _
  have K1 := fun V => reckey_any t s n d p V ht
  have K2 := fun V => putevent_any t s n d p V ht
  have K3 := fun V => putmsg_any t s n d p an V ht
  have K4 := fun V => putdone_any t s n d p f V ht
  have K5 := fun V => rkey20_any t s n d p V ht hr
  have K6 := fun V => revent20_any t s n d p V ht hr
  have e1 : keyV t s n d p = keyR t s n p := if_pos hr
  have e2 : evV t s n d p = evS t s n d p := if_pos hr
  have e3 : msgV t s n d p an = oneS (if an then 1 else 0) ++ evS t s n d p := if_pos hr
  have e5 : doneB t s n d f = false := by unfold doneB; rw [hr, decide_eq_false hf]; rfl
  have e4 : doneV t s n d p f = noS := by unfold doneV; rw [e5]; rfl
  simp only [e1, e2, e3, e4, e5, hr, show putE false = 2 from rfl, show putE true = 0 from rfl] at K1 K2 K3 K4
  clear e1 e2 e3 e4 e5
  have HR := hide hr
  have hz := ev_size t s n d p
  have HV : Hid (an = an) := hide rfl
  have ca : ∀ V, (Op.stringOp .add (oneS (if an then 1 else 0)) (evS t s n d p)).run Try.prog V = .ok (.string (oneS (if an then 1 else 0) ++ evS t s n d p)) V := fun V => run_cat _ _ (by rw [hz, one_size]; omega) V
  clear hr ht hz HV
  generalize hM : oneS (if an then 1 else 0) ++ evS t s n d p = M at *
  clear hM
  generalize evS t s n d p = E at *
  generalize keyR t s n p = K at *
  have c1 : noS.toList = [] := by rw [Lib.toList_data]; rfl
  generalize noS = Z at *
  replace K1 := hide K1
  replace K2 := hide K2
  replace K3 := hide K3
  replace K4 := hide K4
  replace K5 := hide K5
  replace K6 := hide K6
  go_enter Try.func18, Try.ntmps18
  go_upto_region 1 with fail
  generalize w.alloc _ = W0 at *
  have x0 := hE.cell 0
  have x1 := hE.cell 1
  have x2 := hE.cell 2
  have x3 := hE.cell 3
  have x4 := hE.cell 4
  simp only [List.getElem?_toArray, List.getElem?_cons_zero, List.getElem?_cons_succ] at x0 x1 x2 x3 x4
  go_wp2_with fail
  clear x0 x1 x2 x3 x4
  refine (K1.out _).mono ?_
  rintro e w101 ⟨rfl, k101⟩
  replace hE := hE.below k101 hE.lt
  replace hb := below_after hb k101
  clear k101
  have x0 := hE.cell 0
  have x1 := hE.cell 1
  have x2 := hE.cell 2
  have x3 := hE.cell 3
  have x4 := hE.cell 4
  simp only [List.getElem?_toArray, List.getElem?_cons_zero, List.getElem?_cons_succ] at x0 x1 x2 x3 x4
  go_wp2_with fail
  clear x0 x1 x2 x3 x4
  refine (K2.out _).mono ?_
  rintro e w102 ⟨rfl, k102⟩
  replace hE := hE.below k102 hE.lt
  replace hb := below_after hb k102
  clear k102
  have x0 := hE.cell 0
  have x1 := hE.cell 1
  have x2 := hE.cell 2
  have x3 := hE.cell 3
  have x4 := hE.cell 4
  simp only [List.getElem?_toArray, List.getElem?_cons_zero, List.getElem?_cons_succ] at x0 x1 x2 x3 x4
  go_wp2_with fail
  clear x0 x1 x2 x3 x4
  refine (K3.out _).mono ?_
  rintro e w103 ⟨rfl, k103⟩
  replace hE := hE.below k103 hE.lt
  replace hb := below_after hb k103
  clear k103
  have x0 := hE.cell 0
  have x1 := hE.cell 1
  have x2 := hE.cell 2
  have x3 := hE.cell 3
  have x4 := hE.cell 4
  simp only [List.getElem?_toArray, List.getElem?_cons_zero, List.getElem?_cons_succ] at x0 x1 x2 x3 x4
  go_wp2_with fail
  clear x0 x1 x2 x3 x4
  refine (K4.out _).mono ?_
  rintro e w104 ⟨rfl, k104⟩
  replace hE := hE.below k104 hE.lt
  replace hb := below_after hb k104
  clear k104
  have x0 := hE.cell 0
  have x1 := hE.cell 1
  have x2 := hE.cell 2
  have x3 := hE.cell 3
  have x4 := hE.cell 4
  simp only [List.getElem?_toArray, List.getElem?_cons_zero, List.getElem?_cons_succ] at x0 x1 x2 x3 x4
  go_wp2_with fail
  clear x0 x1 x2 x3 x4
  refine ((hide fun V => rright_any t s n d p V).out _).mono ?_
  rintro e w105 ⟨rfl, k105⟩
  replace hE := hE.below k105 hE.lt
  replace hb := below_after hb k105
  clear k105
  clear K1 K2 K3 K4
  rw [HR.out]
  cases an
  · have ch : ∀ V, (Op.stringOp .add (⟨#[0]⟩ : ByteArray) E).run Try.prog V = .ok (.string M) V := ca
    clear ca
    have x0 := hE.cell 0
    have x1 := hE.cell 1
    have x2 := hE.cell 2
    have x3 := hE.cell 3
    have x4 := hE.cell 4
    simp only [List.getElem?_toArray, List.getElem?_cons_zero, List.getElem?_cons_succ] at x0 x1 x2 x3 x4
    go_wp2_with fail
    clear x0 x1 x2 x3 x4
    refine (K5.out _).mono ?_
    rintro e w201 ⟨rfl, k201⟩
    replace hE := hE.below k201 hE.lt
    replace hb := below_after hb k201
    clear k201
    have x0 := hE.cell 0
    have x1 := hE.cell 1
    have x2 := hE.cell 2
    have x3 := hE.cell 3
    have x4 := hE.cell 4
    simp only [List.getElem?_toArray, List.getElem?_cons_zero, List.getElem?_cons_succ] at x0 x1 x2 x3 x4
    go_wp2_with fail
    clear x0 x1 x2 x3 x4
    refine (K6.out _).mono ?_
    rintro e w202 ⟨rfl, k202⟩
    replace hE := hE.below k202 hE.lt
    replace hb := below_after hb k202
    clear k202
    go_wp2_with fail
    refine (awake20 _).mono ?_
    rintro e w203 ⟨rfl, k203⟩
    replace hE := hE.below k203 hE.lt
    replace hb := below_after hb k203
    clear k203
    by_cases f0 : f < 0
    · go_wp2_with fail
      go_ret
      exact ⟨rfl, hb⟩
    · have f7 : 7 < f := by omega
      go_wp2_with fail
      go_ret
      exact ⟨rfl, hb⟩
  · have ch : ∀ V, (Op.stringOp .add (⟨#[1]⟩ : ByteArray) E).run Try.prog V = .ok (.string M) V := ca
    clear ca
    have x0 := hE.cell 0
    have x1 := hE.cell 1
    have x2 := hE.cell 2
    have x3 := hE.cell 3
    have x4 := hE.cell 4
    simp only [List.getElem?_toArray, List.getElem?_cons_zero, List.getElem?_cons_succ] at x0 x1 x2 x3 x4
    go_wp2_with fail
    clear x0 x1 x2 x3 x4
    refine (K5.out _).mono ?_
    rintro e w201 ⟨rfl, k201⟩
    replace hE := hE.below k201 hE.lt
    replace hb := below_after hb k201
    clear k201
    have x0 := hE.cell 0
    have x1 := hE.cell 1
    have x2 := hE.cell 2
    have x3 := hE.cell 3
    have x4 := hE.cell 4
    simp only [List.getElem?_toArray, List.getElem?_cons_zero, List.getElem?_cons_succ] at x0 x1 x2 x3 x4
    go_wp2_with fail
    clear x0 x1 x2 x3 x4
    refine (K6.out _).mono ?_
    rintro e w202 ⟨rfl, k202⟩
    replace hE := hE.below k202 hE.lt
    replace hb := below_after hb k202
    clear k202
    go_wp2_with fail
    refine (awake20 _).mono ?_
    rintro e w203 ⟨rfl, k203⟩
    replace hE := hE.below k203 hE.lt
    replace hb := below_after hb k203
    clear k203
    by_cases f0 : f < 0
    · go_wp2_with fail
      go_ret
      exact ⟨rfl, hb⟩
    · have f7 : 7 < f := by omega
      go_wp2_with fail
      go_ret
      exact ⟨rfl, hb⟩
theorem events_all (t : Nat) (s n d p : Int) (an : Bool) (f : Int) (w : World) (ht : t < 18446744073709551616) :
    Calls Try.prog 18 #[.agg #[.float .f64 t, .int .i64 s, .int .i64 n, .int .i64 d, .int .i64 p], .bool an, .int .i64 f] w fun e w' => e = .returned (.bool true) ∧ Below w.heap.size w w' := by
  cases hr : rightE t s n d
  · exact events_wrong t s n d p an f w ht hr
  · by_cases hf : 0 ≤ f ∧ f ≤ 7
    · exact events_good t s n d p an f w ht hr hf
    · exact events_bad t s n d p an f w ht hr hf
end Go.Proofs.Ytpgbfglfmmohdaa
