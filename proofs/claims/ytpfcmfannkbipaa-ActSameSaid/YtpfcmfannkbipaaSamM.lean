/- The law ActSame walked: two states copied in one statement, whatever order; the loop; the last statement. No condition. -/
import Derived.Test.YtpfcmfannkbipaaHan8
import Derived.Test.YtpfcmfannkbipaaAw8c
import Derived.Deep.RegionHeld3
import Derived.Deep.DeepCutAuto
import Derived.Test.YtpfcmfannkbipaaStill
import Derived.Test.YtpfcmfannkbipaaLaw08a
set_option linter.unusedVariables false
set_option linter.unusedSimpArgs false
set_option maxRecDepth 20000
namespace Go.Proofs.Ytpfcmfannkbipaa
open Go.RowKit Go.Deep

attribute [local go_sem] run_store_float
theorem OwnR.farU {α : Type} {e : TypeId} {size B : Nat} {enc : α → List Value} {w : World} {v : Value} {L : List α} (h : OwnR e size enc w B v L) {g : Nat} {t : TypeId} {cs : Array Value} (hb : Blk w g t cs) (hne : e ≠ t) (j : Nat) (x : Value) : OwnR e size enc (w.setCell ⟨g, j, none⟩ x) B v L :=
  ownsRow_setCell_other h (own_blk_ne h hb hne) x
/-- A state laid into a box. -/
abbrev st3 (w : World) (g : Nat) (u0 u1 u2 : Value) : World := ((w.setCell ⟨g, 0, none⟩ u0).setCell ⟨g, 1, none⟩ u1).setCell ⟨g, 2, none⟩ u2
section
variable {w w' W : World} {g h : Nat} {u0 u1 u2 c0 c1 c2 : Value}
theorem blk_st3 (hb : Blk w g 61 #[c0, c1, c2]) (u0 u1 u2 : Value) : Blk (st3 w g u0 u1 u2) g 61 #[u0, u1, u2] := by
  have := ((hb.set_ 0 u0).set_ 1 u1).set_ 2 u2
  simpa using this
theorem blk_far3 {t : TypeId} {cs : Array Value} (hb : Blk w h t cs) (hne : h ≠ g) (u0 u1 u2 : Value) : Blk (st3 w g u0 u1 u2) h t cs := ((hb.far (p := ⟨g, 0, none⟩) hne u0).far (p := ⟨g, 1, none⟩) hne u1).far (p := ⟨g, 2, none⟩) hne u2
theorem own_st3 {B : Nat} {v : Value} {L : List Int} (ho : OwnR 3 1 encInt w B v L) (hb : Blk w g 61 #[c0, c1, c2]) (u0 u1 u2 : Value) : OwnR 3 1 encInt (st3 w g u0 u1 u2) B v L :=
  ((ho.farU hb (by decide) 0 u0).farU (hb.set_ 0 u0) (by decide) 1 u1).farU ((hb.set_ 0 u0).set_ 1 u1) (by decide) 2 u2
theorem below_st3 {B : Nat} (hb : Below B W w) (hg : B ≤ g) (u0 u1 u2 : Value) : Below B W (st3 w g u0 u1 u2) := ((hb.setCell (p := ⟨g, 0, none⟩) hg u0).setCell (p := ⟨g, 1, none⟩) hg u1).setCell (p := ⟨g, 2, none⟩) hg u2
end
/-- What stands behind both calls: two boxes, two rows of words, the second's behind the first's. -/
structure Two8 (W : World) (L : List Int) (s d : Int) (gc gd : Nat) (A A' : Option Addr) (k k' : Nat) (C D : Array Value) (wx : World) : Prop where
  c : Blk wx gc 61 C
  d : Blk wx gd 61 D
  ne : gc ≠ gd
  cg : W.heap.size ≤ gc
  dg : W.heap.size ≤ gd
  oc : OwnR 3 1 encInt wx W.heap.size (.slice A L.length k) L
  od : OwnR 3 1 encInt wx W.heap.size (.slice A' L.length k') L
  ap : 0 < L.length → ∃ g g', A = some ⟨g, 0, none⟩ ∧ A' = some ⟨g', 0, none⟩ ∧ g ≠ g'
  b : Below W.heap.size W wx
def Z8 : Array Value := #[.slice none 0 0, .int .i64 0, .int .i64 0]
theorem Two8.setC {W wx : World} {L : List Int} {s d : Int} {gc gd : Nat} {A A' : Option Addr} {k k' : Nat} {D : Array Value} {c0 c1 c2 : Value} (h : Two8 W L s d gc gd A A' k k' #[c0, c1, c2] D wx) (u0 u1 u2 : Value) : Two8 W L s d gc gd A A' k k' #[u0, u1, u2] D (st3 wx gc u0 u1 u2) :=
  ⟨blk_st3 h.c u0 u1 u2, blk_far3 h.d (Ne.symm h.ne) u0 u1 u2, h.ne, h.cg, h.dg, own_st3 h.oc h.c u0 u1 u2, own_st3 h.od h.c u0 u1 u2, h.ap, below_st3 h.b h.cg u0 u1 u2⟩
theorem Two8.setD {W wx : World} {L : List Int} {s d : Int} {gc gd : Nat} {A A' : Option Addr} {k k' : Nat} {C : Array Value} {c0 c1 c2 : Value} (h : Two8 W L s d gc gd A A' k k' C #[c0, c1, c2] wx) (u0 u1 u2 : Value) : Two8 W L s d gc gd A A' k k' C #[u0, u1, u2] (st3 wx gd u0 u1 u2) :=
  ⟨blk_far3 h.c h.ne u0 u1 u2, blk_st3 h.d u0 u1 u2, h.ne, h.cg, h.dg, own_st3 h.oc h.d u0 u1 u2, own_st3 h.od h.d u0 u1 u2, h.ap, below_st3 h.b h.dg u0 u1 u2⟩
end Go.Proofs.Ytpfcmfannkbipaa
namespace Go.Proofs.Ytpfcmfannkbipaa
open Go

section
variable {P : Program} {ops : Array Oper} {md : Region.Mode} {Q : Exit → Act → World → Prop} {S : World → Prop}
def ordersOf (md : Region.Mode) (ops : Array Oper) : Nat → Array Bool → List (List Nat)
  | 0, _ => [[]]
  | n + 1, listed => (Region.ready md ops listed).flatMap fun i => (ordersOf md ops n (listed.setIfInBounds i true)).map (i :: ·)
def ordersOk (md : Region.Mode) (ops : Array Oper) (m g : Nat) : Nat → Array Bool → Bool
  | 0, listed => Region.seqB md ops g m listed
  | n + 1, listed => !(Region.ready md ops listed).isEmpty && (Region.ready md ops listed).all fun i => decide (i < m) && (decide (i < ops.size) && ordersOk md ops m g n (listed.setIfInBounds i true))
theorem orders_some {m g : Nat} : ∀ (n : Nat) (listed : Array Bool), ordersOk md ops m g n listed = true → ∃ l, l ∈ ordersOf md ops n listed
  | 0, listed, _ => ⟨[], by simp [ordersOf]⟩
  | n + 1, listed, h => by
    simp only [ordersOk, Bool.and_eq_true, Bool.not_eq_true', List.all_eq_true] at h
    obtain ⟨h0, h1⟩ := h
    cases hr : Region.ready md ops listed with
    | nil => rw [hr] at h0; cases h0
    | cons i is =>
      have hi := h1 i (by rw [hr]; simp)
      obtain ⟨l, hl⟩ := orders_some n _ hi.2.2
      refine ⟨i :: l, ?_⟩
      unfold ordersOf
      rw [List.mem_flatMap]
      exact ⟨i, by rw [hr]; simp, List.mem_map.2 ⟨l, hl, rfl⟩⟩
theorem to_of_orders {m : Nat} (rest : List Oper) (hrest : ∀ j, rest[j]? = ops[m + j]?) : ∀ (n : Nat) (listed : Array Bool) (a : Act) (w : World), ordersOk md ops m rest.length n listed = true →
    (∀ l ∈ ordersOf md ops n listed, wpMid P ops S (wpList P ops Q rest) (l.filterMap fun i => ops[i]?) a w) → anyTo P md ops Q S [] m (n + rest.length) listed a w
  | 0, listed, a, w, hB, h => by
    rw [Nat.zero_add]
    exact to_of_list rest m listed a w (Nat.le_refl _) hrest hB (h [] (by simp [ordersOf]))
  | n + 1, listed, a, w, hB, h => by
    simp only [ordersOk, Bool.and_eq_true, Bool.not_eq_true', List.all_eq_true, decide_eq_true_eq] at hB
    rw [show n + 1 + rest.length = (n + rest.length) + 1 from by omega]
    refine ⟨fun h1 => (by rw [h1] at hB; cases hB.1), fun i hi => ?_⟩
    obtain ⟨him, hisz, hok⟩ := hB.2 i hi
    have ho : ops[i]? = some ops[i] := Array.getElem?_eq_getElem hisz
    have step : ∀ l ∈ ordersOf md ops n (listed.setIfInBounds i true), wpMid P ops S (wpList P ops Q rest) (ops[i] :: l.filterMap fun i => ops[i]?) a w := by
      intro l hl
      have := h (i :: l) (by
        unfold ordersOf
        rw [List.mem_flatMap]
        exact ⟨i, hi, List.mem_map.2 ⟨l, hl, rfl⟩⟩)
      rwa [List.filterMap_cons, ho] at this
    obtain ⟨l0, hl0⟩ := orders_some n _ hok
    obtain ⟨hw, v, w1, hr, hs, _⟩ := step l0 hl0
    unfold wpOp
    simp only [ho, hw, if_true]
    refine .inl ?_
    unfold Oper.wp
    rw [hr, Oper.upon_value]
    refine ⟨fun _ _ => hs, to_of_orders rest hrest n _ _ _ hok fun l hl => ?_⟩
    obtain ⟨_, v', w1', hr', _, hm⟩ := step l hl
    rw [hr] at hr'
    injection hr' with e1 e2
    injection e1 with e1
    subst e1 e2
    exact hm
def takenAll : List Nat → Array Bool → Array Bool
  | [], listed => listed
  | i :: is, listed => takenAll is (listed.setIfInBounds i true)
def takesTo (md : Region.Mode) (ops : Array Oper) (m : Nat) : List Nat → Array Bool → Bool
  | [], _ => true
  | i :: is, listed => decide (i < m) && (decide (i < ops.size) && (Region.free md ops listed i && ((Region.ready md ops listed).contains i && takesTo md ops m is (listed.setIfInBounds i true))))
theorem to_takes {m f : Nat} {w : World} {K : Act → Prop} (hsel : Region.noSelect ops = true) (hs : sinkX md ops [] m = true) (hc : Region.chainB md ops m = true) (hm : m < ops.size) (hSw : S w) :
    ∀ (is : List Nat) (listed : Array Bool) (a : Act), ShutUp md ops listed → takesTo md ops m is listed = true → (∀ a', K a' → anyTo P md ops Q S [] m f (takenAll is listed) a' w) → wpHead P ops Q S K (is.filterMap fun i => ops[i]?) a → anyTo P md ops Q S [] m (is.length + f) listed a w
  | [], listed, a, _, _, hK, h => by
    rw [List.length_nil, Nat.zero_add]
    exact hK a h
  | i :: is, listed, a, inv, hB, hK, h => by
    simp only [takesTo, Bool.and_eq_true, decide_eq_true_eq] at hB
    obtain ⟨him, hisz, hfr, hrd, hB⟩ := hB
    have ho : ops[i]? = some ops[i] := Array.getElem?_eq_getElem hisz
    rw [List.filterMap_cons, ho] at h
    obtain ⟨v, hy, hQ, hk⟩ := h
    have hr : i ∈ Region.ready md ops listed := by simpa using hrd
    rw [List.length_cons, show is.length + 1 + f = (is.length + f) + 1 from by omega]
    refine anyTo_first (T := S) (I := fun _ => True) ho hsel hQ (fun _ _ _ => trivial) (fun _ h _ _ => h) (fun listed inv' _ hun j hj w' hw' => ?_) (is.length + f) listed a w inv trivial (Region.free_spec ho hfr) hr hy hSw ?_
    · exact hw' (Nat.lt_of_not_le fun hle => late hs hc hm inv' him (by simp) hun j hle hj) (by simp)
    · exact to_takes hsel hs hc hm hSw is _ _ (inv.set hr) hB hK hk
/-- The check, for the kernel. -/
def ordB (md : Region.Mode) (ops : Array Oper) (is : List Nat) (m n : Nat) (os : List (List Nat)) : Bool :=
  Region.noSelect ops && (decide (m < ops.size) && (decide (is.length + (n + (ops.size - m)) = ops.size) && (sinkX md ops [] m && (Region.chainB md ops m && (takesTo md ops m is (Array.replicate ops.size false) &&
    (ordersOk md ops m (ops.size - m) n (takenAll is (Array.replicate ops.size false)) && decide (ordersOf md ops n (takenAll is (Array.replicate ops.size false)) = os)))))))
/-- THE LAW: the operations 'is' only read; n operations make memory, in one of the orders os; from m on there is one order. -/
theorem wp_region_orders {id : Nat} {a : Act} {w : World} {l : List Oper} (S : World → Prop) (is : List Nat) (m n : Nat) (os : List (List Nat)) (hf : P.follows .mixedOrders = true) (hB : ordB .any l.toArray is m n os = true) (hS : S w.drew)
    (h : wpHead P l.toArray Q S (fun a' => ∀ o ∈ os, wpMid P l.toArray S (wpList P l.toArray Q (l.drop m)) (o.filterMap fun i => l[i]?) a' w.drew) (is.filterMap fun i => l[i]?) a) : (Code.region id l.toArray true).wp P Q a w := by
  simp only [ordB, Bool.and_eq_true, decide_eq_true_eq] at hB
  obtain ⟨hsel, hm, hsz, hs, hc, ht, hok, hos⟩ := hB
  have inv0 : ShutUp .any l.toArray (Array.replicate l.toArray.size false) := ⟨by simp, fun j oj _ hl => (by rw [getD_replicate_false] at hl; cases hl)⟩
  have hlen : (l.drop m).length = l.toArray.size - m := by rw [List.length_drop]; simp
  suffices key : ∀ F, F = is.length + (n + (l.drop m).length) → anyTo P .any l.toArray Q S [] m F (Array.replicate l.toArray.size false) a w.drew from
    wp_region_any hf (any_of_anyTo (S := S) (ex := []) (m := m) _ _ _ _ (key _ (by rw [hlen]; exact hsz.symm)))
  rintro _ rfl
  refine to_takes hsel hs hc hm hS is _ a inv0 ht (fun a' hK => ?_) (by simpa using h)
  subst hos
  refine to_of_orders (l.drop m) (fun j => by rw [List.getElem?_drop, List.getElem?_toArray]) n _ a' w.drew (by rw [hlen]; exact hok) fun o ho => ?_
  have := hK o ho
  simpa using this
end
end Go.Proofs.Ytpfcmfannkbipaa
namespace Go.Proofs.Ytpfcmfannkbipaa
open Go

section
variable {P : Program} {ops : Array Oper} {md : Region.Mode} {Q : Exit → Act → World → Prop} {S : World → Prop} {R : World → World → Prop} {T : Nat → (Nat → Value) → World → Prop} {C : Nat → Value → Nat → Prop}
/-- What an operation comes to. -/
def OpTo (P : Program) (o : Oper) (f : Operand → Value) (w : World) (K : Value → World → Prop) : Prop :=
  match (execOp f o).run P w with
  | .ok (.value v) w' => K v w'
  | .ok (.enter g args) w' => Calls P g args w' fun e w'' => ∃ v, e = .returned v ∧ K v w''
  | _ => False
theorem OpTo.wp {o : Oper} {a : Act} {w : World} {K : Value → World → Prop} {next : Act → World → Prop} (h : OpTo P o a.eval w K) (hk : ∀ v w', K v w' → next (a.put o.dst v) w') : o.wp P a w next Q := by
  unfold OpTo at h
  unfold Oper.wp
  generalize (execOp a.eval o).run P w = r at *
  cases r with
  | ok n w' =>
    cases n <;> simp only [Oper.upon] at h ⊢
    case value => exact hk _ _ h
    case enter =>
      refine Calls.mono h fun e w'' he => ?_
      obtain ⟨v, rfl, hv⟩ := he
      exact hk _ _ hv
  | halt x w' => exact h.elim
def dstOf (ops : Array Oper) (i : Nat) : Option Tmp := (ops[i]?).bind (·.dst)
def putSel (ops : Array Oper) (vs : Nat → Value) (listed : Array Bool) : List Nat → Act → Act
  | [], a => a
  | j :: js, a => putSel ops vs listed js (if listed.getD j false then a.put (dstOf ops j) (vs j) else a)
def updV (vs : Nat → Value) (i : Nat) (v : Value) : Nat → Value := fun j => if j = i then v else vs j
/-- What is asked of an operation: what it waits for is known. -/
def tyStep (P : Program) (md : Region.Mode) (ops : Array Oper) (S : World → Prop) (R : World → World → Prop) (T : Nat → (Nat → Value) → World → Prop) (C : Nat → Value → Nat → Prop) (i : Nat) (done : List Nat) (vs : Nat → Value) (o : Option Oper) (a : Act) : Prop :=
  match o with
  | none => False
  | some o => ∀ w, S w → (∀ j ∈ done, Region.waitsFor md ops i j = true → T j vs w) →
    (Region.wanted o (yielded ops a.tmps) = true ∧ OpTo P o a.eval w fun v w' => S w' ∧ R w w' ∧ T i (updV vs i v) w' ∧ ∀ b, C i v b → w.heap.size ≤ b ∧ b < w'.heap.size) ∨
    (Region.wanted o (yielded ops a.tmps) = false ∧ T i (updV vs i undef) w ∧ ∀ b, ¬ C i undef b)
/-- The operations in the text's order, each in any world in which it may come; then what has one order. -/
def tyAll (P : Program) (md : Region.Mode) (ops : Array Oper) (Q : Exit → Act → World → Prop) (S : World → Prop) (R : World → World → Prop) (T : Nat → (Nat → Value) → World → Prop) (C : Nat → Value → Nat → Prop) (rest : List Oper) : List Nat → List Nat → (Nat → Value) → Act → Prop
  | [], done, vs, a => ∀ w, S w → (∀ j ∈ done, T j vs w) → (∀ i ∈ done, ∀ j ∈ done, i ≠ j → ∀ b, C i (vs i) b → ¬ C j (vs j) b) → wpList P ops Q rest a w
  | i :: js, done, vs, a => tyStep P md ops S R T C i done vs ops[i]? a ∧ ∀ v, tyAll P md ops Q S R T C rest js (i :: done) (updV vs i v) (a.put (dstOf ops i) v)

/-! The check. -/
def apartB (md : Region.Mode) (ops : Array Oper) (j i : Nat) : Bool :=
  match ops[j]?, ops[i]? with
  | some oj, some oi => (match oi.dst with | some d => !(oj.looksAt ops).contains d && !(oj.dst == some d) | none => true) && (!Region.waitsFor md ops j i && (Region.waitsFor md ops i j || match oj.dst with | some d => !(oi.looksAt ops).contains d | none => true))
  | _, _ => false
theorem apartB_spec {j i : Nat} (h : apartB md ops j i = true) : ∃ oj oi, ops[j]? = some oj ∧ ops[i]? = some oi ∧ (∀ d, oi.dst = some d → d ∉ oj.looksAt ops ∧ oj.dst ≠ some d) ∧ (Region.waitsFor md ops i j = true ∨ ∀ d, oj.dst = some d → d ∉ oi.looksAt ops) ∧ Region.waitsFor md ops j i = false := by
  unfold apartB at h
  split at h
  · rename_i oj oi hj hi
    rw [Bool.and_eq_true, Bool.and_eq_true, Bool.or_eq_true, Bool.not_eq_true'] at h
    refine ⟨oj, oi, hj, hi, fun d hd => ?_, h.2.2.imp id fun h2 d hd => ?_, h.2.1⟩
    · have h1 := h.1
      rw [hd] at h1
      simp only [Bool.and_eq_true, Bool.not_eq_true', beq_eq_false_iff_ne] at h1
      exact ⟨fun hm => (by rw [List.contains_iff_mem.2 hm] at h1; cases h1.1), h1.2⟩
    · rw [hd] at h2
      simp only [Bool.not_eq_true'] at h2
      exact fun hm => (by rw [List.contains_iff_mem.2 hm] at h2; cases h2)
  · cases h
def lookB (md : Region.Mode) (ops : Array Oper) : List Nat → Bool
  | [] => true
  | j :: js => !js.contains j && (js.all (apartB md ops j) && lookB md ops js)
theorem lookB_cons {j : Nat} {js : List Nat} (h : lookB md ops (j :: js) = true) : j ∉ js ∧ (∀ i ∈ js, apartB md ops j i = true) ∧ lookB md ops js = true := by
  simp only [lookB, Bool.and_eq_true, Bool.not_eq_true', List.all_eq_true] at h
  exact ⟨fun hm => (by rw [List.contains_iff_mem.2 hm] at h; cases h.1), h.2.1, h.2.2⟩
theorem dst_ne {j i : Nat} (h : apartB md ops j i = true) : ∀ d, dstOf ops j = some d → dstOf ops i ≠ some d := by
  obtain ⟨oj, oi, hj, hi, h1, _⟩ := apartB_spec h
  intro d hd hd'
  unfold dstOf at hd hd'
  rw [hj] at hd
  rw [hi] at hd'
  exact (h1 d (by simpa using hd')).2 (by simpa using hd)
theorem putSel_put {vs : Nat → Value} {listed : Array Bool} {x : Option Tmp} {v : Value} : ∀ (js : List Nat) (a : Act), (∀ i ∈ js, ∀ d, x = some d → dstOf ops i ≠ some d) → putSel ops vs listed js (a.put x v) = (putSel ops vs listed js a).put x v
  | [], a, _ => rfl
  | j :: js, a, h => by
    unfold putSel
    split
    · rw [Act.put_comm a v (vs j) (h j (by simp))]
      exact putSel_put js _ fun i hi => h i (by simp [hi])
    · exact putSel_put js _ fun i hi => h i (by simp [hi])
theorem putSel_congr {vs vs' : Nat → Value} {listed listed' : Array Bool} : ∀ (js : List Nat) (a : Act), (∀ j ∈ js, listed.getD j false = listed'.getD j false ∧ vs j = vs' j) → putSel ops vs listed js a = putSel ops vs' listed' js a
  | [], a, _ => rfl
  | j :: js, a, h => by
    unfold putSel
    rw [(h j (by simp)).1, (h j (by simp)).2]
    exact putSel_congr js _ fun i hi => h i (by simp [hi])
theorem putSel_set {vs : Nat → Value} {listed : Array Bool} {i : Nat} {v : Value} (hsz : i < listed.size) (hl : listed.getD i false = false) : ∀ (js : List Nat) (a : Act), lookB md ops js = true → i ∈ js →
    putSel ops (updV vs i v) (listed.setIfInBounds i true) js a = (putSel ops vs listed js a).put (dstOf ops i) v
  | [], _, _, h => by cases h
  | j :: js, a, hB, hi => by
    obtain ⟨hn, hap, hB'⟩ := lookB_cons hB
    unfold putSel
    by_cases e : j = i
    · subst e
      have h1 : (listed.setIfInBounds j true).getD j false = true := by simp [hsz]
      rw [h1, if_pos rfl, hl, if_neg (by simp)]
      have h2 : updV vs j v j = v := by simp [updV]
      rw [h2, putSel_put js a fun k hk => dst_ne (hap k hk)]
      rw [putSel_congr (vs' := vs) (listed' := listed) js a fun k hk => (have hkj : k ≠ j := (fun e => hn (by rw [← e]; exact hk)); ⟨getD_set_ne false (Ne.symm hkj), by unfold updV; rw [if_neg hkj]⟩)]
    · have h1 : (listed.setIfInBounds i true).getD j false = listed.getD j false := getD_set_ne false (Ne.symm e)
      have h2 : updV vs i v j = vs j := by simp [updV, e]
      rw [h1, h2]
      exact putSel_set hsz hl js _ hB' (by simpa [Ne.symm e] using hi)
theorem exec_sel {vs : Nat → Value} {listed : Array Bool} {o : Oper} (hs : ∀ cs b, o.op ≠ .select cs b) : ∀ (js : List Nat) (a : Act), (∀ i ∈ js, ∀ d, dstOf ops i = some d → d ∉ o.looksAt ops) →
    execOp (putSel ops vs listed js a).eval o = execOp a.eval o ∧ Region.wanted o (yielded ops (putSel ops vs listed js a).tmps) = Region.wanted o (yielded ops a.tmps)
  | [], a, _ => ⟨rfl, rfl⟩
  | j :: js, a, h => by
    unfold putSel
    split
    · have h1 := exec_sel (vs := vs) (listed := listed) hs js (a.put (dstOf ops j) (vs j)) fun i hi => h i (by simp [hi])
      exact ⟨h1.1.trans (execOp_put o hs a _ _ (h j (by simp))), h1.2.trans (wanted_put o a _ _ (h j (by simp)))⟩
    · exact exec_sel hs js a fun i hi => h i (by simp [hi])
/-- What is known of an operation hangs on its own value and on those that it waits for. -/
def TDep (md : Region.Mode) (ops : Array Oper) (T : Nat → (Nat → Value) → World → Prop) : Prop := ∀ i vs vs' w, vs i = vs' i → (∀ j, Region.waitsFor md ops i j = true → vs j = vs' j) → T i vs w → T i vs' w
theorem ty_step {rest : List Oper} {vs : Nat → Value} {listed : Array Bool} {i : Nat} {o : Oper} (hs : ∀ cs b, o.op ≠ .select cs b) (ho : ops[i]? = some o) (hl : listed.getD i false = false) (hw : ∀ j, Region.waitsFor md ops i j = true → listed.getD j false = true) :
    ∀ (js done : List Nat) (vt : Nat → Value) (a : Act), lookB md ops js = true → i ∈ js → (∀ j, j ∉ js → vt j = vs j) → tyAll P md ops Q S R T C rest js done vt a →
    ∃ done' vt' a', tyStep P md ops S R T C i done' vt' (some o) a' ∧ (∀ j ∈ done', j ∈ done ∨ j ∈ js) ∧ (∀ j, j ∉ js → vt' j = vs j) ∧ (∀ j ∈ done', j ∉ done → vt' j = vs j) ∧ (∀ j, Region.waitsFor md ops i j = true → vt' j = vs j) ∧ (∀ j ∈ done', j ∉ done → ∀ k, Region.waitsFor md ops j k = true → vt' k = vs k) ∧
      execOp (putSel ops vs listed js a).eval o = execOp a'.eval o ∧ Region.wanted o (yielded ops (putSel ops vs listed js a).tmps) = Region.wanted o (yielded ops a'.tmps)
  | [], _, _, _, _, h, _, _ => by cases h
  | j :: js, done, vt, a, hB, hi, hvt, h => by
    obtain ⟨hn, hap, hB'⟩ := lookB_cons hB
    obtain ⟨h1, h2⟩ := h
    unfold putSel
    by_cases e : j = i
    · subst e
      rw [ho] at h1
      rw [hl, if_neg (by simp)]
      refine ⟨done, vt, a, h1, fun k hk => .inl hk, hvt, fun k hk hk' => absurd hk hk', fun k hk => hvt k fun hkm => ?_, fun k hk hk' => absurd hk hk', exec_sel hs js a fun k hk d hd => ?_⟩
      · rcases List.mem_cons.1 hkm with rfl | hkm
        · rw [hw _ hk] at hl; cases hl
        · obtain ⟨_, _, _, _, _, _, h5⟩ := apartB_spec (hap k hkm)
          rw [hk] at h5; cases h5
      · obtain ⟨oj, oi, hj, hi', h3, _⟩ := apartB_spec (hap k hk)
        obtain rfl : oj = o := Option.some.inj (hj.symm.trans ho)
        unfold dstOf at hd
        rw [hi'] at hd
        exact (h3 d (by simpa using hd)).1
    · have hi2 : i ∈ js := by simpa [Ne.symm e] using hi
      have hvt2 : ∀ k, k ∉ js → updV vt j (vs j) k = vs k := by
        intro k hk
        unfold updV
        by_cases ek : k = j
        · rw [if_pos ek, ek]
        · rw [if_neg ek]; exact hvt k fun hm => by
            rcases List.mem_cons.1 hm with h | h
            · exact ek h
            · exact hk h
      obtain ⟨done', vt', a', k1, k2, k5, k6, k7, k8, k3, k4⟩ := ty_step (vs := vs) (listed := listed) hs ho hl hw js _ _ _ hB' hi2 hvt2 (h2 (vs j))
      refine ⟨done', vt', a', k1, fun k hk => ?_, fun k hk => k5 k fun hm => hk (by simp [hm]), fun k hk hk' => ?_, k7, fun j0 hj0 hj0' k hk => ?_, ?_⟩
      · rcases k2 k hk with h | h
        · rcases List.mem_cons.1 h with rfl | h
          · exact .inr (by simp)
          · exact .inl h
        · exact .inr (by simp [h])
      · by_cases ek : k = j
        · subst ek; exact k5 k hn
        · exact k6 k hk fun hm => by
            rcases List.mem_cons.1 hm with h | h
            · exact ek h
            · exact hk' h
      · by_cases ej : j0 = j
        · subst ej
          exact k5 k fun hkm => by
            obtain ⟨_, _, _, _, _, _, h5⟩ := apartB_spec (hap k hkm)
            rw [hk] at h5; cases h5
        · exact k8 j0 hj0 (fun hm => by
            rcases List.mem_cons.1 hm with h | h
            · exact ej h
            · exact hj0' h) k hk
      · cases hlj : listed.getD j false with
        | true => rw [if_pos rfl]; exact ⟨k3, k4⟩
        | false =>
          rw [if_neg (by simp)]
          have hno : ∀ d, dstOf ops j = some d → d ∉ o.looksAt ops := by
            obtain ⟨oj, oi, hj, hi', _, h4, _⟩ := apartB_spec (hap i hi2)
            obtain rfl : oi = o := Option.some.inj (hi'.symm.trans ho)
            intro d hd
            unfold dstOf at hd
            rw [hj] at hd
            rcases h4 with h4 | h4
            · rw [hw j h4] at hlj; cases hlj
            · exact h4 d (by simpa using hd)
          rw [putSel_put js a fun k hk => dst_ne (hap k hk)] at k3 k4
          exact ⟨(execOp_put o hs _ _ _ hno).symm.trans k3, (wanted_put o _ _ _ hno).symm.trans k4⟩
theorem ty_end {rest : List Oper} {vs : Nat → Value} {listed : Array Bool} {w : World} (hS : S w) : ∀ (js done : List Nat) (vt : Nat → Value) (a : Act), lookB md ops js = true → (∀ j ∈ js, listed.getD j false = true) → (∀ j, j ∉ js → vt j = vs j) → tyAll P md ops Q S R T C rest js done vt a →
    (∀ j, j ∈ done ∨ j ∈ js → T j vs w) → (∀ i j, i ∈ done ∨ i ∈ js → j ∈ done ∨ j ∈ js → i ≠ j → ∀ b, C i (vs i) b → ¬ C j (vs j) b) → wpList P ops Q rest (putSel ops vs listed js a) w
  | [], done, vt, a, _, _, hvt, h, hT, hC => by
    have e : vt = vs := funext fun j => hvt j (by simp)
    subst e
    exact h w hS (fun p hp => hT p (.inl hp)) fun p hp q hq => hC p q (.inl hp) (.inl hq)
  | j :: js, done, vt, a, hB, hl, hvt, h, hT, hC => by
    obtain ⟨hn, hap, hB'⟩ := lookB_cons hB
    unfold putSel
    rw [hl j (by simp), if_pos rfl]
    have key : ∀ k, k ∈ j :: done ∨ k ∈ js → k ∈ done ∨ k ∈ j :: js := by
      intro k hk
      rcases hk with hk | hk
      · rcases List.mem_cons.1 hk with rfl | hk
        · exact .inr (by simp)
        · exact .inl hk
      · exact .inr (by simp [hk])
    exact ty_end hS js _ _ _ hB' (fun k hk => hl k (by simp [hk])) (fun k hk => by
      unfold updV
      by_cases ek : k = j
      · rw [if_pos ek, ek]
      · rw [if_neg ek]; exact hvt k fun hm => by
          rcases List.mem_cons.1 hm with h | h
          · exact ek h
          · exact hk h) (h.2 (vs j)) (fun k hk => hT k (key k hk)) fun p q hp hq => hC p q (key p hp) (key q hq)
theorem filter_off {p p' : Nat → Bool} {i : Nat} (hp : p i = true) (hp' : p' i = false) (h : ∀ j, j ≠ i → p' j = p j) : ∀ js : List Nat, i ∈ js → lookB md ops js = true → (js.filter p').length + 1 = (js.filter p).length
  | [], h, _ => by cases h
  | j :: js, hi, hB => by
    obtain ⟨hn, _, hB'⟩ := lookB_cons hB
    by_cases e : j = i
    · subst e
      rw [List.filter_cons_of_neg (by simp [hp']), List.filter_cons_of_pos hp, List.length_cons]
      have : js.filter p' = js.filter p := List.filter_congr fun k hk => h k fun e => hn (e ▸ hk)
      rw [this]
    · have := filter_off hp hp' h js (by simpa [Ne.symm e] using hi) hB'
      cases hpj : p j with
      | true =>
        rw [List.filter_cons_of_pos hpj, List.filter_cons_of_pos (by rw [h j e]; exact hpj), List.length_cons, List.length_cons]
        omega
      | false =>
        rw [List.filter_cons_of_neg (by rw [h j e, hpj]; simp), List.filter_cons_of_neg (by rw [hpj]; simp)]
        exact this
/-- All of the first m have come up. -/
def fullTo (m n : Nat) : Array Bool := (List.replicate m true ++ List.replicate n false).toArray
theorem full_eq {m n : Nat} {listed : Array Bool} (hs : listed.size = m + n) (h1 : ∀ j, j < m → listed.getD j false = true) (h2 : ∀ t, m ≤ t → listed.getD t false = false) : listed = fullTo m n := by
  have hz : (fullTo m n).size = m + n := by simp [fullTo]
  refine Array.ext (by rw [hs, hz]) fun t ht ht' => ?_
  have e : listed.getD t false = listed[t] := by simp [ht]
  rw [← e]
  by_cases hm : t < m
  · rw [h1 t hm]
    simp [fullTo, hm]
  · rw [h2 t (by omega)]
    simp [fullTo, List.getElem_append, hm]
/-- What may come up waits for lesser ones alone. -/
def lessB (md : Region.Mode) (ops : Array Oper) (js : List Nat) : Bool := js.all fun i => match ops[i]? with | some o => o.after.all (fun e => !Region.binds md e || decide (e.on < i)) | none => false
structure TyInv (S : World → Prop) (T : Nat → (Nat → Value) → World → Prop) (C : Nat → Value → Nat → Prop) (js : List Nat) (listed : Array Bool) (vs : Nat → Value) (w : World) : Prop where
  s : S w
  t : ∀ j ∈ js, listed.getD j false = true → T j vs w
  b : ∀ j ∈ js, listed.getD j false = true → ∀ b, C j (vs j) b → b < w.heap.size
  c : ∀ i ∈ js, ∀ j ∈ js, listed.getD i false = true → listed.getD j false = true → i ≠ j → ∀ b, C i (vs i) b → ¬ C j (vs j) b
theorem ty_any {rest : List Oper} {m : Nat} {js : List Nat} {a : Act} (hsel : Region.noSelect ops = true) (hs : sinkX md ops [] m = true) (hc : Region.chainB md ops m = true) (hm : m < ops.size) (hrest : ∀ j, rest[j]? = ops[m + j]?) (hlen : rest.length = ops.size - m)
    (hlook : lookB md ops js = true) (hless : lessB md ops js = true) (hjm : ∀ j ∈ js, j < m) (hseq : Region.seqB md ops rest.length m (fullTo m (ops.size - m)) = true)
    (hRz : ∀ w w', R w w' → w.heap.size ≤ w'.heap.size) (hRT : ∀ i vs w w', S w → S w' → R w w' → T i vs w → T i vs w') (hTD : TDep md ops T) (vs0 : Nat → Value) (h : tyAll P md ops Q S R T C rest js [] vs0 a) :
    ∀ (n : Nat) (listed : Array Bool) (vs : Nat → Value) (w : World), ShutUp md ops listed → (∀ j, j < m → j ∉ js → listed.getD j false = true) → (∀ t, m ≤ t → listed.getD t false = false) →
      (js.filter fun j => !listed.getD j false).length = n → (∀ j, j ∉ js → vs0 j = vs j) → TyInv S T C js listed vs w → anyTo P md ops Q S [] m (n + rest.length) listed (putSel ops vs listed js a) w := by
  intro n
  induction n with
  | zero =>
    intro listed vs w inv hpre htail hn hv0 I
    have hall : ∀ j ∈ js, listed.getD j false = true := by
      intro j hj
      have h0 := List.eq_nil_of_length_eq_zero hn
      cases hl : listed.getD j false with
      | true => rfl
      | false =>
        have : j ∈ js.filter fun j => !listed.getD j false := List.mem_filter.2 ⟨hj, by rw [hl]; rfl⟩
        rw [h0] at this
        cases this
    have hfull : listed = fullTo m (ops.size - m) := full_eq (by rw [inv.size]; omega) (fun j hj => by
      by_cases hjs : j ∈ js
      · exact hall j hjs
      · exact hpre j hj hjs) htail
    rw [Nat.zero_add]
    refine to_of_list rest m listed _ w (Nat.le_refl _) hrest (by rw [hfull]; exact hseq) ?_
    refine ty_end I.s js [] vs0 a hlook hall hv0 h (fun p hp => ?_) fun p q hp hq hne => ?_
    · rcases hp with hp | hp
      · cases hp
      · exact I.t _ hp (hall _ hp)
    · rcases hp with hp | hp
      · cases hp
      · rcases hq with hq | hq
        · cases hq
        · exact I.c _ hp _ hq (hall _ hp) (hall _ hq) hne
  | succ n ih =>
    intro listed vs w inv hpre htail hn hv0 I
    have hex : ∃ j, j ∈ js ∧ listed.getD j false = false := by
      cases hf : js.filter fun j => !listed.getD j false with
      | nil => rw [hf] at hn; cases hn
      | cons j _ =>
        have hj : j ∈ js.filter fun j => !listed.getD j false := by rw [hf]; simp
        obtain ⟨h1, h2⟩ := List.mem_filter.1 hj
        exact ⟨j, h1, by simpa using h2⟩
    have hready : ∀ d i, i = d → i ∈ js → listed.getD i false = false → ∃ k, k ∈ Region.ready md ops listed := by
      intro d
      induction d using Nat.strongRecOn with
      | _ d ihd =>
        intro i hid hi hli
        have h1 := List.all_eq_true.1 hless i hi
        have him := hjm i hi
        have ho : ops[i]? = some ops[i] := Array.getElem?_eq_getElem (by omega)
        rw [ho] at h1
        simp only [Array.all_eq_true_iff_forall_mem, Bool.or_eq_true, Bool.not_eq_true', decide_eq_true_eq] at h1
        by_cases hall : ∀ e ∈ (ops[i]).after, Region.binds md e = true → listed.getD e.on false = true
        · exact ⟨i, mem_ready.2 ⟨getD_in (by rw [inv.size]; omega) hli, _, ho, hall⟩⟩
        · simp only [Classical.not_forall] at hall
          obtain ⟨e, he, hb, hne⟩ := hall
          have hlt : e.on < i := (h1 e he).resolve_left (by rw [hb]; simp)
          have hne' : listed.getD e.on false = false := by simpa using hne
          have hejs : e.on ∈ js := by
            by_cases hjs : e.on ∈ js
            · exact hjs
            · rw [hpre e.on (by omega) hjs] at hne'; cases hne'
          exact ihd e.on (by omega) e.on rfl hejs hne'
    obtain ⟨j0, hj0, hlj0⟩ := hex
    obtain ⟨k0, hk0⟩ := hready j0 j0 rfl hj0 hlj0
    rw [show n + 1 + rest.length = (n + rest.length) + 1 from by omega]
    refine ⟨fun e => (by rw [e] at hk0; cases hk0), fun i hi => ?_⟩
    have him : i < m := Nat.lt_of_not_le fun hle => late hs hc hm inv (hjm j0 hj0) (by simp) (getD_in (by rw [inv.size]; have := hjm j0 hj0; omega) hlj0) i hle hi
    have hisz : i < listed.size := by rw [inv.size]; omega
    obtain ⟨hli, o, ho, hafter⟩ := mem_ready.1 hi
    have hlif : listed.getD i false = false := getD_both hli
    have hijs : i ∈ js := by
      by_cases hjs : i ∈ js
      · exact hjs
      · rw [hpre i him hjs] at hlif; cases hlif
    have hwait : ∀ j, Region.waitsFor md ops i j = true → listed.getD j false = true := by
      intro j hj
      obtain ⟨o', ho', e, he, hb, hon⟩ := Region.waitsFor_spec hj
      obtain rfl : o' = o := Option.some.inj (ho'.symm.trans ho)
      rw [← hon]
      exact hafter e he hb
    obtain ⟨done', vt', a', hst, hdone, hvo, hvd, hvw, hvk, hexec, hwant⟩ := ty_step (vs := vs) (listed := listed) (Region.noSelect_spec hsel i o · · ho) ho hlif hwait js [] vs0 a hlook hijs hv0 h
    have next : ∀ v w', S w' → T i (updV vs i v) w' → (w.heap.size ≤ w'.heap.size) → (∀ j ∈ js, listed.getD j false = true → T j vs w') → (∀ b, C i v b → w.heap.size ≤ b ∧ b < w'.heap.size) →
        (i < m → ([] : List Nat).contains i = false → S w') ∧ anyTo P md ops Q S [] m (n + rest.length) (listed.setIfInBounds i true) ((putSel ops vs listed js a).put o.dst v) w' := by
      intro v w' hSw hTv hz hTs hCv
      refine ⟨fun _ _ => hSw, ?_⟩
      have hd : o.dst = dstOf ops i := by unfold dstOf; rw [ho]; rfl
      rw [hd, ← putSel_set hisz hlif js a hlook hijs]
      have hold : ∀ j, j ≠ i → (listed.setIfInBounds i true).getD j false = listed.getD j false := fun j hj => getD_set_ne false (Ne.symm hj)
      have hnew : (listed.setIfInBounds i true).getD i false = true := by simp [hisz]
      have vi : updV vs i v i = v := by simp [updV]
      have vj : ∀ j, j ≠ i → updV vs i v j = vs j := fun j hj => by simp [updV, hj]
      refine ih _ _ _ (inv.set hi) (fun j hj hjs => getD_set_true (hpre j hj hjs)) (fun t ht => by rw [hold t (by omega)]; exact htail t ht) ?_ (fun j hj => by rw [vj j (fun e => hj (e ▸ hijs))]; exact hv0 j hj) ⟨hSw, fun j hj hl => ?_, fun j hj hl b hb => ?_, fun p hp q hq hlp hlq hne b hb => ?_⟩
      · have := filter_off (md := md) (ops := ops) (p := fun j => !listed.getD j false) (p' := fun j => !(listed.setIfInBounds i true).getD j false) (i := i) (by show (!listed.getD i false) = true; rw [hlif]; rfl) (by show (!(listed.setIfInBounds i true).getD i false) = false; rw [hnew]; rfl) (fun j hj => by show (!(listed.setIfInBounds i true).getD j false) = (!listed.getD j false); rw [hold j hj]) js hijs hlook
        omega
      · by_cases e : j = i
        · subst e; exact hTv
        · have hlj : listed.getD j false = true := by rw [← hold j e]; exact hl
          refine hTD j vs _ w' (vj j e).symm (fun k hk => (vj k fun ek => ?_).symm) (hTs j hj hlj)
          subst ek
          obtain ⟨oj, hoj, e', he', hb', hon'⟩ := Region.waitsFor_spec hk
          have := inv.closed j oj hoj hlj e' he' hb'
          rw [hon', hlif] at this
          cases this
      · by_cases e : j = i
        · subst e; rw [vi] at hb; exact (hCv b hb).2
        · rw [vj j e] at hb
          exact Nat.lt_of_lt_of_le (I.b j hj (by rw [← hold j e]; exact hl) b hb) hz
      · by_cases ep : p = i
        · subst ep
          rw [vi] at hb
          rw [vj q (Ne.symm hne)]
          intro hb'
          have := I.b q hq (by rw [← hold q (Ne.symm hne)]; exact hlq) b hb'
          have := (hCv b hb).1
          omega
        · rw [vj p ep] at hb
          by_cases eq : q = i
          · subst eq
            rw [vi]
            intro hb'
            have := I.b p hp (by rw [← hold p ep]; exact hlp) b hb
            have := (hCv b hb').1
            omega
          · rw [vj q eq]
            exact I.c p hp q hq (by rw [← hold p ep]; exact hlp) (by rw [← hold q eq]; exact hlq) hne b hb
    have hst := hst w I.s fun j hj hw => by
      have hjj : j ∈ js := (hdone j hj).resolve_left (by simp)
      have hlj := hwait j hw
      refine hTD j vs vt' w (hvd j hj (by simp)).symm (fun k hk => (hvk j hj (by simp) k hk).symm) (I.t j hjj hlj)
    have tdep : ∀ v w', T i (updV vt' i v) w' → T i (updV vs i v) w' := fun v w' ht => hTD i _ _ w' (by simp [updV]) (fun k hk => by
      have hki : k ≠ i := fun e => by rw [e] at hk; rw [hwait i hk] at hlif; cases hlif
      simp only [updV, if_neg hki]
      exact hvw k hk) ht
    unfold wpOp
    simp only [ho]
    rcases hst with ⟨h1, h2⟩ | ⟨h1, h2, h3⟩
    · rw [if_pos (hwant.trans h1)]
      refine .inl (OpTo.wp (K := fun v w' => S w' ∧ R w w' ∧ T i (updV vt' i v) w' ∧ ∀ b, C i v b → w.heap.size ≤ b ∧ b < w'.heap.size) (by unfold OpTo at h2 ⊢; rw [hexec]; exact h2) fun v w' hk => ?_)
      exact next v w' hk.1 (tdep _ _ hk.2.2.1) (hRz _ _ hk.2.1) (fun j hj hl => hRT _ _ _ _ I.s hk.1 hk.2.1 (I.t j hj hl)) hk.2.2.2
    · rw [if_neg (by rw [hwant, h1]; simp)]
      exact next undef w I.s (tdep _ _ h2) (Nat.le_refl _) I.t fun b hb => absurd hb (h3 b)
theorem taken_shut {m : Nat} : ∀ (is : List Nat) (listed : Array Bool), ShutUp md ops listed → takesTo md ops m is listed = true → ShutUp md ops (takenAll is listed)
  | [], _, h, _ => h
  | i :: is, listed, h, hB => by
    simp only [takesTo, Bool.and_eq_true, decide_eq_true_eq] at hB
    exact taken_shut is _ (h.set (by simpa using hB.2.2.2.1)) hB.2.2.2.2
theorem taken_in : ∀ (is : List Nat) (listed : Array Bool) (j : Nat), j < listed.size → j ∈ is ∨ listed.getD j false = true → (takenAll is listed).getD j false = true
  | [], _, _, _, h => h.resolve_left (by simp)
  | i :: is, listed, j, hj, h => by
    refine taken_in is _ j (by simpa using hj) ?_
    rcases h with h | h
    · rcases List.mem_cons.1 h with rfl | h
      · exact .inr (by simp [hj])
      · exact .inl h
    · exact .inr (getD_set_true h)
theorem taken_out : ∀ (is : List Nat) (listed : Array Bool) (j : Nat), j ∉ is → (takenAll is listed).getD j false = listed.getD j false
  | [], _, _, _ => rfl
  | i :: is, listed, j, h => by
    unfold takenAll
    rw [taken_out is _ j (fun hm => h (by simp [hm])), getD_set_ne false fun e => h (by simp [e])]
/-- The check, for the kernel. -/
def tyB (md : Region.Mode) (ops : Array Oper) (is : List Nat) (m : Nat) (js : List Nat) : Bool :=
  Region.noSelect ops && (decide (m < ops.size) && (decide (is.length + (js.length + (ops.size - m)) = ops.size) && (sinkX md ops [] m && (Region.chainB md ops m && (takesTo md ops m is (Array.replicate ops.size false) &&
    (lookB md ops js && (lessB md ops js && (js.all (fun j => decide (j < m) && !is.contains j) && ((List.range m).all (fun j => is.contains j || js.contains j) && (is.all (fun i => decide (i < m)) && Region.seqB md ops (ops.size - m) m (fullTo m (ops.size - m))))))))))))
/-- THE LAW: the operations 'is' only read; those of 'js' call or make memory; from m on there is one order. T: what is known of what an operation left; C: the memory that it has made its own. -/
theorem wp_region_typed {id : Nat} {a : Act} {w : World} {l : List Oper} (S : World → Prop) (R : World → World → Prop) (T : Nat → (Nat → Value) → World → Prop) (C : Nat → Value → Nat → Prop) (is : List Nat) (m : Nat) (js : List Nat) (hf : P.follows .mixedOrders = true) (hB : tyB .any l.toArray is m js = true) (hS : S w.drew)
    (hRz : ∀ w w', R w w' → w.heap.size ≤ w'.heap.size) (hRT : ∀ i vs w w', S w → S w' → R w w' → T i vs w → T i vs w') (hTD : TDep .any l.toArray T)
    (h : wpHead P l.toArray Q S (fun a' => tyAll P .any l.toArray Q S R T C (l.drop m) js [] (fun _ => undef) a') (is.filterMap fun i => l[i]?) a) : (Code.region id l.toArray true).wp P Q a w := by
  simp only [tyB, Bool.and_eq_true, decide_eq_true_eq, List.all_eq_true, Bool.not_eq_true', Bool.or_eq_true] at hB
  obtain ⟨hsel, hm, hsz, hs, hc, ht, hlook, hless, hjm, hcov, him, hseq⟩ := hB
  have inv0 : ShutUp .any l.toArray (Array.replicate l.toArray.size false) := ⟨by simp, fun j oj _ hl => (by rw [getD_replicate_false] at hl; cases hl)⟩
  have hlen : (l.drop m).length = l.toArray.size - m := by rw [List.length_drop]; simp
  suffices key : ∀ F, F = is.length + (js.length + (l.drop m).length) → anyTo P .any l.toArray Q S [] m F (Array.replicate l.toArray.size false) a w.drew from
    wp_region_any hf (any_of_anyTo (S := S) (ex := []) (m := m) _ _ _ _ (key _ (by rw [hlen]; exact hsz.symm)))
  rintro _ rfl
  have hnot : ∀ j, j ∉ is → (takenAll is (Array.replicate l.toArray.size false)).getD j false = false := fun j hj => by rw [taken_out _ _ _ hj, getD_replicate_false]
  have hjis : ∀ j ∈ js, j ∉ is := fun j hj hm => by
    have := (hjm j hj).2
    rw [List.contains_iff_mem.2 hm] at this
    cases this
  refine to_takes hsel hs hc hm hS is _ a inv0 ht (fun a' hK => ?_) (by simpa using h)
  have hf0 : ∀ j ∈ js, (takenAll is (Array.replicate l.toArray.size false)).getD j false = false := fun j hj => hnot j (hjis j hj)
  have hp0 : ∀ (js : List Nat) (a : Act), (∀ j ∈ js, (takenAll is (Array.replicate l.toArray.size false)).getD j false = false) → putSel l.toArray (fun _ => undef) (takenAll is (Array.replicate l.toArray.size false)) js a = a := by
    intro js
    induction js with
    | nil => intro a _; rfl
    | cons j js ih =>
      intro a h
      unfold putSel
      rw [h j (by simp), if_neg (by simp)]
      exact ih a fun k hk => h k (by simp [hk])
  have := ty_any (P := P) (md := .any) (ops := l.toArray) (Q := Q) (S := S) (R := R) (T := T) (C := C) (rest := l.drop m) (m := m) (js := js) (a := a') hsel hs hc hm (fun j => by rw [List.getElem?_drop, List.getElem?_toArray]) hlen hlook hless (fun j hj => (hjm j hj).1) (by rw [hlen]; exact hseq) hRz hRT hTD (fun _ => undef) hK js.length (takenAll is (Array.replicate l.toArray.size false)) (fun _ => undef) w.drew
    (taken_shut is _ inv0 ht) (fun j hj hjs => taken_in is _ j (by simpa using Nat.lt_trans hj (by simpa using hm)) (.inl (by
      rcases hcov j (List.mem_range.2 hj) with h | h
      · simpa using h
      · exact absurd (by simpa using h) hjs))) (fun t ht => hnot t fun hm => by have := him t hm; omega) (by
        rw [List.filter_eq_self.2]
        intro j hj
        rw [hf0 j hj]; rfl) (fun _ _ => rfl) ⟨hS, fun j hj hl => (by rw [hf0 j hj] at hl; cases hl), fun j hj hl => (by rw [hf0 j hj] at hl; cases hl), fun i hi j hj hl => (by rw [hf0 i hi] at hl; cases hl)⟩
  rw [hp0 js a' hf0] at this
  exact this
/-! Words for the walk. -/
theorem TDep.own (T : Nat → Value → World → Prop) : TDep md ops (fun i vs w => T i (vs i) w) := fun i vs vs' w h _ ht => by
  show T i (vs' i) w
  rw [← h]
  exact ht
theorem ty_nil {rest : List Oper} {done : List Nat} {vs : Nat → Value} {a : Act} (h : ∀ w, S w → (∀ j ∈ done, T j vs w) → (∀ i ∈ done, ∀ j ∈ done, i ≠ j → ∀ b, C i (vs i) b → ¬ C j (vs j) b) → wpList P ops Q rest a w) : tyAll P md ops Q S R T C rest [] done vs a := h
theorem ty_one {rest : List Oper} {i : Nat} {js done : List Nat} {vs : Nat → Value} {a : Act} {o : Oper} (ho : ops[i]? = some o) (hw : Region.wanted o (yielded ops a.tmps) = true)
    (h : ∀ w, S w → (∀ j ∈ done, Region.waitsFor md ops i j = true → T j vs w) → OpTo P o a.eval w fun v w' => S w' ∧ R w w' ∧ T i (updV vs i v) w' ∧ ∀ b, C i v b → w.heap.size ≤ b ∧ b < w'.heap.size)
    (hk : ∀ v, tyAll P md ops Q S R T C rest js (i :: done) (updV vs i v) (a.put o.dst v)) : tyAll P md ops Q S R T C rest (i :: js) done vs a := by
  refine ⟨?_, fun v => ?_⟩
  · rw [ho]
    exact fun w hS hT => .inl ⟨hw, h w hS hT⟩
  · have hd : dstOf ops i = o.dst := by unfold dstOf; rw [ho]; rfl
    rw [hd]
    exact hk v
theorem OpTo.enter {o : Oper} {f : Operand → Value} {w w' : World} {g : FuncId} {args : Array Value} {K : Value → World → Prop} (h : (execOp f o).run P w = .ok (.enter g args) w') (hc : Calls P g args w' fun e w'' => ∃ v, e = .returned v ∧ K v w'') : OpTo P o f w K := by
  unfold OpTo
  rw [h]
  exact hc
theorem OpTo.value {o : Oper} {f : Operand → Value} {w w' : World} {v : Value} {K : Value → World → Prop} (h : (execOp f o).run P w = .ok (.value v) w') (hK : K v w') : OpTo P o f w K := by
  unfold OpTo
  rw [h]
  exact hK
end
end Go.Proofs.Ytpfcmfannkbipaa
namespace Go.Proofs.Ytpfcmfannkbipaa
open Go.RowKit Go.Deep

attribute [local go_sem] run_store_float
/-- A cell of an own row written. -/
theorem OwnR.setAt {w : World} {B : Nat} {A : Option Addr} {c : Nat} {L : List Int} (h : OwnR 3 1 encInt w B (.slice A L.length c) L) {j : Nat} (hj : j < L.length) :
    ∃ g cur, A = some ⟨g, 0, none⟩ ∧ B ≤ g ∧ Blk w g 3 cur ∧ w.cell? ⟨g, j, none⟩ = some (.int .i64 L[j]) ∧ w.frozen? ⟨g, j, none⟩ = false ∧ ∀ z, OwnR 3 1 encInt (w.setCell ⟨g, j, none⟩ (.int .i64 z)) B (.slice A (L.set j z).length c) (L.set j z) := by
  have enc : ∀ L : List Int, L.flatMap encInt = L.map fun z => Value.int .i64 z := by
    intro L
    induction L with
    | nil => rfl
    | cons x L ih => simp [encInt, ih]
  obtain ⟨h1, h2⟩ := h
  rcases h2 with ⟨he, -⟩ | ⟨g, cap, cur, hv, hB, hh, hn, hm, hs, ht⟩
  · injection he with _ h4 _
    omega
  · injection hv with hv1 _ hv3
    subst hv1 hv3
    have hblk : Blk w g 3 cur := hh
    have hjc : j < cur.size := by omega
    rw [enc, Nat.mul_one] at ht
    have hcell : cur[j]? = some (.int .i64 L[j]) := by
      have h5 : (cur.toList.take L.length)[j]? = (L.map fun z => Value.int .i64 z)[j]? := by rw [ht]
      rw [List.getElem?_take, if_pos hj, List.getElem?_map, List.getElem?_eq_getElem hj] at h5
      simpa using h5
    refine ⟨g, cur, rfl, hB, hblk, (hblk.cell j).trans hcell, hblk.frozen j, fun z => ⟨by rw [enc]; simp, .inr ⟨g, c, cur.setIfInBounds j (.int .i64 z), rfl, hB, hblk.set_ j _, by simpa using hn, hm, by simpa using hs, ?_⟩⟩⟩
    rw [enc, Nat.mul_one, List.map_set, ← ht]
    simp [List.take_set]
/-- Z: a state's words, each one more. -/
def inc1 (x : Int) : Int := wrap64 (x + 1)
theorem inc1_ne {x : Int} (h : I64 x) : inc1 x ≠ x := by
  unfold inc1 wrap64
  unfold I64 at h
  omega
theorem inc1_ok (x : Int) : I64 (inc1 x) := bounds_i64 (wrap64_wf _)
/-- The first j words each one more. -/
def bump (j : Nat) (L : List Int) : List Int := (L.take j).map inc1 ++ L.drop j
theorem bump_zero (L : List Int) : bump 0 L = L := by simp [bump]
theorem bump_len (j : Nat) (L : List Int) : (bump j L).length = L.length := by
  unfold bump
  rw [List.length_append, List.length_map, List.length_take, List.length_drop]
  omega
theorem bump_at {j : Nat} {L : List Int} (h : j < L.length) : (bump j L)[j]? = some L[j] := by
  unfold bump
  rw [List.getElem?_append_right (by rw [List.length_map, List.length_take]; omega), List.length_map, List.length_take, Nat.min_eq_left (by omega), Nat.sub_self, List.getElem?_drop, Nat.add_zero, List.getElem?_eq_getElem h]
theorem bump_set {j : Nat} {L : List Int} (h : j < L.length) : (bump j L).set j (inc1 L[j]) = bump (j + 1) L := by
  unfold bump
  have hl : ((L.take j).map inc1).length = j := by rw [List.length_map, List.length_take]; omega
  rw [List.set_append_right _ _ (by omega), hl, Nat.sub_self, List.drop_eq_getElem_cons h, List.set_cons_zero, List.take_succ_eq_append_getElem h, List.map_append, List.append_assoc]
  rfl
theorem bump_ok {L : List Int} (h : ∀ z ∈ L, I64 z) (j : Nat) : ∀ z ∈ bump j L, I64 z := by
  intro z hz
  unfold bump at hz
  rcases List.mem_append.1 hz with hz | hz
  · obtain ⟨x, _, rfl⟩ := List.mem_map.1 hz
    exact inc1_ok x
  · exact h z (List.mem_of_mem_drop hz)
theorem bump_ne {L : List Int} (h : ∀ z ∈ L, I64 z) (h0 : 0 < L.length) : L ≠ bump L.length L := by
  intro e
  have h1 : (bump L.length L)[0]? = some (inc1 L[0]) := by
    unfold bump
    rw [List.getElem?_append_left (by simpa using h0)]
    simp [h0]
  rw [← e, List.getElem?_eq_getElem h0] at h1
  exact inc1_ne (h _ (List.getElem_mem h0)) (Option.some.inj h1).symm
/-! What the statement's operations leave. -/
def cpT (W0 : World) (L : List Int) (a b : Int) (v : Value) (w : World) : Prop := ∃ A k, v = .agg #[.slice A L.length k, .int .i64 a, .int .i64 b] ∧ OwnR 3 1 encInt w W0.heap.size (.slice A L.length k) L
def bxT (W0 : World) (v : Value) (w : World) : Prop := ∃ g, v = .pointer (some ⟨g, 0, none⟩) ∧ W0.heap.size ≤ g ∧ Blk w g 61 #[.slice none 0 0, .int .i64 0, .int .i64 0]
def T12 (W0 : World) (L : List Int) (a b : Int) (i : Nat) (v : Value) (w : World) : Prop := if i = 1 ∨ i = 3 then cpT W0 L a b v w else bxT W0 v w
def rowOf (v : Value) (b : Nat) : Prop := ∃ n k x y, v = .agg #[.slice (some ⟨b, 0, none⟩) n k, x, y]
def C12 (i : Nat) (v : Value) (b : Nat) : Prop := if i = 1 ∨ i = 3 then rowOf v b else v = .pointer (some ⟨b, 0, none⟩)
theorem T12.below {W0 w w' : World} {L : List Int} {a b : Int} {i : Nat} {v : Value} (h : T12 W0 L a b i v w) (hb : Below w.heap.size w w') : T12 W0 L a b i v w' := by
  unfold T12 at *
  split
  · rename_i hi
    rw [if_pos hi] at h
    obtain ⟨A, k, h1, h2⟩ := h
    exact ⟨A, k, h1, h2.below hb⟩
  · rename_i hi
    rw [if_neg hi] at h
    obtain ⟨g, h1, h2, h3⟩ := h
    exact ⟨g, h1, h2, h3.below hb h3.lt⟩
/-- A copy made. -/
theorem cp_made {W0 w w' : World} {L : List Int} {a b : Int} {A : Option Addr} {k : Nat} {i : Nat} (hi : i = 1 ∨ i = 3) (h : OwnR 3 1 encInt w' w.heap.size (.slice A L.length k) L) (hW : W0.heap.size ≤ w.heap.size) :
    T12 W0 L a b i (.agg #[.slice A L.length k, .int .i64 a, .int .i64 b]) w' ∧ ∀ g, C12 i (.agg #[.slice A L.length k, .int .i64 a, .int .i64 b]) g → w.heap.size ≤ g ∧ g < w'.heap.size := by
  refine ⟨by unfold T12; rw [if_pos hi]; exact ⟨A, k, rfl, h.lower hW⟩, fun g hg => ?_⟩
  unfold C12 at hg
  rw [if_pos hi] at hg
  obtain ⟨n, k', x, y, e⟩ := hg
  injection e with e
  have e1 : Value.slice A L.length k = .slice (some ⟨g, 0, none⟩) n k' := by
    have := congrArg (fun a => a[0]?) e
    simpa using this
  injection e1 with e2
  subst e2
  exact World.ownsRow.lt h g rfl
theorem bx_made {W0 w : World} {L : List Int} {a b : Int} {i : Nat} (hi : ¬ (i = 1 ∨ i = 3)) (hW : W0.heap.size ≤ w.heap.size) :
    T12 W0 L a b i (.pointer (some ⟨w.heap.size, 0, none⟩)) (w.alloc (.cells #[.slice none 0 0, .int .i64 0, .int .i64 0] 61)) ∧ ∀ g, C12 i (.pointer (some ⟨w.heap.size, 0, none⟩)) g → w.heap.size ≤ g ∧ g < (w.alloc (.cells #[.slice none 0 0, .int .i64 0, .int .i64 0] 61)).heap.size := by
  refine ⟨by unfold T12; rw [if_neg hi]; exact ⟨_, rfl, hW, Blk.new _ _ _⟩, fun g hg => ?_⟩
  unfold C12 at hg
  rw [if_neg hi] at hg
  injection hg with hg
  injection hg with hg
  injection hg with hg
  subst hg
  exact ⟨Nat.le_refl _, by simp⟩
/-- What the four leave, together. -/
theorem two_made {W0 X : World} {L : List Int} {a b : Int} {v1 v3 v4 v5 : Value} (h1 : T12 W0 L a b 1 v1 X) (h3 : T12 W0 L a b 3 v3 X) (h4 : T12 W0 L a b 4 v4 X) (h5 : T12 W0 L a b 5 v5 X) (hb : Below W0.heap.size W0 X) (c13 : ∀ g, C12 1 v1 g → ¬ C12 3 v3 g) (c45 : ∀ g, C12 4 v4 g → ¬ C12 5 v5 g) :
    ∃ gc gd A A' k k', v1 = .agg #[.slice A L.length k, .int .i64 a, .int .i64 b] ∧ v3 = .agg #[.slice A' L.length k', .int .i64 a, .int .i64 b] ∧ v4 = .pointer (some ⟨gc, 0, none⟩) ∧ v5 = .pointer (some ⟨gd, 0, none⟩) ∧ Two8 W0 L a b gc gd A A' k k' Z8 Z8 X := by
  obtain ⟨A, k, rfl, o1⟩ := h1
  obtain ⟨A', k', rfl, o3⟩ := h3
  obtain ⟨gc, rfl, hc, bc⟩ := h4
  obtain ⟨gd, rfl, hd, bd⟩ := h5
  refine ⟨gc, gd, A, A', k, k', rfl, rfl, rfl, rfl, ⟨bc, bd, fun e => ?_, hc, hd, o1, o3, fun h0 => ?_, hb⟩⟩
  · subst e
    exact c45 gc rfl rfl
  · obtain ⟨g, _, rfl, _, _, _⟩ := own_block o1 h0
    obtain ⟨g', _, rfl, _, _, _⟩ := own_block o3 h0
    refine ⟨g, g', rfl, rfl, fun e => ?_⟩
    subst e
    exact c13 g ⟨_, _, _, _, rfl⟩ ⟨_, _, _, _, rfl⟩
/-- What stands while one copy's words grow. -/
structure Lp8 (W : World) (L : List Int) (gc gd : Nat) (A A' : Option Addr) (k k' : Nat) (C D : Array Value) (j : Nat) (wx : World) : Prop where
  b : Below W.heap.size W wx
  c : Blk wx gc 61 C
  d : Blk wx gd 61 D
  oc : OwnR 3 1 encInt wx W.heap.size (.slice A L.length k) L
  od : OwnR 3 1 encInt wx W.heap.size (.slice A' (bump j L).length k') (bump j L)
theorem Lp8.start {W wx : World} {L : List Int} {s d : Int} {gc gd : Nat} {A A' : Option Addr} {k k' : Nat} {C D : Array Value} (h : Two8 W L s d gc gd A A' k k' C D wx) : Lp8 W L gc gd A A' k k' C D 0 wx :=
  ⟨h.b, h.c, h.d, h.oc, by rw [bump_zero]; exact h.od⟩
theorem Lp8.drew {W wx : World} {L : List Int} {gc gd : Nat} {A A' : Option Addr} {k k' : Nat} {C D : Array Value} {j : Nat} (h : Lp8 W L gc gd A A' k k' C D j wx) : Lp8 W L gc gd A A' k k' C D j wx.drew :=
  ⟨h.b.drew, h.c.drew, h.d.drew, h.oc.drew, h.od.drew⟩
theorem Lp8.step {W wx : World} {L : List Int} {gc gd : Nat} {A A' : Option Addr} {k k' : Nat} {C D : Array Value} {j : Nat} (h : Lp8 W L gc gd A A' k k' C D j wx) (hj : j < L.length) (hap : 0 < L.length → ∃ g g', A = some ⟨g, 0, none⟩ ∧ A' = some ⟨g', 0, none⟩ ∧ g ≠ g') :
    ∃ g', A' = some ⟨g', 0, none⟩ ∧ wx.cell? ⟨g', j, none⟩ = some (.int .i64 L[j]) ∧ wx.frozen? ⟨g', j, none⟩ = false ∧ Lp8 W L gc gd A A' k k' C D (j + 1) (wx.setCell ⟨g', j, none⟩ (.int .i64 (inc1 L[j]))) := by
  obtain ⟨g, g', hA, hA', hne⟩ := hap (by omega)
  obtain ⟨g2, cur, h2, hB, hblk, hcell, hfz, hset⟩ := OwnR.setAt h.od (j := j) (by rw [bump_len]; exact hj)
  rw [hA'] at h2
  injection h2 with h2
  injection h2 with h2
  subst h2
  have he : (bump j L)[j]'(by rw [bump_len]; exact hj) = L[j] := by
    have := bump_at hj
    rw [List.getElem?_eq_getElem (by rw [bump_len]; exact hj)] at this
    exact Option.some.inj this
  rw [he] at hcell
  refine ⟨g', hA', hcell, hfz, ⟨h.b.setCell (p := ⟨g', j, none⟩) hB _, h.c.far (p := ⟨g', j, none⟩) (Blk.ne_ h.c hblk (by decide)) _, h.d.far (p := ⟨g', j, none⟩) (Blk.ne_ h.d hblk (by decide)) _, ?_, ?_⟩⟩
  · exact ownsRow_setCell_other h.oc (by rw [hA]; simp only [Value.ownBlock]; intro e; exact hne (Option.some.inj e)) _
  · have := hset (inc1 L[j])
    rwa [bump_set hj] at this
end Go.Proofs.Ytpfcmfannkbipaa
namespace Go.Proofs.Ytpfcmfannkbipaa
open Go.RowKit Go.Deep

attribute [local go_sem] run_store_float
set_option maxHeartbeats 4000000 in
theorem asame_walk (s t : St) (w : World) (h : s.At w) (h' : t.At w) : Calls Try.prog 12 #[s.val, t.val] w fun e w' => e = .returned (.bool true) ∧ Below w.heap.size w w' := by
  obtain ⟨hb0, hX, hY⟩ := box2 w #[s.wd.val, .int .i64 s.sent, .int .i64 s.dice] #[t.wd.val, .int .i64 t.sent, .int .i64 t.dice] 61 61
  have HS := hide h
  have HT := hide h'
  have HCP := hide (fun (hq : s.wd.L.length ≤ 1000) W (hb : Below w.heap.size w W) => copy8v_any s W (h.below hb) hq)
  have HZ := hide (sl_ints h.1)
  have n1 := h.1.2
  have n2 := h'.1.2
  clear h h'
  obtain ⟨⟨sA, sc, sl⟩, sent, dice⟩ := s
  obtain ⟨⟨tA, tc, tl⟩, sent', dice'⟩ := t
  simp only [St.val, Sl.val, CopiedV] at *
  have HB := hide hb0
  have HX := hide hX
  have HY := hide hY
  have x0 := hX.cell 0
  have x1 := hX.cell 1
  have x2 := hX.cell 2
  simp only [List.getElem?_toArray, List.getElem?_cons_zero, List.getElem?_cons_succ] at x0 x1 x2
  have y0 := hY.cell 0
  have y1 := hY.cell 1
  have y2 := hY.cell 2
  simp only [List.getElem?_toArray, List.getElem?_cons_zero, List.getElem?_cons_succ] at y0 y1 y2
  clear hb0 hX hY
  by_cases hs : sl.length ≤ 100
  · by_cases ht : tl.length ≤ 100
    · have d1 : decide ((100 : Int) < (sl.length : Int)) = false := decide_eq_false (by omega)
      have d2 : decide ((100 : Int) < (tl.length : Int)) = false := decide_eq_false (by omega)
      go_enter Try.func12, Try.ntmps12
      go_upto_region 3 with fail
      obtain ⟨hq1, hq2⟩ : sl.length ≤ 9223372036854775807 ∧ sl.length ≤ 1000 := ⟨by omega, by omega⟩
      generalize (World.alloc (World.alloc w _) _) = w0 at *
      have HCQ := hide (fun W (hb : Below w0.heap.size w0 W) => HCP.out hq2 W (below_after HB.out hb))
      have HF := hide (fun W (hb : Below w0.heap.size w0 W) => (show W.cell? ⟨w.heap.size, 0, none⟩ = some (.slice sA sl.length sc) ∧ W.cell? ⟨w.heap.size, 1, none⟩ = some (.int .i64 sent) ∧ W.cell? ⟨w.heap.size, 2, none⟩ = some (.int .i64 dice) ∧ Below w0.heap.size w0 W from ⟨keepc hb x0, keepc hb x1, keepc hb x2, hb⟩))
      clear x0 x1 x2 y0 y1 y2 HCP
      refine wp_region_typed (fun W => W.cell? ⟨w.heap.size, 0, none⟩ = some (.slice sA sl.length sc) ∧ W.cell? ⟨w.heap.size, 1, none⟩ = some (.int .i64 sent) ∧ W.cell? ⟨w.heap.size, 2, none⟩ = some (.int .i64 dice) ∧ Below w0.heap.size w0 W) (fun W W' => Below W.heap.size W W') (fun i vs W => T12 w0 sl sent dice i (vs i) W) C12 [0, 2] 6 [1, 3, 4, 5] (by kernel_rfl) (by kernel_rfl) (HF.out _ (Below.refl _ _).drew) (fun _ _ h => h.size) (fun i vs W W' _ _ h ht => ht.below h) (TDep.own (T12 w0 sl sent dice)) ?_
      simp only [List.filterMap_cons, List.filterMap_nil, List.getElem?_cons_succ, List.getElem?_cons_zero, List.drop_succ_cons, List.drop_zero]
      repeat (refine head_step ?_ (by rfl) ?_ (fun _ _ _ h => h) ?_; rotate_left; (intro w' hs; obtain ⟨z0, z1, z2, _⟩ := hs; go_simp; (try with_reducible rfl)); (try simp only [Act.put, List.setIfInBounds_toArray, List.set_cons_zero, List.set_cons_succ]))
      refine head_nil ?_
      refine ty_one rfl (by rfl) (fun W hS _ => ?_) fun v1 => ty_one rfl (by rfl) (fun W hS _ => ?_) fun v3 => ty_one rfl (by rfl) (fun W hS _ => ?_) fun v4 => ty_one rfl (by rfl) (fun W hS _ => ?_) fun v5 => ty_nil ?_
      · refine OpTo.enter (g := 47) (args := #[.agg #[.slice sA sl.length sc, .int .i64 sent, .int .i64 dice]]) (w' := W) (by go_simp) ((HCQ.out W hS.2.2.2).mono ?_)
        rintro e w'' ⟨A, k, rfl, ho, hb⟩
        obtain ⟨h1, h2⟩ := cp_made (W0 := w0) (a := sent) (b := dice) (i := 1) (.inl rfl) ho hS.2.2.2.size
        exact ⟨_, rfl, HF.out _ (below_after hS.2.2.2 hb), hb, h1, h2⟩
      · refine OpTo.enter (g := 47) (args := #[.agg #[.slice sA sl.length sc, .int .i64 sent, .int .i64 dice]]) (w' := W) (by go_simp) ((HCQ.out W hS.2.2.2).mono ?_)
        rintro e w'' ⟨A, k, rfl, ho, hb⟩
        obtain ⟨h1, h2⟩ := cp_made (W0 := w0) (a := sent) (b := dice) (i := 3) (.inr rfl) ho hS.2.2.2.size
        exact ⟨_, rfl, HF.out _ (below_after hS.2.2.2 hb), hb, h1, h2⟩
      · have hb := (Below.refl W.heap.size W).alloc (Nat.le_refl _) (.cells #[.slice none 0 0, .int .i64 0, .int .i64 0] 61)
        obtain ⟨h1, h2⟩ := bx_made (W0 := w0) (w := W) (L := sl) (a := sent) (b := dice) (i := 4) (by decide) hS.2.2.2.size
        exact OpTo.value (by go_simp) ⟨HF.out _ (below_after hS.2.2.2 hb), hb, h1, h2⟩
      · have hb := (Below.refl W.heap.size W).alloc (Nat.le_refl _) (.cells #[.slice none 0 0, .int .i64 0, .int .i64 0] 61)
        obtain ⟨h1, h2⟩ := bx_made (W0 := w0) (w := W) (L := sl) (a := sent) (b := dice) (i := 5) (by decide) hS.2.2.2.size
        exact OpTo.value (by go_simp) ⟨HF.out _ (below_after hS.2.2.2 hb), hb, h1, h2⟩
      · intro X hS hT hC
        obtain ⟨gc, gd, A, A', k, k', rfl, rfl, rfl, rfl, h2⟩ := two_made (hT 1 (by simp)) (hT 3 (by simp)) (hT 4 (by simp)) (hT 5 (by simp)) hS.2.2.2 (hC 1 (by simp) 3 (by simp) (by decide)) (hC 4 (by simp) 5 (by simp) (by decide))
        have h3 := (h2.setC (.slice A sl.length k) (.int .i64 sent) (.int .i64 dice)).setD (.slice A' sl.length k') (.int .i64 sent) (.int .i64 dice)
        have c0 := h2.c.cell 0
        have c1 := h2.c.cell 1
        have c2 := h2.c.cell 2
        have e0 := h2.d.cell 0
        have e1 := h2.d.cell 1
        have e2 := h2.d.cell 2
        have u0 := h2.c.frozen 0
        have u1 := h2.c.frozen 1
        have u2 := h2.c.frozen 2
        have t0 := h2.d.frozen 0
        have t1 := h2.d.frozen 1
        have t2 := h2.d.frozen 2
        simp only [Z8, List.getElem?_toArray, List.getElem?_cons_zero, List.getElem?_cons_succ] at c0 c1 c2 e0 e1 e2
        have ne1 := h2.ne
        have ne2 := Ne.symm h2.ne
        unfold st3 at h3
        have H3 := hide h3
        clear hT hC h2 h3 hS HF HCQ
        go_upto_region 4 with fail
        generalize World.setCell (World.setCell (World.setCell (World.setCell (World.setCell (World.setCell X _ _) _ _) _ _) _ _) _ _) _ _ = X1 at *
        clear c0 c1 c2 e0 e1 e2 u0 u1 u2 t0 t1 t2 d1 d2 hs ht hq2 n1 n2
        have HL := hide (Lp8.start H3.out)
        have HAP := hide H3.out.ap
        clear H3 ne1 ne2
        generalize hCD : #[Value.slice A sl.length k, .int .i64 sent, .int .i64 dice] = C at *
        generalize hDD : #[Value.slice A' sl.length k', .int .i64 sent, .int .i64 dice] = D at *
        have HC := hide hCD
        have HD := hide hDD
        clear hCD hDD
        go_wp2_with fail
        go_loopw [7] (fun u wr => ∃ j : Nat, j ≤ sl.length ∧ u = .int .i64 j ∧ Lp8 w0 sl gc gd A A' k k' C D j wr) (fun u _ => sl.length - (intOf u).toNat)
        case atStart => exact ⟨0, Nat.zero_le _, rfl, HL.out⟩
        case round =>
          clear HL
          obtain ⟨j, hj, rfl, hS⟩ := hrel
          by_cases hlt : j < sl.length
          · obtain ⟨g', hA', hcell, hfz, hnext⟩ := hS.step hlt HAP.out
            have y0 := hS.d.cell 0
            rw [← HD.out] at y0
            simp only [List.getElem?_toArray, List.getElem?_cons_zero] at y0
            rw [hA'] at y0
            have HN := hide hnext
            have kI : (j : Int) < (sl.length : Int) := by omega
            have kJ : (0 : Int) ≤ (j : Int) := by omega
            generalize sl[j] = x at *
            clear hS hnext hA'
            go_upto_region 7 with fail
            refine wp_region_typed (fun W => W = wr.drew) (fun W W' => Below W.heap.size W W') (fun _ _ _ => True) (fun _ _ _ => False) [0, 1, 2, 3, 4, 5, 6, 7, 8, 9] 10 [] (by kernel_rfl) (by kernel_rfl) rfl (fun _ _ h => h.size) (fun _ _ _ _ _ _ _ h => h) (TDep.own (fun _ _ _ => True)) ?_
            simp only [List.filterMap_cons, List.filterMap_nil, List.getElem?_cons_succ, List.getElem?_cons_zero, List.drop_succ_cons, List.drop_zero]
            repeat (refine head_step ?_ (by rfl) ?_ (fun _ _ _ h => h) ?_; rotate_left; (intro w' hs; obtain rfl := hs; go_simp; (try with_reducible rfl)); (try simp only [Act.put, List.setIfInBounds_toArray, List.set_cons_zero, List.set_cons_succ]))
            refine head_nil (ty_nil ?_)
            intro W hW _ _
            subst hW
            go_wp2_with fail
            go_roundw
            case rel => exact ⟨j + 1, by omega, by go_num, HN.out.drew⟩
            case measure => simp [intOf]; omega
          · obtain rfl : j = sl.length := by omega
            have y0 := hS.d.cell 0
            rw [← HD.out] at y0
            simp only [List.getElem?_toArray, List.getElem?_cons_zero] at y0
            have HLS := hide hS
            clear hS hlt hj HAP
            go_upto_region 8 with fail
            have hS := HLS.out
            obtain ⟨p, hO, h0, hne, hI⟩ := bel_hidden wr wr.drew (Below.refl _ _).drew
            have hbw := fun i : Wo p => below_after HB.out (below_after hS.b (hI i))
            have HP := hide hO
            have H0 := hide h0
            have H1 := hide (fun i : Wo p => same8_any ⟨⟨sA, sc, sl⟩, sent, dice⟩ ⟨⟨tA, tc, tl⟩, sent', dice'⟩ i.W (HS.out.below (hbw i)) (HT.out.below (hbw i)))
            have H2 := hide (fun i : Wo p => rsame8_any ⟨⟨sA, sc, sl⟩, sent, dice⟩ ⟨⟨tA, tc, tl⟩, sent', dice'⟩ i.W (HS.out.below (hbw i)) (HT.out.below (hbw i)))
            have hc := OwnR.sl (size := 1) (s := ⟨A, k, sl⟩) (by decide) (fun _ => rfl) makes_int hS.oc HZ.out
            have hd := OwnR.sl (size := 1) (s := ⟨A', k', bump sl.length sl⟩) (by decide) (fun _ => rfl) makes_int hS.od (bump_ok HZ.out _)
            have H3 := hide (fun i : Wo p => rsame8_any ⟨⟨A, k, sl⟩, sent, dice⟩ ⟨⟨sA, sc, sl⟩, sent, dice⟩ i.W ⟨hc.below IntAt.keeps (hI i), HS.out.2⟩ (HS.out.below (hbw i)))
            have H4 := hide (fun i : Wo p => same8_any ⟨⟨sA, sc, sl⟩, sent, dice⟩ ⟨⟨sA, sc, sl⟩, sent, dice⟩ i.W (HS.out.below (hbw i)) (HS.out.below (hbw i)))
            have H5 := hide (fun i : Wo p => same8_any ⟨⟨sA, sc, sl⟩, sent, dice⟩ ⟨⟨A', k', bump sl.length sl⟩, sent, dice⟩ i.W (HS.out.below (hbw i)) ⟨hd.below IntAt.keeps (hI i), HS.out.2⟩)
            have e3 : sameP (St.pl ⟨⟨A, k, sl⟩, sent, dice⟩) (St.pl ⟨⟨sA, sc, sl⟩, sent, dice⟩) = true := sameP_iff.2 rfl
            have e4 : sameP (St.pl ⟨⟨sA, sc, sl⟩, sent, dice⟩) (St.pl ⟨⟨sA, sc, sl⟩, sent, dice⟩) = true := sameP_iff.2 rfl
            have e5 : 0 < sl.length → sameP (St.pl ⟨⟨sA, sc, sl⟩, sent, dice⟩) (St.pl ⟨⟨A', k', bump sl.length sl⟩, sent, dice⟩) = false := fun h => by
              rw [Bool.eq_false_iff]
              intro he
              exact bump_ne HZ.out h (congrArg Prod.fst (sameP_iff.1 he))
            rw [e3] at H3
            rw [e4] at H4
            generalize sameP (St.pl ⟨⟨sA, sc, sl⟩, sent, dice⟩) (St.pl ⟨⟨tA, tc, tl⟩, sent', dice'⟩) = SP at *
            generalize sameP (St.pl ⟨⟨sA, sc, sl⟩, sent, dice⟩) (St.pl ⟨⟨A', k', bump sl.length sl⟩, sent, dice⟩) = SQ at *
            simp only [St.val, Sl.val, bump_len] at H1 H2 H3 H4 H5
            have hbx := fun i : Wo p => below_after hS.b (hI i)
            have x0 := fun i : Wo p => keepc (hbx i) (HX.out.cell 0)
            have x1 := fun i : Wo p => keepc (hbx i) (HX.out.cell 1)
            have x2 := fun i : Wo p => keepc (hbx i) (HX.out.cell 2)
            have z0 := fun i : Wo p => keepc (hbx i) (HY.out.cell 0)
            have z1 := fun i : Wo p => keepc (hbx i) (HY.out.cell 1)
            have z2 := fun i : Wo p => keepc (hbx i) (HY.out.cell 2)
            have hSc := hS.c
            have hSd := hS.d
            rw [← HC.out] at hSc
            rw [← HD.out] at hSd
            have c0 := fun i : Wo p => keepc (hI i) (hSc.cell 0)
            have c1 := fun i : Wo p => keepc (hI i) (hSc.cell 1)
            have c2 := fun i : Wo p => keepc (hI i) (hSc.cell 2)
            have d0 := fun i : Wo p => keepc (hI i) (hSd.cell 0)
            have d1 := fun i : Wo p => keepc (hI i) (hSd.cell 1)
            have d2 := fun i : Wo p => keepc (hI i) (hSd.cell 2)
            have hbq : (SP == SP) = true := beq_self_eq_true SP
            have HBW := hide hbw
            have E5 := hide e5
            clear hSc hSd hS HLS hI hbw hbx hO h0 hc hd e3 e4 e5 HX HY HC HD y0 HS HT HZ
            rcases Nat.eq_zero_or_pos sl.length with hn | hn
            · have dz : ((sl.length : Int) == 0) = true := by simp [hn]
              have HN := hide hn
              clear hn
              refine wp_region_quietC (by kernel_rfl) (by kernel_rfl) H0.out ?_
              repeat (go_big_quiet_step (first
                | (go_at_call 40; exact Calls.quietC HP.out (awake08 _))
                | (go_at_call 48; with_reducible exact Calls.quietC HP.out (H1.out _))
                | (go_at_call 48; with_reducible exact Calls.quietC HP.out (H4.out _))
                | (go_at_call 42; with_reducible exact Calls.quietC HP.out (H2.out _))
                | (go_at_call 42; with_reducible exact Calls.quietC HP.out (H3.out _))))
              refine wpQuiet_nil ?_
              intro _ hw'
              obtain ⟨i, rfl⟩ := hw'
              go_wp2
              go_ret
              exact ⟨rfl, HBW.out i⟩
            · have dz : ((sl.length : Int) == 0) = false := beq_eq_false_iff_ne.2 (by omega)
              have e5 := E5.out hn
              subst e5
              clear hn
              refine wp_region_quietC (by kernel_rfl) (by kernel_rfl) H0.out ?_
              repeat (go_big_quiet_step (first
                | (go_at_call 40; exact Calls.quietC HP.out (awake08 _))
                | (go_at_call 48; with_reducible exact Calls.quietC HP.out (H1.out _))
                | (go_at_call 48; with_reducible exact Calls.quietC HP.out (H4.out _))
                | (go_at_call 48; with_reducible exact Calls.quietC HP.out (H5.out _))
                | (go_at_call 42; with_reducible exact Calls.quietC HP.out (H2.out _))
                | (go_at_call 42; with_reducible exact Calls.quietC HP.out (H3.out _))))
              refine wpQuiet_nil ?_
              intro _ hw'
              obtain ⟨i, rfl⟩ := hw'
              go_wp2
              go_ret
              exact ⟨rfl, HBW.out i⟩
    · have d1 : decide ((100 : Int) < (sl.length : Int)) = false := decide_eq_false (by omega)
      have d2 : decide ((100 : Int) < (tl.length : Int)) = true := decide_eq_true (by omega)
      have q1 : sl.length ≤ 9223372036854775807 := by omega
      have q2 : tl.length ≤ 9223372036854775807 := by omega
      clear HS HT HCP HZ HX HY x1 x2 y1 y2 n1 n2
      go_enter Try.func12, Try.ntmps12
      go_upto_region 2 with fail
      generalize (World.alloc (World.alloc w _) _) = w0 at *
      go_wp2_with fail
      refine (awake08 _).mono ?_
      rintro e w2 ⟨rfl, hb1⟩
      have HE := hide (below_after HB.out hb1)
      clear hb1 HB
      go_wp2_with fail
      go_ret
      exact ⟨rfl, HE.out⟩
  · have d1 : decide ((100 : Int) < (sl.length : Int)) = true := decide_eq_true (by omega)
    have q1 : sl.length ≤ 9223372036854775807 := by omega
    clear HS HT HCP HZ HX HY x1 x2 y0 y1 y2 n1 n2
    go_enter Try.func12, Try.ntmps12
    go_upto_region 2 with fail
    generalize (World.alloc (World.alloc w _) _) = w0 at *
    go_wp2_with fail
    refine (awake08 _).mono ?_
    rintro e w2 ⟨rfl, hb1⟩
    have HE := hide (below_after HB.out hb1)
    clear hb1 HB
    go_wp2_with fail
    go_ret
    exact ⟨rfl, HE.out⟩
end Go.Proofs.Ytpfcmfannkbipaa
