/- Texts of this claim in one. No condition. -/
import Derived.Test.YtpfcmfannkbipaaJ27
import Derived.Test.YtpfcmfannkbipaaJ23
import Derived.Test.YtpfcmfannkbipaaJ51
import Derived.Test.YtpfcmfannkbipaaJ21
section
set_option linter.unusedVariables false
namespace Go.Proofs.Ytpfcmfannkbipaa
open Go

section
variable {P : Program} {ops : Array Oper} {md : Region.Mode} {Q : Exit → Act → World → Prop} {S : World → Prop}
/-- Each from m on but m itself waits for one ahead of it, from m on. -/
def tailW (md : Region.Mode) (ops : Array Oper) (m : Nat) : Bool :=
  (List.range (ops.size - m)).all fun d => decide (d = 0) || (List.range d).any fun e => Region.waitsFor md ops (m + d) (m + e)
/-- While one of the first m has not come up, none from m on may. -/
theorem lateW {m : Nat} (hs : sinkX md ops [] m = true) (hc : tailW md ops m = true) (hm : m < ops.size) {listed : Array Bool} (h : ShutUp md ops listed) :
    ∀ {i : Nat}, i < m → listed.getD i true = false → ∀ t, m ≤ t → t ∉ Region.ready md ops listed := by
  have stays : ∀ i j, listed.getD i true = false → Region.waitsFor md ops j i = true → listed.getD j false = false ∧ j ∉ Region.ready md ops listed := by
    intro i j hun hw
    obtain ⟨oj, hoj, e, he, hb, hon⟩ := Region.waitsFor_spec hw
    refine ⟨?_, fun hr => ?_⟩
    · cases hl : listed.getD j false with
      | false => rfl
      | true =>
        have h2 := h.closed j oj hoj hl e he hb
        rw [hon, getD_both hun] at h2
        cases h2
    · obtain ⟨_, oj', hoj', hall⟩ := mem_ready.1 hr
      obtain rfl : oj' = oj := Option.some.inj (hoj'.symm.trans hoj)
      have h2 := hall e he hb
      rw [hon, getD_both hun] at h2
      cases h2
  have atM : ∀ d i, m - i = d → i < m → listed.getD i true = false → listed.getD m false = false ∧ m ∉ Region.ready md ops listed := by
    intro d
    induction d using Nat.strongRecOn with
    | _ d ih =>
      intro i hd hi hun
      have h1 := List.all_eq_true.1 hs i (List.mem_range.2 hi)
      simp only [List.contains_nil, Bool.false_or] at h1
      obtain ⟨j, hj, hj2⟩ := List.any_eq_true.1 h1
      rw [Bool.and_eq_true, decide_eq_true_eq] at hj2
      have hjm : j ≤ m := Nat.le_of_lt_succ (List.mem_range.1 hj)
      have hw : Region.waitsFor md ops j i = true := by
        have := hj2.2
        simpa using this
      have h2 := stays i j hun hw
      by_cases e : j = m
      · subst e
        exact h2
      · exact ih (m - j) (by omega) j rfl (by omega) (getD_in (by rw [h.size]; omega) h2.1)
  intro i hi hun t ht
  obtain ⟨k1, k2⟩ := atM _ i rfl hi hun
  have up : ∀ d, m + d < ops.size → listed.getD (m + d) false = false ∧ m + d ∉ Region.ready md ops listed := by
    intro d
    induction d using Nat.strongRecOn with
    | _ d ih =>
      intro hd
      by_cases e0 : d = 0
      · subst e0
        exact ⟨k1, k2⟩
      · have h1 := List.all_eq_true.1 hc d (List.mem_range.2 (by omega))
        rw [Bool.or_eq_true, decide_eq_true_eq] at h1
        obtain ⟨e, he, hw⟩ := List.any_eq_true.1 (h1.resolve_left e0)
        have hed := List.mem_range.1 he
        exact stays (m + e) (m + d) (getD_in (by rw [h.size]; omega) (ih e hed (by omega)).1) hw
  intro hr
  have hts : t < ops.size := by
    obtain ⟨_, ot, hot, _⟩ := mem_ready.1 hr
    exact (Array.getElem?_eq_some_iff.1 hot).1
  obtain ⟨d, rfl⟩ := Nat.exists_eq_add_of_le ht
  exact (up d hts).2 hr
/-- Where the first m have come up, nothing is asked any more. -/
theorem anyTo_of_any {m : Nat} : ∀ (f : Nat) (listed : Array Bool) (a : Act) (w : World), (∀ i, i < m → listed.getD i true = true) → wpAny P md ops Q f listed a w → anyTo P md ops Q S [] m f listed a w
  | 0, _, _, _, _, h => h
  | f + 1, listed, a, w, hl, h => ⟨h.1, fun i hi => wpOp_mono (fun a' w' h' => by
      have hmi : ¬ i < m := fun hlt => by
        have h1 := hl i hlt
        rw [(mem_ready.1 hi).1] at h1
        cases h1
      refine ⟨fun hlt => absurd hlt hmi, anyTo_of_any f _ a' w' (fun j hj => ?_) h'⟩
      by_cases e : i = j
      · subst e
        exact absurd hj hmi
      · rw [getD_set_ne true e]
        exact hl j hj) (h.2 i hi)⟩
def seqSt (md : Region.Mode) (ops : Array Oper) (m g : Nat) : List Nat → Array Bool → Bool
  | [], listed => Region.lexFrom md ops g m listed && (List.range m).all fun i => listed.getD i true
  | b :: bs, listed => decide (Region.ready md ops listed = [b]) && (decide (b < ops.size) && seqSt md ops m g bs (listed.setIfInBounds b true))
theorem to_of_midCS {m : Nat} (hsel : Region.noSelect ops = true) (rest : List Oper) (hrest : ∀ j, rest[j]? = ops[m + j]?) : ∀ (bs : List Nat) (listed : Array Bool) (a : Act) (w : World),
    seqSt md ops m rest.length bs listed = true → wpMidC P ops S (fun a w => wpStill P ops w (fun b => Q .normal b w) rest a) (bs.filterMap fun i => ops[i]?) a w → anyTo P md ops Q S [] m (bs.length + rest.length) listed a w
  | [], listed, a, w, hB, h => by
    rw [List.length_nil, Nat.zero_add]
    simp only [seqSt, Bool.and_eq_true, List.all_eq_true] at hB
    refine anyTo_of_any _ _ _ _ (fun i hi => hB.2 i (List.mem_range.2 hi)) ?_
    exact wpAny_of_still (Q := fun b => Q .normal b w) (fun _ h => h) _ _ _ (wpAnyS_lex hsel rest m listed a hrest hB.1 h)
  | b :: bs, listed, a, w, hB, h => by
    simp only [seqSt, Bool.and_eq_true, decide_eq_true_eq] at hB
    have h0 : ops[b]? = some ops[b] := Array.getElem?_eq_getElem hB.2.1
    rw [List.length_cons, show bs.length + 1 + rest.length = (bs.length + rest.length) + 1 from by omega]
    rw [List.filterMap_cons, h0] at h
    refine ⟨fun h1 => (by rw [hB.1] at h1; cases h1), fun i hi => ?_⟩
    rw [hB.1] at hi
    obtain rfl : i = b := by simpa using hi
    obtain ⟨hw, hm⟩ := h
    unfold wpOp
    simp only [h0, hw, if_true]
    exact .inl (OpTo.wp hm fun v w' hk' => ⟨fun _ _ => hk'.1, to_of_midCS hsel rest hrest bs _ _ _ hB.2.2 hk'.2⟩)
def ordersStOk (md : Region.Mode) (ops : Array Oper) (m : Nat) (bs : List Nat) (g : Nat) : Nat → Array Bool → Bool
  | 0, listed => seqSt md ops m g bs listed
  | n + 1, listed => !(Region.ready md ops listed).isEmpty && (Region.ready md ops listed).all fun i => decide (i < m) && (decide (i < ops.size) && ordersStOk md ops m bs g n (listed.setIfInBounds i true))
theorem ordersSt_some {m : Nat} {bs : List Nat} {g : Nat} : ∀ (n : Nat) (listed : Array Bool), ordersStOk md ops m bs g n listed = true → ∃ l, l ∈ ordersOf md ops n listed
  | 0, listed, _ => ⟨[], by simp [ordersOf]⟩
  | n + 1, listed, h => by
    simp only [ordersStOk, Bool.and_eq_true, Bool.not_eq_true', List.all_eq_true] at h
    obtain ⟨h0, h1⟩ := h
    cases hr : Region.ready md ops listed with
    | nil => rw [hr] at h0; cases h0
    | cons i is =>
      have hi := h1 i (by rw [hr]; simp)
      obtain ⟨l, hl⟩ := ordersSt_some n _ hi.2.2
      refine ⟨i :: l, ?_⟩
      unfold ordersOf
      rw [List.mem_flatMap]
      exact ⟨i, by rw [hr]; simp, List.mem_map.2 ⟨l, hl, rfl⟩⟩
theorem to_of_ordersS {m : Nat} (hsel : Region.noSelect ops = true) (bs : List Nat) (rest : List Oper) (hrest : ∀ j, rest[j]? = ops[m + j]?) : ∀ (n : Nat) (listed : Array Bool) (a : Act) (w : World), ordersStOk md ops m bs rest.length n listed = true →
    (∀ l ∈ ordersOf md ops n listed, wpMid P ops S (fun a w => wpMidC P ops S (fun a w => wpStill P ops w (fun b => Q .normal b w) rest a) (bs.filterMap fun i => ops[i]?) a w) (l.filterMap fun i => ops[i]?) a w) → anyTo P md ops Q S [] m (n + (bs.length + rest.length)) listed a w
  | 0, listed, a, w, hB, h => by
    rw [Nat.zero_add]
    exact to_of_midCS hsel rest hrest bs listed a w hB (h [] (by simp [ordersOf]))
  | n + 1, listed, a, w, hB, h => by
    simp only [ordersStOk, Bool.and_eq_true, Bool.not_eq_true', List.all_eq_true, decide_eq_true_eq] at hB
    rw [show n + 1 + (bs.length + rest.length) = (n + (bs.length + rest.length)) + 1 from by omega]
    refine ⟨fun h1 => (by rw [h1] at hB; cases hB.1), fun i hi => ?_⟩
    obtain ⟨him, hisz, hok⟩ := hB.2 i hi
    have ho : ops[i]? = some ops[i] := Array.getElem?_eq_getElem hisz
    have step : ∀ l ∈ ordersOf md ops n (listed.setIfInBounds i true), wpMid P ops S (fun a w => wpMidC P ops S (fun a w => wpStill P ops w (fun b => Q .normal b w) rest a) (bs.filterMap fun i => ops[i]?) a w) (ops[i] :: l.filterMap fun i => ops[i]?) a w := by
      intro l hl
      have := h (i :: l) (by
        unfold ordersOf
        rw [List.mem_flatMap]
        exact ⟨i, hi, List.mem_map.2 ⟨l, hl, rfl⟩⟩)
      rwa [List.filterMap_cons, ho] at this
    obtain ⟨l0, hl0⟩ := ordersSt_some n _ hok
    obtain ⟨hw, v, w1, hr, hs, _⟩ := step l0 hl0
    unfold wpOp
    simp only [ho, hw, if_true]
    refine .inl ?_
    unfold Oper.wp
    rw [hr, Oper.upon_value]
    refine ⟨fun _ _ => hs, to_of_ordersS hsel bs rest hrest n _ _ _ hok fun l hl => ?_⟩
    obtain ⟨_, v', w1', hr', _, hm⟩ := step l hl
    rw [hr] at hr'
    injection hr' with e1 e2
    injection e1 with e1
    subst e1 e2
    exact hm
theorem to_takesW {m f : Nat} {w : World} {K : Act → Prop} (hsel : Region.noSelect ops = true) (hs : sinkX md ops [] m = true) (hc : tailW md ops m = true) (hm : m < ops.size) (hSw : S w) :
    ∀ (is : List Nat) (listed : Array Bool) (a : Act), ShutUp md ops listed → takesTo md ops m is listed = true → (∀ a', K a' → anyTo P md ops Q S [] m f (takenAll is listed) a' w) → wpHead P ops Q S K (is.filterMap fun i => ops[i]?) a → anyTo P md ops Q S [] m (is.length + f) listed a w
  | [], listed, a, _, _, hK, h => by
    rw [List.length_nil, Nat.zero_add]
    exact hK a h
  | i :: is, listed, a, inv, hB, hK, h => by
    simp only [takesTo, Bool.and_eq_true, decide_eq_true_eq] at hB
    obtain ⟨him, hisz, hfr, hrd, hB⟩ := hB
    have ho : ops[i]? = some ops[i] := Array.getElem?_eq_getElem hisz
    rw [List.filterMap_cons, ho] at h
    obtain ⟨v, hy, hQ, hk⟩ := h
    have hr : i ∈ Region.ready md ops listed := by simpa using hrd
    rw [List.length_cons, show is.length + 1 + f = (is.length + f) + 1 from by omega]
    refine anyTo_first (T := S) (I := fun _ => True) ho hsel hQ (fun _ _ _ => trivial) (fun _ h _ _ => h) (fun listed inv' _ hun j hj w' hw' => ?_) (is.length + f) listed a w inv trivial (Region.free_spec ho hfr) hr hy hSw ?_
    · exact hw' (Nat.lt_of_not_le fun hle => lateW hs hc hm inv' him hun j hle hj) (by simp)
    · exact to_takesW hsel hs hc hm hSw is _ _ (inv.set hr) hB hK hk
/-- The check, for the kernel. -/
def ordSB (md : Region.Mode) (ops : Array Oper) (is : List Nat) (m n : Nat) (os : List (List Nat)) (bs : List Nat) : Bool :=
  Region.noSelect ops && (decide (m < ops.size) && (decide (is.length + (n + (bs.length + (ops.size - m))) = ops.size) && (sinkX md ops [] m && (tailW md ops m && (takesTo md ops m is (Array.replicate ops.size false) &&
    (ordersStOk md ops m bs (ops.size - m) n (takenAll is (Array.replicate ops.size false)) && decide (ordersOf md ops n (takenAll is (Array.replicate ops.size false)) = os)))))))
/-- THE LAW: the operations 'is' only read; n operations make memory, in one of the orders os; then those of bs call or make memory, in that order alone; from m on all only read, and call what changes nothing. -/
theorem wp_region_orders_still {id : Nat} {a : Act} {w : World} {l : List Oper} (S : World → Prop) (is : List Nat) (m n : Nat) (os : List (List Nat)) (bs : List Nat) (hf : P.follows .mixedOrders = true) (hB : ordSB .any l.toArray is m n os bs = true) (hS : S w.drew)
    (h : wpHead P l.toArray Q S (fun a' => ∀ o ∈ os, wpMid P l.toArray S (fun a w => wpMidC P l.toArray S (fun a w => wpStill P l.toArray w (fun b => Q .normal b w) (l.drop m) a) (bs.filterMap fun i => l[i]?) a w) (o.filterMap fun i => l[i]?) a' w.drew) (is.filterMap fun i => l[i]?) a) : (Code.region id l.toArray true).wp P Q a w := by
  simp only [ordSB, Bool.and_eq_true, decide_eq_true_eq] at hB
  obtain ⟨hsel, hm, hsz, hs, hc, ht, hok, hos⟩ := hB
  have inv0 : ShutUp .any l.toArray (Array.replicate l.toArray.size false) := ⟨by simp, fun j oj _ hl => (by rw [getD_replicate_false] at hl; cases hl)⟩
  have hlen : (l.drop m).length = l.toArray.size - m := by rw [List.length_drop]; simp
  suffices key : ∀ F, F = is.length + (n + (bs.length + (l.drop m).length)) → anyTo P .any l.toArray Q S [] m F (Array.replicate l.toArray.size false) a w.drew from
    wp_region_any hf (any_of_anyTo (S := S) (ex := []) (m := m) _ _ _ _ (key _ (by rw [hlen]; exact hsz.symm)))
  rintro _ rfl
  refine to_takesW hsel hs hc hm hS is _ a inv0 ht (fun a' hK => ?_) (by simpa using h)
  subst hos
  refine to_of_ordersS hsel bs (l.drop m) (fun j => by rw [List.getElem?_drop, List.getElem?_toArray]) n _ a' w.drew (by rw [hlen]; exact hok) fun o ho => ?_
  have := hK o ho
  simpa using this
end
end Go.Proofs.Ytpfcmfannkbipaa
end

section
set_option linter.unusedVariables false
set_option linter.unusedSimpArgs false
set_option maxRecDepth 20000
namespace Go.Proofs.Ytpfcmfannkbipaa
open Go.RowKit Go.Deep Go.Maps

attribute [local go_sem] run_store_float
/-- What turns outside of the reference's own memory keeps its simulation. -/
theorem Sim9.rebase {T : Nat → Prop} {w w0 w1 w2 : World} {g : Nat} {m : Mdl} {S : Sl St} {W : Sl Ev} {D : Sl Dn} (h : Sim9 w0 g m S W D w1) (ho : Off T w1 w2) (hT : ∀ k, T k → k < w0.heap.size) (hev : ∀ k cs, Blk w1 k 37 cs → ¬ T k) (hin : ∀ k cs, Blk w1 k 3 cs → ¬ T k)
    (hm : m.At w) (hb : Below w.heap.size w w2) (hw : w.heap.size ≤ w0.heap.size) : Sim9 (firstW w2 w0.heap.size) g m S W D w2 := by
  have hsz : w0.heap.size ≤ w2.heap.size := Nat.le_trans h.bel.size ho.size
  have e := firstW_size hsz
  have hnot : ∀ k, w0.heap.size ≤ k → ¬ T k := fun k hk ht => by have := hT k ht; omega
  refine ⟨by rw [e]; exact firstW_below hsz, by rw [e]; exact h.ge, ho.blk h.box (hnot _ h.ge), hm.below (below_firstW hb hw hw hsz), by rw [e]; exact ho.own h.st fun k hk => hnot k (h.st.base k hk), fun s hs => ⟨(h.wds s hs).1.off int_local ho hin, (h.wds s hs).2⟩, h.wt.off evb_local ho hev, by rw [e]; exact ho.own h.dn fun k hk => hnot k (h.dn.base k hk)⟩
/-- Two simulations of one model, the package's and the reference's, step by step. -/
structure Both9 (m : Mdl) (w : World) (X lo g b gx : Nat) (Sv : Value) (k : Nat) (wr : World) : Prop where
  pk : Pk9 lo g b m k (run9 m k (new9 m)) Sv wr
  sm : ∃ w0 S W D, Sim9 w0 gx m S W D wr ∧ plain9 S W D = run9 m k (new9 m) ∧ w0.heap.size = X
  ok : Ok9 m k (run9 m k (new9 m))
  bel : Below w.heap.size w wr
section
variable {m : Mdl} {w wr w' : World} {X lo g b gx k : Nat} {Sv : Value}
theorem Both9.below (h : Both9 m w X lo g b gx Sv k wr) (hb : Below wr.heap.size wr w') : Both9 m w X lo g b gx Sv k w' := by
  obtain ⟨w0, S, W, D, h1, h2, h3⟩ := h.sm
  exact ⟨h.pk.below hb, ⟨w0, S, W, D, h1.below hb, h2, h3⟩, h.ok, below_after h.bel hb⟩
/-- A step of the package's. -/
theorem Both9.step1 (h : Both9 m w X lo g b gx Sv k wr) (hm : m.At w) (hw : w.heap.size ≤ X) (hda : ∀ i, tchv g b Sv i → w.heap.size ≤ i ∧ i < X) (hk : k ≤ 10000) :
    Calls Try.prog 61 #[.pointer (some ⟨g, 0, none⟩)] wr fun x w1 => x = .returned (stepV m (run9 m k (new9 m))) ∧ Pk9 lo g b m (k + 1) (run9 m (k + 1) (new9 m)) Sv w1 ∧ (∃ w0 S W D, Sim9 w0 gx m S W D w1 ∧ plain9 S W D = run9 m k (new9 m) ∧ w0.heap.size = X) ∧ Below w.heap.size w w1 := by
  refine (step9p_all h.pk hk).mono ?_
  rintro x w1 ⟨rfl, hP, hO⟩
  obtain ⟨w0, S, W, D, h1, h2, h3⟩ := h.sm
  have hb : Below w.heap.size w w1 := h.bel.trans (hO.below h.bel.size fun i hi => (hda i hi).1)
  refine ⟨rfl, by rw [run9_succ]; exact hP, ⟨firstW w1 w0.heap.size, S, W, D, h1.rebase hO (fun i hi => by rw [h3]; exact (hda i hi).2) (fun i cs hi => h.pk.typ hi (by decide) (by decide)) (fun i cs hi => h.pk.typ hi (by decide) (by decide)) hm hb (by rw [h3]; exact hw), h2, ?_⟩, hb⟩
  rw [firstW_size (Nat.le_trans h1.bel.size hO.size)]
  exact h3
/-- .. and of the reference's. -/
theorem Both9.step2 (hP : Pk9 lo g b m (k + 1) (run9 m (k + 1) (new9 m)) Sv wr) (hS : ∃ w0 S W D, Sim9 w0 gx m S W D wr ∧ plain9 S W D = run9 m k (new9 m) ∧ w0.heap.size = X) (hok : Ok9 m k (run9 m k (new9 m))) (hb : Below w.heap.size w wr) (hck : chkB m = true) (hw : w.heap.size ≤ X) (hda : ∀ i, tchv g b Sv i → w.heap.size ≤ i ∧ i < X) (hk : k ≤ 10000) :
    Calls Try.prog 63 #[.pointer (some ⟨gx, 0, none⟩)] wr fun x w1 => x = .returned (stepV m (run9 m k (new9 m))) ∧ Both9 m w X lo g b gx Sv (k + 1) w1 ∧ wr.grownBy w1 (some gx) := by
  obtain ⟨w0, S, W, D, h1, h2, h3⟩ := hS
  refine (step9_all w0 wr gx k m S W D h1 hck (by rw [h2]; exact hok) hk).mono ?_
  rintro x w1 ⟨S', W', D', rfl, h4, h5, h6, hg⟩
  rw [h2] at h5 h6
  have hgx : X ≤ gx := h3 ▸ h1.ge
  have hO : Off (fun i => i = gx) wr w1 := Off.of_grown hg fun i e => (Option.some.inj e).symm
  refine ⟨by rw [h2], ⟨hP.off hO (fun i hi e => by have := (hda i hi).2; omega) (fun i t cs hi ht e => Blk.ne_ hi h1.box (mtyp_ne ht (by decide) (by decide) (by decide) (by decide) (by decide) (by decide)) e), ⟨w0, S', W', D', h4, by rw [h5, run9_succ], h3⟩, by rw [run9_succ]; exact h6, hb.trans (hO.below hb.size fun i e => by omega)⟩, hg⟩
end
theorem eqD_self (L : List Dn) : eqL sameD L L = true := by
  refine eqL_yes rfl ?_
  rw [List.all_eq_true]
  intro p hp
  obtain ⟨i, hi, e⟩ := List.getElem_of_mem (List.mem_of_mem_take hp)
  rw [List.getElem_zip] at e
  rw [← e]
  exact sameD_self _
theorem same_two {W : World} {x y : Nat} {d : Dn} (h1 : Blk W x 39 (dnC d)) (h2 : Blk W y 39 (dnC d)) : Calls Try.prog 28 #[.slice (some ⟨x, 0, none⟩) 1 1, .slice (some ⟨y, 0, none⟩) 1 1] W fun e w' => e = .returned (.bool true) ∧ Below W.heap.size W w' := by
  have := r9same_any ⟨some ⟨x, 0, none⟩, 1, [d]⟩ ⟨some ⟨y, 0, none⟩, 1, [d]⟩ W (ech_one ⟨h1.cell 0, h1.cell 1, h1.cell 2, h1.cell 3, h1.cell 4, h1.cell 5⟩) (ech_one ⟨h2.cell 0, h2.cell 1, h2.cell 2, h2.cell 3, h2.cell 4, h2.cell 5⟩)
  rw [eqD_self] at this
  exact this
theorem stepV_form (m : Mdl) (s : Sm9) : ∃ (d : Dn) (b : Bool), stepV m s = .tuple #[.agg #[.float .f64 d.1, .int .i64 d.2.1, .int .i64 d.2.2.1, .int .i64 d.2.2.2.1, .int .i64 d.2.2.2.2.1, .int .i64 d.2.2.2.2.2], .bool b] := by
  cases h : s.2.1 with
  | nil => exact ⟨(0, 0, 0, 0, 0, 0), false, by rw [stepV_none h]; rfl⟩
  | cons e r => exact ⟨_, true, by rw [stepV_some h]; rfl⟩
set_option maxHeartbeats 8000000 in
theorem runs09_walk (m : Mdl) (n : Int) (w : World) (hm : m.At w) (hn0 : 0 ≤ n) (hn1 : n ≤ 255) : Calls Try.prog 19 #[m.val, .int .u8 n] w fun e w' => e = .returned (.bool true) ∧ Below w.heap.size w w' := by
  have hX := Blk.new w 58 #[.int .i64 m.seed, .float .f64 m.fin, m.dl.val, m.pl.val, m.ll.val, m.il.val]
  have hb := (Below.refl w.heap.size w).alloc (Nat.le_refl _) (.cells #[.int .i64 m.seed, .float .f64 m.fin, m.dl.val, m.pl.val, m.ll.val, m.il.val] 58)
  have hM1 := hm.below hb
  have HLI := hide (L08.light_any m _ hM1)
  have HM1 := hide hM1
  have HM0 := hide hm
  have HB := hide hb
  have HX := hide hX
  have HCH := hide (fun W (h : m.At W) => rcheck_any m W h)
  have HNB := hide (fun W (h : m.At W) hc => new9p_bad m W h hc)
  have HNG := hide (fun W (h : m.At W) hc => new9p_any m W h hc)
  have HNR := hide (fun W (h : m.At W) hc => new9_any m W h hc)
  clear hm hb hM1
  simp only [Mdl.val] at HLI HCH HNB HNG HNR ⊢
  generalize m.dl.val = Vd at *
  generalize m.pl.val = Vp at *
  generalize m.ll.val = Vl at *
  generalize m.il.val = Vi at *
  generalize L08.lightB m = li at *
  have x0 := hX.cell 0
  have x1 := hX.cell 1
  have x2 := hX.cell 2
  have x3 := hX.cell 3
  have x4 := hX.cell 4
  have x5 := hX.cell 5
  simp only [List.getElem?_toArray, List.getElem?_cons_zero, List.getElem?_cons_succ] at x0 x1 x2 x3 x4 x5
  clear hX
  go_enter Try.func19, Try.ntmps19
  go_upto_region 1 with fail
  generalize World.alloc w _ = w1 at *
  generalize hnb : w.heap.size = nb at *
  go_wp2_with fail
  refine HLI.out.mono ?_
  rintro e w2 ⟨rfl, hb2⟩
  have HM2 := hide (HM1.out.below hb2)
  have hX2 := HX.out.below hb2 HX.out.lt
  have HX2 := hide hX2
  have HB2 := hide (show Below nb w w2 from hnb ▸ below_after (hnb.symm ▸ HB.out) hb2)
  clear x0 x1 x2 x3 x4 x5 hb2 HM1 HX HB HLI
  have HNBE := hide hnb
  clear hnb
  cases li with
  | false =>
    clear HX2 HM2 HNB HNG hX2 HCH HNR HM0
    go_wp2_with fail
    refine (awake09 _).mono ?_
    rintro e w3 ⟨rfl, hb3⟩
    have HB3 := hide (below_after (HNBE.out.symm ▸ HB2.out) hb3)
    clear hb3
    go_wp2_with fail
    go_ret
    exact ⟨rfl, HB3.out⟩
  | true =>
    have x0 := hX2.cell 0
    have x1 := hX2.cell 1
    have x2 := hX2.cell 2
    have x3 := hX2.cell 3
    have x4 := hX2.cell 4
    have x5 := hX2.cell 5
    simp only [List.getElem?_toArray, List.getElem?_cons_zero, List.getElem?_cons_succ] at x0 x1 x2 x3 x4 x5
    clear hX2
    cases hck : chkB m with
    | false =>
      have HN := hide (HNB.out w2 HM2.out hck)
      have HC := hide (fun W (h : m.At W) => show Calls Try.prog 43 #[.agg #[.int .i64 m.seed, .float .f64 m.fin, Vd, Vp, Vl, Vi]] W fun e w' => e = .returned (.int .i64 15) ∧ Below W.heap.size W w' by
        have := HCH.out W h
        rw [show chkE m = 15 by unfold chkE; rw [hck]; rfl] at this
        exact this)
      clear HNB HNG hck HNR HCH
      go_wp2_with fail
      refine HN.out.mono ?_
      rintro e w3 ⟨rfl, hb3⟩
      have HM3 := hide (HM2.out.below hb3)
      have hX3 := HX2.out.below hb3 HX2.out.lt
      have HB3 := hide (below_after (HNBE.out.symm ▸ HB2.out) hb3)
      have HC3 := hide (HC.out w3 HM3.out)
      clear hb3 HN x0 x1 x2 x3 x4 x5 HM2 HX2 HB2 HC
      have x0 := hX3.cell 0
      have x1 := hX3.cell 1
      have x2 := hX3.cell 2
      have x3 := hX3.cell 3
      have x4 := hX3.cell 4
      have x5 := hX3.cell 5
      simp only [List.getElem?_toArray, List.getElem?_cons_zero, List.getElem?_cons_succ] at x0 x1 x2 x3 x4 x5
      clear hX3
      go_wp2_with fail
      refine HC3.out.mono ?_
      rintro e w4 ⟨rfl, hb4⟩
      have HB4 := hide (below_after HB3.out hb4)
      clear hb4 HB3 HC3 HM3 x0 x1 x2 x3 x4 x5
      go_wp2_with fail
      refine (awake09 _).mono ?_
      rintro e w5 ⟨rfl, hb5⟩
      have HB5 := hide (below_after HB4.out hb5)
      clear hb5 HB4
      go_wp2_with fail
      go_ret
      exact ⟨rfl, HB5.out⟩
    | true =>
      have HN := hide (HNG.out w2 HM2.out hck)
      have HC := hide (fun W (h : m.At W) => show Calls Try.prog 43 #[.agg #[.int .i64 m.seed, .float .f64 m.fin, Vd, Vp, Vl, Vi]] W fun e w' => e = .returned (.int .i64 0) ∧ Below W.heap.size W w' by
        have := HCH.out W h
        rw [show chkE m = 0 by unfold chkE; rw [hck]; rfl] at this
        exact this)
      have HCK := hide hck
      clear HNB HNG hck HCH
      go_wp2_with fail
      refine HN.out.mono ?_
      intro e w3 hN
      obtain ⟨lo, g, b, Sv, rfl, hlo, hP, hb3⟩ := new9_start HM2.out HCK.out hN
      have HM3 := hide (HM2.out.below hb3)
      have hX3 := HX2.out.below hb3 HX2.out.lt
      have HX3 := hide hX3
      have HB3 := hide (below_after (HNBE.out.symm ▸ HB2.out) hb3)
      have HTL := hide (fun k (hk : tchv g b Sv k) => And.intro (Nat.le_trans (Nat.le_of_lt HX2.out.lt) (Nat.le_trans hlo (hP.tlo hk).1)) (hP.tlo hk).2)
      have HP := hide hP
      have HC3 := hide (HC.out w3 HM3.out)
      clear hb3 HN hN hP hlo x0 x1 x2 x3 x4 x5 HM2 HX2 HB2 HC
      have x0 := hX3.cell 0
      have x1 := hX3.cell 1
      have x2 := hX3.cell 2
      have x3 := hX3.cell 3
      have x4 := hX3.cell 4
      have x5 := hX3.cell 5
      simp only [List.getElem?_toArray, List.getElem?_cons_zero, List.getElem?_cons_succ] at x0 x1 x2 x3 x4 x5
      clear hX3
      go_wp2_with fail
      refine HC3.out.mono ?_
      rintro e w4 ⟨rfl, hb4⟩
      have HM4 := hide (HM3.out.below hb4)
      have hX4 := HX3.out.below hb4 HX3.out.lt
      have HB4 := hide (below_after HB3.out hb4)
      have HP4 := hide (HP.out.below hb4)
      have HT4 := hide (fun k (hk : tchv g b Sv k) => And.intro (HTL.out k hk).1 (Nat.lt_of_lt_of_le (HTL.out k hk).2 hb4.size))
      have HN4 := hide (HNR.out w4 HM4.out HCK.out)
      clear hb4 HC3 x0 x1 x2 x3 x4 x5 HM3 HX3 HB3 HP HTL HNR
      have x0 := hX4.cell 0
      have x1 := hX4.cell 1
      have x2 := hX4.cell 2
      have x3 := hX4.cell 3
      have x4 := hX4.cell 4
      have x5 := hX4.cell 5
      simp only [List.getElem?_toArray, List.getElem?_cons_zero, List.getElem?_cons_succ] at x0 x1 x2 x3 x4 x5
      clear hX4
      go_wp2_with fail
      refine HN4.out.mono ?_
      rintro e w5 ⟨gx, S, W, D, rfl, hS, hpl⟩
      have HBO := hide (show Both9 m w w4.heap.size lo g b gx Sv 0 w5 from ⟨HP4.out.below hS.bel, ⟨w4, S, W, D, hS, plain_new hpl, rfl⟩, new9_ok HM0.out HCK.out, below_after HB4.out hS.bel⟩)
      have HWX := hide HB4.out.size
      clear hS hpl HN4 x0 x1 x2 x3 x4 x5 HP4 HM4 HB4
      generalize w4.heap.size = X at *
      go_wp2_with fail
      refine (awake09 _).mono ?_
      rintro e w6 ⟨rfl, hb6⟩
      have HB6 := hide (HBO.out.below hb6)
      clear hb6 HBO
      obtain ⟨N, hN, hNl⟩ : ∃ N : Nat, n % 60 = (N : Int) ∧ N < 60 := ⟨(n % 60).toNat, by omega, by omega⟩
      go_wp2_with fail
      go_loopw [8] (fun i wr => ∃ k : Nat, k ≤ N ∧ i = .int .i64 k ∧ Both9 m w X lo g b gx Sv k wr) (fun i _ => N - (intOf i).toNat)
      case atStart => exact ⟨0, Nat.zero_le _, rfl, HB6.out⟩
      case round =>
        clear HB6
        obtain ⟨k, hk, rfl, hB9⟩ := hrel
        by_cases hlt : k < N
        · have l1 : (k : Int) < n % 60 := by omega
          have HS1 := hide (hB9.step1 HM0.out HWX.out (fun i hi => ⟨HNBE.out ▸ (HT4.out i hi).1, (HT4.out i hi).2⟩) (by omega))
          have HOK := hide hB9.ok
          obtain ⟨d, bv, hV⟩ := stepV_form m (run9 m k (new9 m))
          rw [hV] at HS1
          have HV := hide hV
          clear hB9 hV
          obtain ⟨d0, d1, d2, d3, d4, d5⟩ := d
          simp only at HS1 HV
          have hbv : (bv != bv) = false := by simp
          go_wp2_with fail
          refine HS1.out.mono ?_
          rintro e w7 ⟨rfl, hP7, hS7, hb7⟩
          have hba := (Below.refl w7.heap.size w7).alloc (Nat.le_refl _) (.cells #[.float .f64 d0, .int .i64 d1, .int .i64 d2, .int .i64 d3, .int .i64 d4, .int .i64 d5] 39)
          have hA := Blk.new w7 39 #[.float .f64 d0, .int .i64 d1, .int .i64 d2, .int .i64 d3, .int .i64 d4, .int .i64 d5]
          have hS8 : ∃ w0 S W D, Sim9 w0 gx m S W D (w7.alloc (.cells #[.float .f64 d0, .int .i64 d1, .int .i64 d2, .int .i64 d3, .int .i64 d4, .int .i64 d5] 39)) ∧ plain9 S W D = run9 m k (new9 m) ∧ w0.heap.size = X := by
            obtain ⟨w0, S, W, D, h1, h2, h3⟩ := hS7
            exact ⟨w0, S, W, D, h1.below hba, h2, h3⟩
          have HNE := hide (show w7.heap.size ≠ gx by
            obtain ⟨w0, S, W, D, h1, _, _⟩ := hS8
            exact Blk.ne_ hA h1.box (by decide))
          have HS2 := hide (Both9.step2 (hP7.below hba) hS8 HOK.out (below_after hb7 hba) HCK.out HWX.out (fun i hi => ⟨HNBE.out ▸ (HT4.out i hi).1, (HT4.out i hi).2⟩) (by omega))
          rw [HV.out] at HS2
          have HA := hide hA
          clear hba hA hS8 hS7 hP7 hb7 HS1 HOK HV
          go_wp2_with fail
          refine HS2.out.mono ?_
          rintro e w8 ⟨rfl, hB8, hg8⟩
          have hA8 := HA.out.grown hg8 (fun e => HNE.out (Option.some.inj e))
          have hbb := (Below.refl w8.heap.size w8).alloc (Nat.le_refl _) (.cells #[.float .f64 d0, .int .i64 d1, .int .i64 d2, .int .i64 d3, .int .i64 d4, .int .i64 d5] 39)
          have HBo := hide (hB8.below hbb)
          have hA9 := hA8.below hbb hA8.lt
          have hK9 := Blk.new w8 39 #[.float .f64 d0, .int .i64 d1, .int .i64 d2, .int .i64 d3, .int .i64 d4, .int .i64 d5]
          clear HA HNE HS2 hB8 hg8 hA8 hbb
          go_upto_region 14 with fail
          generalize w8.alloc (.cells #[.float .f64 d0, .int .i64 d1, .int .i64 d2, .int .i64 d3, .int .i64 d4, .int .i64 d5] 39) = w9 at *
          generalize w7.heap.size = gA at *
          generalize w8.heap.size = gB at *
          have HC := hide (fun (X : World) (hX : Below w9.heap.size w9 X) => (show ((fun X => X.cell? ⟨gA, 0, none⟩ = some (.float .f64 d0) ∧ X.cell? ⟨gA, 1, none⟩ = some (.int .i64 d1) ∧ X.cell? ⟨gA, 2, none⟩ = some (.int .i64 d2) ∧ X.cell? ⟨gA, 3, none⟩ = some (.int .i64 d3) ∧ X.cell? ⟨gA, 4, none⟩ = some (.int .i64 d4) ∧ X.cell? ⟨gA, 5, none⟩ = some (.int .i64 d5) ∧ X.cell? ⟨gB, 0, none⟩ = some (.float .f64 d0) ∧ X.cell? ⟨gB, 1, none⟩ = some (.int .i64 d1) ∧ X.cell? ⟨gB, 2, none⟩ = some (.int .i64 d2) ∧ X.cell? ⟨gB, 3, none⟩ = some (.int .i64 d3) ∧ X.cell? ⟨gB, 4, none⟩ = some (.int .i64 d4) ∧ X.cell? ⟨gB, 5, none⟩ = some (.int .i64 d5)) : World → Prop) X from
            ⟨keepc hX (hA9.cell 0), keepc hX (hA9.cell 1), keepc hX (hA9.cell 2), keepc hX (hA9.cell 3), keepc hX (hA9.cell 4), keepc hX (hA9.cell 5), keepc hX (hK9.cell 0), keepc hX (hK9.cell 1), keepc hX (hK9.cell 2), keepc hX (hK9.cell 3), keepc hX (hK9.cell 4), keepc hX (hK9.cell 5)⟩))
          have HD := hide ((Below.refl w9.heap.size w9).drew)
          have hd1 := HD.out.alloc (Nat.le_refl _) (.cells #[.float .f64 d0, .int .i64 d1, .int .i64 d2, .int .i64 d3, .int .i64 d4, .int .i64 d5] 39)
          have hd2 := hd1.alloc (Nat.le_of_lt (by simp)) (.cells #[.float .f64 d0, .int .i64 d1, .int .i64 d2, .int .i64 d3, .int .i64 d4, .int .i64 d5] 39)
          have hz1 : (World.alloc w9.drew (.cells #[.float .f64 d0, .int .i64 d1, .int .i64 d2, .int .i64 d3, .int .i64 d4, .int .i64 d5] 39)).heap.size = w9.heap.size + 1 := Array.size_push ..
          have hbk1 := (Blk.new w9.drew 39 #[.float .f64 d0, .int .i64 d1, .int .i64 d2, .int .i64 d3, .int .i64 d4, .int .i64 d5]).alloc (.cells #[.float .f64 d0, .int .i64 d1, .int .i64 d2, .int .i64 d3, .int .i64 d4, .int .i64 d5] 39)
          have hbk2 := Blk.new (w9.drew.alloc (.cells #[.float .f64 d0, .int .i64 d1, .int .i64 d2, .int .i64 d3, .int .i64 d4, .int .i64 d5] 39)) 39 #[.float .f64 d0, .int .i64 d1, .int .i64 d2, .int .i64 d3, .int .i64 d4, .int .i64 d5]
          rw [hz1] at hbk2
          have HSA := hide (same_two (d := (d0, d1, d2, d3, d4, d5)) hbk1 hbk2)
          have HSB := hide (same_two (d := (d0, d1, d2, d3, d4, d5)) hbk2 hbk1)
          have HD1 := hide hd1
          have HD2 := hide hd2
          clear hd1 hd2 hbk1 hbk2 hz1 hA9 hK9
          go_cut [95] (fun v wx => v = .bool false ∧ Both9 m w X lo g b gx Sv (k + 1) wx)
          case first =>
            refine wp_region_orders_still (fun X => X.cell? ⟨gA, 0, none⟩ = some (.float .f64 d0) ∧ X.cell? ⟨gA, 1, none⟩ = some (.int .i64 d1) ∧ X.cell? ⟨gA, 2, none⟩ = some (.int .i64 d2) ∧ X.cell? ⟨gA, 3, none⟩ = some (.int .i64 d3) ∧ X.cell? ⟨gA, 4, none⟩ = some (.int .i64 d4) ∧ X.cell? ⟨gA, 5, none⟩ = some (.int .i64 d5) ∧ X.cell? ⟨gB, 0, none⟩ = some (.float .f64 d0) ∧ X.cell? ⟨gB, 1, none⟩ = some (.int .i64 d1) ∧ X.cell? ⟨gB, 2, none⟩ = some (.int .i64 d2) ∧ X.cell? ⟨gB, 3, none⟩ = some (.int .i64 d3) ∧ X.cell? ⟨gB, 4, none⟩ = some (.int .i64 d4) ∧ X.cell? ⟨gB, 5, none⟩ = some (.int .i64 d5)) [0, 1, 2, 3, 4, 6] 9 2 [[5, 7], [7, 5]] [8] (by kernel_rfl) (by kernel_rfl) (HC.out _ HD.out) ?_
            simp only [List.filterMap_cons, List.filterMap_nil, List.getElem?_cons_succ, List.getElem?_cons_zero, List.drop_succ_cons, List.drop_zero]
            repeat (refine head_step ?_ (by rfl) ?_ (fun _ _ _ h => h) ?_; rotate_left; (intro w' hs; obtain ⟨z0, z1, z2, z3, z4, z5, y0, y1, y2, y3, y4, y5⟩ := hs; go_simp; (try with_reducible rfl)); (try simp only [Act.put, List.setIfInBounds_toArray, List.set_cons_zero, List.set_cons_succ]))
            refine head_nil ?_
            intro o ho
            simp only [List.mem_cons, List.not_mem_nil, or_false] at ho
            have HQ := hide (fun w10 (hb10 : Below (World.alloc (w9.drew.alloc (.cells #[.float .f64 d0, .int .i64 d1, .int .i64 d2, .int .i64 d3, .int .i64 d4, .int .i64 d5] 39)) (.cells #[.float .f64 d0, .int .i64 d1, .int .i64 d2, .int .i64 d3, .int .i64 d4, .int .i64 d5] 39)).heap.size (World.alloc (w9.drew.alloc (.cells #[.float .f64 d0, .int .i64 d1, .int .i64 d2, .int .i64 d3, .int .i64 d4, .int .i64 d5] 39)) (.cells #[.float .f64 d0, .int .i64 d1, .int .i64 d2, .int .i64 d3, .int .i64 d4, .int .i64 d5] 39)) w10) => below_after HD2.out hb10)
            rcases ho with rfl | rfl
            all_goals simp only [List.filterMap_cons, List.filterMap_nil, List.getElem?_cons_succ, List.getElem?_cons_zero]
            all_goals
              refine mid_step _ (w9.drew.alloc (.cells #[.float .f64 d0, .int .i64 d1, .int .i64 d2, .int .i64 d3, .int .i64 d4, .int .i64 d5] 39)) (by rfl) (by go_simp; first | rfl | exact ⟨rfl, rfl⟩) (HC.out _ HD1.out) ?_
              simp only [Act.put, List.setIfInBounds_toArray, List.set_cons_zero, List.set_cons_succ]
              refine mid_step _ ((w9.drew.alloc (.cells #[.float .f64 d0, .int .i64 d1, .int .i64 d2, .int .i64 d3, .int .i64 d4, .int .i64 d5] 39)).alloc (.cells #[.float .f64 d0, .int .i64 d1, .int .i64 d2, .int .i64 d3, .int .i64 d4, .int .i64 d5] 39)) (by rfl) (by go_simp; first | rfl | exact ⟨rfl, rfl⟩) (HC.out _ HD2.out) ?_
              simp only [Act.put, List.setIfInBounds_toArray, List.set_cons_zero, List.set_cons_succ]
              refine mid_nil ?_
            refine midc_call (g := 28) (args := #[.slice (some ⟨w9.heap.size, 0, none⟩) 1 1, .slice (some ⟨w9.heap.size + 1, 0, none⟩) 1 1]) (w' := (w9.drew.alloc (.cells #[.float .f64 d0, .int .i64 d1, .int .i64 d2, .int .i64 d3, .int .i64 d4, .int .i64 d5] 39)).alloc (.cells #[.float .f64 d0, .int .i64 d1, .int .i64 d2, .int .i64 d3, .int .i64 d4, .int .i64 d5] 39)) (by rfl) (by go_simp) (HSA.out.mono ?_)
            rotate_left
            refine midc_call (g := 28) (args := #[.slice (some ⟨w9.heap.size + 1, 0, none⟩) 1 1, .slice (some ⟨w9.heap.size, 0, none⟩) 1 1]) (w' := (w9.drew.alloc (.cells #[.float .f64 d0, .int .i64 d1, .int .i64 d2, .int .i64 d3, .int .i64 d4, .int .i64 d5] 39)).alloc (.cells #[.float .f64 d0, .int .i64 d1, .int .i64 d2, .int .i64 d3, .int .i64 d4, .int .i64 d5] 39)) (by rfl) (by go_simp) (HSB.out.mono ?_)
            rotate_left
            all_goals
              rintro e w10 ⟨rfl, hb10⟩
              have hbx := HQ.out w10 hb10
              refine ⟨_, rfl, HC.out _ hbx, ?_⟩
              simp only [Act.put, List.setIfInBounds_toArray, List.set_cons_zero, List.set_cons_succ]
              refine midc_nil ?_
              have hBo := HBo.out.below hbx
              have HBO := hide hBo
              obtain ⟨v0, Sx, ⟨WA, Wc, WL⟩, ⟨DA, Dc, DL⟩, h1, h2, h3⟩ := hBo.sm
              have c7 := h1.box.cell 7
              have c8 := h1.box.cell 8
              simp only [Sl.val, List.getElem?_toArray, List.getElem?_cons_zero, List.getElem?_cons_succ] at c7 c8
              have HWT := hide ((waiting9p_any hBo.pk).mono fun e w' (h : _ ∧ _) => And.intro h.1 h.2.symm)
              have HHD := hide ((handled9p_any hBo.pk).mono fun e w' (h : _ ∧ _) => And.intro h.1 h.2.symm)
              rw [← h2] at HWT HHD
              unfold plain9 at HWT HHD
              simp only at HWT HHD
              clear h1 h2 h3 hBo hb10 hbx HC HD HD1 HD2 HSA HSB HQ HBo
              repeat (first
                | still_step
                | (still_call (HWT.out))
                | (still_call (HHD.out)))
              refine wpStill_nil ?_
              clear c7 c8 HWT HHD
              (try go_wp2_with fail)
              go_meet
              first | exact ⟨rfl, HBO.out⟩ | (case rel => exact ⟨rfl, HBO.out⟩)
          case rest =>
            obtain ⟨rfl, hBr⟩ := hcut
            have HBO := hide hBr
            clear hBr HC HD HD1 HD2 HSA HSB HBo
            go_wp2_with fail
            go_loopw [13] (fun j wy => ∃ i : Nat, i ≤ 8 ∧ j = .int .i64 ((i : Int) - 1) ∧ Both9 m w X lo g b gx Sv (k + 1) wy) (fun j _ => 8 - (intOf j + 1).toNat)
            case atStart => exact ⟨0, by omega, rfl, HBO.out⟩
            case round =>
              clear HBO
              rename_i wz _
              obtain ⟨i, hi, rfl, hB9⟩ := hrel
              by_cases hi8 : i < 8
              · have hi7 : (i : Int) - 1 < 7 := by omega
                go_upto_region 20 with fail
                obtain ⟨v0, ⟨SA, Sc, SL⟩, Wx, Dx, h1, h2, h3⟩ := hB9.sm
                have hba := (Below.refl wr.heap.size wr).alloc (Nat.le_refl _) (.cells #[.slice none 0 0, .int .i64 0, .int .i64 0] 61)
                have hS1 := h1.below hba
                have hW0 := Blk.new wr 61 #[.slice none 0 0, .int .i64 0, .int .i64 0]
                have hSs : SL.map St.pl = (run9 m (k + 1) (new9 m)).1 := by rw [← h2]; rfl
                have c6 := hS1.box.cell 6
                simp only [Sl.val, List.getElem?_toArray, List.getElem?_cons_zero, List.getElem?_cons_succ] at c6
                have hlen : (run9 m (k + 1) (new9 m)).1.length = SL.length := by rw [← hSs, List.length_map]
                have hl63 : SL.length ≤ 9223372036854775807 := by have := hS1.stT.at_.2; simp only at this; omega
                have HB1 := hide (hB9.below hba)
                have HBA := hide hba
                have HH1 := hide h1
                have HB9 := hide hB9
                generalize hnW : wr.heap.size = nW at *
                generalize hZ1 : wr.alloc (.cells #[.slice none 0 0, .int .i64 0, .int .i64 0] 61) = wz1 at *
                generalize hj : (i : Int) - 1 = j at *
                clear hZ1 hB9 h2 h3
                by_cases hin : 0 ≤ j ∧ j < (SL.length : Int)
                · obtain ⟨jn, hjn⟩ : ∃ jn : Nat, j = (jn : Int) := ⟨j.toNat, by omega⟩
                  have hjl : jn < SL.length := by omega
                  have hsk := List.getElem?_eq_getElem hjl
                  have hmem := List.getElem_mem hjl
                  generalize SL[jn] = wt at *
                  obtain ⟨bS, hbS, t0, t1, t2⟩ := hS1.stT.at_.1 jn _ hsk
                  have hA2 : SA = some bS := hbS
                  subst hA2
                  have HWR := hide (show wt.At wr from ⟨(h1.wds _ hmem).1.at_, (h1.wds _ hmem).2⟩)
                  have HWP := hide (show wt.pl = stAt (run9 m (k + 1) (new9 m)).1 j by
                    unfold stAt
                    rw [hlen, if_pos hin, ← hSs, hjn, Int.toNat_natCast, List.getD_eq_getElem?_getD, List.getElem?_map, hsk]
                    rfl)
                  have j0 : 0 ≤ j := hin.1
                  have jl : j < (SL.length : Int) := hin.2
                  have f0 := hW0.frozen 0
                  have f1 := hW0.frozen 1
                  have f2 := hW0.frozen 2
                  have x0 := hW0.cell 0
                  have x1 := hW0.cell 1
                  have x2 := hW0.cell 2
                  simp only [List.getElem?_toArray, List.getElem?_cons_zero, List.getElem?_cons_succ] at x0 x1 x2
                  have HW0 := hide hW0
                  have HNW := hide hnW
                  have HJN := hide hjn
                  clear hS1 hsk hmem hSs hlen hba hW0 hbS HB1 HH1 h1
                  have jn0 : 0 ≤ (jn : Int) := by omega
                  have jnl : (jn : Int) < (SL.length : Int) := by omega
                  subst hjn
                  have hsv : wt.wd.val = .slice wt.wd.A wt.wd.L.length wt.wd.c := rfl
                  rw [hsv] at t0
                  have HWV := hide hsv
                  clear hsv hin hnW
                  obtain ⟨⟨xA, xc, xL⟩, xs, xd⟩ := wt
                  simp only at t0 t1 t2
                  go_upto_region 22 with fail
                  have hbz := HBA.out
                  have hb2 := ((hbz.setCell (p := ⟨nW, 0, none⟩) (Nat.le_refl _) (.slice xA xL.length xc)).setCell (p := ⟨nW, 1, none⟩) (Nat.le_refl _) (.int .i64 xs)).setCell (p := ⟨nW, 2, none⟩) (Nat.le_refl _) (.int .i64 xd)
                  have hb2' : Below wr.heap.size wr (((wz1.setCell ⟨nW, 0, none⟩ (.slice xA xL.length xc)).setCell ⟨nW, 1, none⟩ (.int .i64 xs)).setCell ⟨nW, 2, none⟩ (.int .i64 xd)) := by rw [HNW.out]; exact hb2
                  have HB2 := hide (HB9.out.below hb2')
                  have HWA := hide (HWR.out.below hb2')
                  have HW9 : Blk wz1 nW 61 #[.slice none 0 0, .int .i64 0, .int .i64 0] := HW0.out
                  have HK := hide (((HW9.set_ 0 (.slice xA xL.length xc)).set_ 1 (.int .i64 xs)).set_ 2 (.int .i64 xd))
                  clear HW9 hb2 hb2' hbz HW0 HB9 HWR c6 f0 f1 f2 x0 x1 x2 t0 t1 t2 HBA HWV HJN
                  generalize (((wz1.setCell ⟨nW, 0, none⟩ (.slice xA xL.length xc)).setCell ⟨nW, 1, none⟩ (.int .i64 xs)).setCell ⟨nW, 2, none⟩ (.int .i64 xd)) = W2 at *
                  have HK := hide (And.intro (HK.out.cell 0) (And.intro (HK.out.cell 1) (HK.out.cell 2)))
                  simp only [List.setIfInBounds_toArray, List.set_cons_zero, List.set_cons_succ, List.getElem?_toArray, List.getElem?_cons_zero, List.getElem?_cons_succ] at HK
                  have HC := hide (fun (Y : World) (hY : Below W2.heap.size W2 Y) => (show (fun Y => Y.cell? ⟨nW, 0, none⟩ = some (.slice xA xL.length xc) ∧ Y.cell? ⟨nW, 1, none⟩ = some (.int .i64 xs) ∧ Y.cell? ⟨nW, 2, none⟩ = some (.int .i64 xd) : World → Prop) Y from ⟨keepc hY HK.out.1, keepc hY HK.out.2.1, keepc hY HK.out.2.2⟩))
                  have HD := hide ((Below.refl W2.heap.size W2).drew)
                  have HST := hide (state9p_any (HB2.out.below HD.out).pk jn)
                  refine wp_region_orders_still (fun Y => Y.cell? ⟨nW, 0, none⟩ = some (.slice xA xL.length xc) ∧ Y.cell? ⟨nW, 1, none⟩ = some (.int .i64 xs) ∧ Y.cell? ⟨nW, 2, none⟩ = some (.int .i64 xd)) [0, 1, 3] 5 0 [[]] [2, 4] (by kernel_rfl) (by kernel_rfl) (HC.out _ HD.out) ?_
                  simp only [List.filterMap_cons, List.filterMap_nil, List.getElem?_cons_succ, List.getElem?_cons_zero, List.drop_succ_cons, List.drop_zero]
                  repeat (refine head_step ?_ (by rfl) ?_ (fun _ _ _ h => h) ?_; rotate_left; (intro w' hs; obtain ⟨z0, z1, z2⟩ := hs; go_simp; (try with_reducible rfl)); (try simp only [Act.put, List.setIfInBounds_toArray, List.set_cons_zero, List.set_cons_succ]))
                  refine head_nil ?_
                  intro o ho
                  obtain rfl := List.mem_singleton.1 ho
                  simp only [List.filterMap_nil]
                  refine mid_nil ?_
                  refine midc_call (g := 60) (args := #[.pointer (some ⟨g, 0, none⟩), .int .i64 jn]) (w' := W2.drew) (by rfl) (by go_simp) (HST.out.mono ?_)
                  rintro e W3 ⟨x, rfl, hx, hxA, hb3⟩
                  have hb3' := below_after HD.out hb3
                  refine ⟨_, rfl, HC.out _ hb3', ?_⟩
                  simp only [Act.put, List.setIfInBounds_toArray, List.set_cons_zero, List.set_cons_succ]
                  have HSM := hide (rsame8_any x ⟨⟨xA, xc, xL⟩, xs, xd⟩ W3 hxA (HWA.out.below hb3'))
                  rw [show sameP x.pl (St.pl ⟨⟨xA, xc, xL⟩, xs, xd⟩) = true from sameP_iff.2 (by rw [hx, HWP.out])] at HSM
                  refine midc_call (g := 42) (args := #[x.val, .agg #[.slice xA xL.length xc, .int .i64 xs, .int .i64 xd]]) (w' := W3) (by rfl) (by go_simp; try (first | rfl | exact ⟨rfl, rfl⟩)) (HSM.out.mono ?_)
                  rintro e W4 ⟨rfl, hb4⟩
                  have hb4' := below_after hb3' hb4
                  refine ⟨_, rfl, HC.out _ hb4', ?_⟩
                  simp only [Act.put, List.setIfInBounds_toArray, List.set_cons_zero, List.set_cons_succ]
                  refine midc_nil ?_
                  have HB4 := hide (HB2.out.below hb4')
                  clear hb4' hb4 hb3' hb3 hx hxA HC HD HST HSM HB2 HK HWA HWP
                  repeat still_step
                  refine wpStill_nil ?_
                  go_wp2_with fail
                  go_roundw
                  case rel => exact ⟨i + 1, by omega, by first | (rw [← hj]; go_num) | go_num, HB4.out⟩
                  case measure => simp [intOf]; omega
                · have HWP := hide (show St.pl ⟨⟨none, 0, []⟩, 0, 0⟩ = stAt (run9 m (k + 1) (new9 m)).1 j by
                    unfold stAt
                    rw [hlen, if_neg hin]
                    rfl)
                  have hb2' : Below wr.heap.size wr wz1 := by rw [hnW]; exact HBA.out
                  have HB2 := hide (HB9.out.below hb2')
                  have HWA := hide (show St.At wz1 ⟨⟨none, 0, []⟩, 0, 0⟩ from ⟨⟨fun k x h => by simp at h, by decide⟩, by decide, by decide⟩)
                  have HK := hide (And.intro (hW0.cell 0) (And.intro (hW0.cell 1) (hW0.cell 2)))
                  simp only [List.getElem?_toArray, List.getElem?_cons_zero, List.getElem?_cons_succ] at HK
                  clear hb2' HB9 HBA hba hS1 hW0 h1 HH1 HB1 hSs hnW hlen
                  by_cases j0 : 0 ≤ j
                  · have jl : ¬ j < (SL.length : Int) := fun h => hin ⟨j0, h⟩
                    clear hin
                    go_upto_region 22 with fail
                    clear c6
                    generalize wz1 = W2 at *
                    have HC := hide (fun (Y : World) (hY : Below W2.heap.size W2 Y) => (show (fun Y => Y.cell? ⟨nW, 0, none⟩ = some (.slice none 0 0) ∧ Y.cell? ⟨nW, 1, none⟩ = some (.int .i64 0) ∧ Y.cell? ⟨nW, 2, none⟩ = some (.int .i64 0) : World → Prop) Y from ⟨keepc hY HK.out.1, keepc hY HK.out.2.1, keepc hY HK.out.2.2⟩))
                    have HD := hide ((Below.refl W2.heap.size W2).drew)
                    have HST := hide (state9p_any (HB2.out.below HD.out).pk j)
                    refine wp_region_orders_still (fun Y => Y.cell? ⟨nW, 0, none⟩ = some (.slice none 0 0) ∧ Y.cell? ⟨nW, 1, none⟩ = some (.int .i64 0) ∧ Y.cell? ⟨nW, 2, none⟩ = some (.int .i64 0)) [0, 1, 3] 5 0 [[]] [2, 4] (by kernel_rfl) (by kernel_rfl) (HC.out _ HD.out) ?_
                    simp only [List.filterMap_cons, List.filterMap_nil, List.getElem?_cons_succ, List.getElem?_cons_zero, List.drop_succ_cons, List.drop_zero]
                    repeat (refine head_step ?_ (by rfl) ?_ (fun _ _ _ h => h) ?_; rotate_left; (intro w' hs; obtain ⟨z0, z1, z2⟩ := hs; go_simp; (try with_reducible rfl)); (try simp only [Act.put, List.setIfInBounds_toArray, List.set_cons_zero, List.set_cons_succ]))
                    refine head_nil ?_
                    intro o ho
                    obtain rfl := List.mem_singleton.1 ho
                    simp only [List.filterMap_nil]
                    refine mid_nil ?_
                    refine midc_call (g := 60) (args := #[.pointer (some ⟨g, 0, none⟩), .int .i64 j]) (w' := W2.drew) (by rfl) (by go_simp) (HST.out.mono ?_)
                    rintro e W3 ⟨x, rfl, hx, hxA, hb3⟩
                    have hb3' := below_after HD.out hb3
                    refine ⟨_, rfl, HC.out _ hb3', ?_⟩
                    simp only [Act.put, List.setIfInBounds_toArray, List.set_cons_zero, List.set_cons_succ]
                    have HSM := hide (rsame8_any x ⟨⟨none, 0, []⟩, 0, 0⟩ W3 hxA (HWA.out.below hb3'))
                    rw [show sameP x.pl (St.pl ⟨⟨none, 0, []⟩, 0, 0⟩) = true from sameP_iff.2 (by rw [hx, HWP.out])] at HSM
                    refine midc_call (g := 42) (args := #[x.val, .agg #[.slice none 0 0, .int .i64 0, .int .i64 0]]) (w' := W3) (by rfl) (by go_simp; try (first | rfl | exact ⟨rfl, rfl⟩)) (HSM.out.mono ?_)
                    rintro e W4 ⟨rfl, hb4⟩
                    have hb4' := below_after hb3' hb4
                    refine ⟨_, rfl, HC.out _ hb4', ?_⟩
                    simp only [Act.put, List.setIfInBounds_toArray, List.set_cons_zero, List.set_cons_succ]
                    refine midc_nil ?_
                    have HB4 := hide (HB2.out.below hb4')
                    clear hb4' hb4 hb3' hb3 hx hxA HC HD HST HSM HB2 HK HWA HWP
                    repeat still_step
                    refine wpStill_nil ?_
                    go_wp2_with fail
                    go_roundw
                    case rel => exact ⟨i + 1, by omega, by first | (rw [← hj]; go_num) | go_num, HB4.out⟩
                    case measure => simp [intOf]; omega
                  · clear hin c6
                    go_upto_region 22 with fail
                    generalize wz1 = W2 at *
                    have HC := hide (fun (Y : World) (hY : Below W2.heap.size W2 Y) => (show (fun Y => Y.cell? ⟨nW, 0, none⟩ = some (.slice none 0 0) ∧ Y.cell? ⟨nW, 1, none⟩ = some (.int .i64 0) ∧ Y.cell? ⟨nW, 2, none⟩ = some (.int .i64 0) : World → Prop) Y from ⟨keepc hY HK.out.1, keepc hY HK.out.2.1, keepc hY HK.out.2.2⟩))
                    have HD := hide ((Below.refl W2.heap.size W2).drew)
                    have HST := hide (state9p_any (HB2.out.below HD.out).pk j)
                    refine wp_region_orders_still (fun Y => Y.cell? ⟨nW, 0, none⟩ = some (.slice none 0 0) ∧ Y.cell? ⟨nW, 1, none⟩ = some (.int .i64 0) ∧ Y.cell? ⟨nW, 2, none⟩ = some (.int .i64 0)) [0, 1, 3] 5 0 [[]] [2, 4] (by kernel_rfl) (by kernel_rfl) (HC.out _ HD.out) ?_
                    simp only [List.filterMap_cons, List.filterMap_nil, List.getElem?_cons_succ, List.getElem?_cons_zero, List.drop_succ_cons, List.drop_zero]
                    repeat (refine head_step ?_ (by rfl) ?_ (fun _ _ _ h => h) ?_; rotate_left; (intro w' hs; obtain ⟨z0, z1, z2⟩ := hs; go_simp; (try with_reducible rfl)); (try simp only [Act.put, List.setIfInBounds_toArray, List.set_cons_zero, List.set_cons_succ]))
                    refine head_nil ?_
                    intro o ho
                    obtain rfl := List.mem_singleton.1 ho
                    simp only [List.filterMap_nil]
                    refine mid_nil ?_
                    refine midc_call (g := 60) (args := #[.pointer (some ⟨g, 0, none⟩), .int .i64 j]) (w' := W2.drew) (by rfl) (by go_simp) (HST.out.mono ?_)
                    rintro e W3 ⟨x, rfl, hx, hxA, hb3⟩
                    have hb3' := below_after HD.out hb3
                    refine ⟨_, rfl, HC.out _ hb3', ?_⟩
                    simp only [Act.put, List.setIfInBounds_toArray, List.set_cons_zero, List.set_cons_succ]
                    have HSM := hide (rsame8_any x ⟨⟨none, 0, []⟩, 0, 0⟩ W3 hxA (HWA.out.below hb3'))
                    rw [show sameP x.pl (St.pl ⟨⟨none, 0, []⟩, 0, 0⟩) = true from sameP_iff.2 (by rw [hx, HWP.out])] at HSM
                    refine midc_call (g := 42) (args := #[x.val, .agg #[.slice none 0 0, .int .i64 0, .int .i64 0]]) (w' := W3) (by rfl) (by go_simp; try (first | rfl | exact ⟨rfl, rfl⟩)) (HSM.out.mono ?_)
                    rintro e W4 ⟨rfl, hb4⟩
                    have hb4' := below_after hb3' hb4
                    refine ⟨_, rfl, HC.out _ hb4', ?_⟩
                    simp only [Act.put, List.setIfInBounds_toArray, List.set_cons_zero, List.set_cons_succ]
                    refine midc_nil ?_
                    have HB4 := hide (HB2.out.below hb4')
                    clear hb4' hb4 hb3' hb3 hx hxA HC HD HST HSM HB2 HK HWA HWP
                    repeat still_step
                    refine wpStill_nil ?_
                    go_wp2_with fail
                    go_roundw
                    case rel => exact ⟨i + 1, by omega, by first | (rw [← hj]; go_num) | go_num, HB4.out⟩
                    case measure => simp [intOf]; omega
              · have hi7 : ¬ (i : Int) - 1 < 7 := by omega
                have HB9 := hide hB9
                go_wp2_with fail
                go_roundw
                case rel => exact ⟨k + 1, by omega, by go_num, HB9.out⟩
                case measure => simp [intOf]; omega
        · have l1 : ¬ (k : Int) < n % 60 := by omega
          have HB9 := hide hB9.bel
          go_wp2_with fail
          go_ret
          exact ⟨rfl, HB9.out⟩
end Go.Proofs.Ytpfcmfannkbipaa
end
