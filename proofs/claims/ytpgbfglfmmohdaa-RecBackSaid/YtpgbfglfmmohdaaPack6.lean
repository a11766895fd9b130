/- More walks of package pack: lists laid, by the package and by the reference. No condition but sizes that any memory has. -/
import Derived.Test.YtpgbfglfmmohdaaPack5
import Derived.Test.YtpgbfglfmmohdaaOwnM
set_option linter.unusedVariables false
set_option maxRecDepth 20000
namespace Go.Proofs.Ytpgbfglfmmohdaa
open Go.RowKit Go.Deep

/-- A list's numbers as bytes. -/
def liB (zs : List Int) : List UInt8 := zs.flatMap fun z => be 8 (IntKind.u64.wrap (z + 9223372036854775808)).toNat
theorem liB_take (zs : List Int) (k : Nat) (h : k < zs.length) : liB (zs.take (k + 1)) = liB (zs.take k) ++ be 8 (IntKind.u64.wrap (zs[k] + 9223372036854775808)).toNat := by
  unfold liB
  rw [List.take_succ_eq_append_getElem h, List.flatMap_append]
  simp
theorem liB_length (zs : List Int) : (liB zs).length = 8 * zs.length := by
  unfold liB
  induction zs with
  | nil => rfl
  | cons z zs ih => simp [be_length, ih]; omega
def listS (zs : List Int) : ByteArray := bs (be 2 zs.length ++ liB zs)

def ListRel (w : World) (B : Nat) (zs : List Int) (m : Nat) (b i : Value) (wr : World) : Prop :=
  ∃ k : Nat, k ≤ m ∧ i = .int .i64 k ∧ OwnB wr B b (be 2 m ++ liB (zs.take k)) ∧ Below B w wr ∧ B ≤ wr.heap.size
set_option maxHeartbeats 400000 in
theorem list_any (A : Option Addr) (m c : Nat) (zs : List Int) (w : World) (hl : zs.length = m) (hm : m ≤ 512) (hr : Reads w w.heap.size 1 A m (zs.map (Value.int .i64))) :
    Calls Try.prog 29 #[.slice A m c] w fun e w' => e = .returned (.tuple #[.string (listS zs), .int .i64 0]) ∧ Below w.heap.size w w' := by
  have Hl := hide hl
  clear hl
  go_enter Try.func29, Try.ntmps29
  go_wp2_with fail
  refine (puti_any _ [] _ 2 _ w.heap.size (OwnB.nil _ _) (Nat.le_refl _) (by omega) (by omega) (by decide) (by decide)).mono ?_
  rintro e w1 ⟨v, rfl, hown, hext⟩
  have hb1 := hext.below (Nat.le_refl w.heap.size) (by simp [Value.ownBlock])
  have hs1 := hext.1.size
  clear hext
  go_wp2
  go_loopw [4, 15] (fun b i wr => ListRel w w.heap.size zs m b i wr) (fun _ i _ => m - (intOf i).toNat)
  case atStart => exact ⟨0, Nat.zero_le _, rfl, by simpa [liB] using hown, hb1, hs1⟩
  case round =>
    clear hown hb1 hs1
    obtain ⟨k, hk, rfl, hown, hb, hsz⟩ := hrel
    by_cases hlt : k < m
    · have hr' := hr.below hb
      obtain ⟨ad, u, rfl, _, hu, hc⟩ := hr'.at_ hlt
      rw [List.getElem?_map] at hu
      have hkl : k < zs.length := by rw [Hl.out]; exact hlt
      rw [List.getElem?_eq_getElem hkl] at hu
      have Ht := hide (liB_take zs k hkl)
      have hlen : (be 2 m ++ liB (zs.take k)).length ≤ 5000 := by
        rw [List.length_append, be_length, liB_length, List.length_take]
        omega
      generalize zs[k] = z at *
      simp only [Option.map_some, Option.some.injEq] at hu
      subst hu
      clear hkl
      go_wp2_with fail
      rw [i_arg]
      refine (put64_any _ _ _ 8 _ w.heap.size hown hsz (wrap_u64_rng _).1 (wrap_u64_rng _).2 (by decide) (by omega)).mono ?_
      rintro e w2 ⟨v2, rfl, hown2, hext2⟩
      have hb2 := hb.trans (hext2.below hsz hown.base)
      have hs2 := Nat.le_trans hsz hext2.1.size
      clear hown hb hext2 hr hr' hc
      go_wp2
      go_roundw
      case rel => exact ⟨k + 1, by omega, by go_num, by rw [Ht.out, ← List.append_assoc]; exact hown2, hb2, hs2⟩
      case measure => simp [intOf]; omega
    · obtain rfl : k = m := by omega
      have hs := own_string hown
      go_wp2
      go_ret2
      refine ⟨?_, hb⟩
      rw [← Hl.out, List.take_length]
      rfl
theorem list_big (A : Option Addr) (m c : Nat) (w : World) (hm : 512 < m) (hm2 : m ≤ 9223372036854775807) :
    Calls Try.prog 29 #[.slice A m c] w fun e w' => e = .returned (.tuple #[.string ⟨#[]⟩, .int .i64 4]) ∧ w = w' := by
  go_enter Try.func29, Try.ntmps29
  go_wp2
  go_ret2
  exact ⟨rfl, rfl⟩

def RListRel (w : World) (B : Nat) (zs : List Int) (m : Nat) (b i : Value) (wr : World) : Prop :=
  ∃ k : Nat, k ≤ m ∧ i = .int .i64 k ∧ OwnM wr B b (be 2 m ++ liB (zs.take k)) ∧ Below B w wr ∧ B ≤ wr.heap.size
theorem iS_data (z : Int) : (iS z).data.toList = be 8 (IntKind.u64.wrap (z + 9223372036854775808)).toNat := rfl
theorem iS_size (z : Int) : (iS z).size ≤ 8 := be_size 8 _
set_option maxHeartbeats 400000 in
theorem rlist_any (A : Option Addr) (m c : Nat) (zs : List Int) (w : World) (hl : zs.length = m) (hm : m ≤ 512) (hr : Reads w w.heap.size 1 A m (zs.map (Value.int .i64))) :
    Calls Try.prog 30 #[.slice A m c] w fun e w' => e = .returned (.tuple #[.string (listS zs), .int .i64 0]) ∧ Below w.heap.size w w' := by
  have Hl := hide hl
  clear hl
  go_enter Try.func30, Try.ntmps30
  go_wp2_with fail
  refine (two_any _ _ (by omega)).mono ?_
  rintro e w1 ⟨rfl, hb1⟩
  obtain ⟨v, w2, hconv, hown, hb2, hs2⟩ := ownM_made w1 (bs (be 2 m)) (Nat.le_trans (be_size 2 m) (by decide)) w.heap.size hb1.size
  have hB := below_after hb1 hb2
  clear hb1 hb2
  go_wp2
  go_loopw [4, 5] (fun b i wr => RListRel w w.heap.size zs m b i wr) (fun _ i _ => m - (intOf i).toNat)
  case atStart => exact ⟨0, Nat.zero_le _, rfl, by rw [bs_data] at hown; simpa [liB] using hown, hB, hs2⟩
  case round =>
    clear hown hB hs2 hconv
    obtain ⟨k, hk, rfl, hown, hb, hsz⟩ := hrel
    by_cases hlt : k < m
    · have hr' := hr.below hb
      obtain ⟨ad, u, rfl, _, hu, hc⟩ := hr'.at_ hlt
      rw [List.getElem?_map] at hu
      have hkl : k < zs.length := by rw [Hl.out]; exact hlt
      rw [List.getElem?_eq_getElem hkl] at hu
      have Ht := hide (liB_take zs k hkl)
      have hlen : (be 2 m ++ liB (zs.take k)).length ≤ 5000 := by
        rw [List.length_append, be_length, liB_length, List.length_take]
        omega
      generalize zs[k] = z at *
      simp only [Option.map_some, Option.some.injEq] at hu
      subst hu
      clear hkl
      have his := iS_size z
      go_wp2_with fail
      refine (ri_any _ _).mono ?_
      rintro e w3 ⟨rfl, hb3⟩
      have hB3 := hb.trans (hb3.mono hsz)
      have hs3 := Nat.le_trans hsz hb3.size
      have hown3 : OwnM w3 w.heap.size _ _ := OwnM.below hown hb3
      clear hown hb hr hr' hc hb3
      go_wp2_with (at_builtin; go_must (refine wpList_append_strM _ rfl (.tmp 19) (.tmp 24) rfl w.heap.size _ _ rfl hown3 (iS z) rfl (by omega) hs3 ?_); intro v4 w4 hown4 hext4)
      have hB4 := hB3.trans (hext4.below hs3 hown3.base)
      have hs4 := Nat.le_trans hs3 hext4.1.size
      clear hown3 hext4 hB3 hs3
      go_roundw
      case rel => exact ⟨k + 1, by omega, by go_num, by rw [Ht.out, ← List.append_assoc]; exact hown4, hB4, hs4⟩
      case measure => simp [intOf]; omega
    · obtain rfl : k = m := by omega
      have hs := ownM_string hown
      go_wp2
      go_ret2
      refine ⟨?_, hb⟩
      rw [← Hl.out, List.take_length]
      rfl
theorem rlist_big (A : Option Addr) (m c : Nat) (w : World) (hm : 512 < m) (hm2 : m ≤ 9223372036854775807) :
    Calls Try.prog 30 #[.slice A m c] w fun e w' => e = .returned (.tuple #[.string ⟨#[]⟩, .int .i64 4]) ∧ w = w' := by
  go_enter Try.func30, Try.ntmps30
  go_wp2
  go_ret2
  exact ⟨rfl, rfl⟩
end Go.Proofs.Ytpgbfglfmmohdaa
