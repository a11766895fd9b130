/- More walks of package pack: lists laid, by the package and by the reference. No condition but sizes that any memory has. -/
import Derived.Test.YtegegljpmelomaaPack5
import Derived.Test.YtegegljpmelomaaOwnM
set_option linter.unusedVariables false
set_option maxRecDepth 20000
namespace Go.Proofs.Ytegegljpmelomaa
open Go.RowKit Go.Deep

/-- A list's numbers as bytes. -/
def liB (zs : List Int) : List UInt8 := zs.flatMap fun z => be 8 (IntKind.u64.wrap (z + 9223372036854775808)).toNat
theorem liB_take (zs : List Int) (k : Nat) (h : k < zs.length) : liB (zs.take (k + 1)) = liB (zs.take k) ++ be 8 (IntKind.u64.wrap (zs[k] + 9223372036854775808)).toNat := by
  unfold liB
  rw [List.take_succ_eq_append_getElem h, List.flatMap_append]
  simp
theorem liB_length (zs : List Int) : (liB zs).length = 8 * zs.length := by
  unfold liB
  induction zs with
  | nil => rfl
  | cons z zs ih => simp [be_length, ih]; omega
def listS (zs : List Int) : ByteArray := bs (be 2 zs.length ++ liB zs)

def ListRel (w : World) (B : Nat) (zs : List Int) (m : Nat) (b i : Value) (wr : World) : Prop :=
  ∃ k : Nat, k ≤ m ∧ i = .int .i64 k ∧ OwnB wr B b (be 2 m ++ liB (zs.take k)) ∧ Below B w wr ∧ B ≤ wr.heap.size

def RListRel (w : World) (B : Nat) (zs : List Int) (m : Nat) (b i : Value) (wr : World) : Prop :=
  ∃ k : Nat, k ≤ m ∧ i = .int .i64 k ∧ OwnM wr B b (be 2 m ++ liB (zs.take k)) ∧ Below B w wr ∧ B ≤ wr.heap.size
theorem iS_data (z : Int) : (iS z).data.toList = be 8 (IntKind.u64.wrap (z + 9223372036854775808)).toNat := rfl
theorem iS_size (z : Int) : (iS z).size ≤ 8 := be_size 8 _
end Go.Proofs.Ytegegljpmelomaa
