/-
  No cell of these rows narrows 'for every input' (looked for: loops, veiled, ifaces, maps, wideKeys, modest, calm, conditions, laid).
  DERIVED. THE GIVEN ROWS OF THIS SEAT. 10 by the template 'for every input the law returns true; each argument reads behind the call as it read before'; 0 by the template 'total and deterministic' (their statements: YtegegljpmelomaaTotals.lean).
  GIVEN WITH THE SEED: the statements are not yours to turn. If you find one false, say at which input.
  Laid BY PROGRAM, IN A SANDBOX (cutbox-rows.mjs): the forced cells as the released guide's own fill.sh prints them over the translation 85805d9b65ec69f8… (all of the seat's roots in one cut). By AI agents, Wed Nov 11 2026. No macro, syntax, notation, axiom, sorry.
-/
import Derived.Test.YtegegljpmelomaaChecked
import GoSem.Claim
import GoSem.ClaimJoined
import GoSem.ClaimMapViews
import Derived.JoinedTies
import Derived.KernelRfl
namespace Go.Proofs.Ytegegljpmelomaa
/- THE CELL 'sum', in the pinned program and in every row, IS THE sha256 OF THE DUMP (.gsa) THAT YtegegljpmelomaaProg.lean LOADS. Nothing in Lean hashes anything: it is a label: what it is worth is what the hold of that sum in a sandbox is worth. -/
noncomputable def Try.pinned : Pinned := { name := "ytegegljpmelomaa", sum := "85805d9b65ec69f8909770bb674a1de4bf2c26b1a0ece934cfef21216824edd9", checked := Try.checked }
namespace Rows
def none {H : Type} : Left H := { results := [], args := [] }

/-- 'horologelaw05.ModelChecks': WHATEVER THE INPUT: true; the input reads as it did. -/
def modelChecksSpec : ChangeSpec := { name := "modelChecks", fn := fun _ => fun
  | [d] => { results := [.lit (.bool true)], args := [d] }
  | _ => none }
def modelChecksRow : OpenClaim := { program := "ytegegljpmelomaa", sum := "85805d9b65ec69f8909770bb674a1de4bf2c26b1a0ece934cfef21216824edd9", func := "horologe/horologelaw05.ModelChecks", spec := "modelChecks", inPlace := ["math.Float64bits"], unfollowed := true, recurses := true, apart := false }
def ModelChecksSaid : Prop := modelChecksRow.holds Try.pinned (OpenSpec.ofChange modelChecksSpec)

/-- ITS FALSE NEIGHBOUR: 'it returns false'. Refute it at one input. -/
def modelChecksWrong : ChangeSpec := { name := "modelChecks", fn := fun _ => fun
  | [d] => { results := [.lit (.bool false)], args := [d] }
  | _ => none }
def ModelChecksWrongFalsely : Prop := modelChecksRow.holds Try.pinned (OpenSpec.ofChange modelChecksWrong)

/-- 'horologelaw05.ModelIns': WHATEVER THE INPUT: true; the input reads as it did. -/
def modelInsSpec : ChangeSpec := { name := "modelIns", fn := fun _ => fun
  | [d1, d2] => { results := [.lit (.bool true)], args := [d1, d2] }
  | _ => none }
def modelInsRow : OpenClaim := { program := "ytegegljpmelomaa", sum := "85805d9b65ec69f8909770bb674a1de4bf2c26b1a0ece934cfef21216824edd9", func := "horologe/horologelaw05.ModelIns", spec := "modelIns", inPlace := ["math.Float64bits"], unfollowed := true, recurses := true, apart := false }
def ModelInsSaid : Prop := modelInsRow.holds Try.pinned (OpenSpec.ofChange modelInsSpec)

/-- ITS FALSE NEIGHBOUR: 'it returns false'. Refute it at one input. -/
def modelInsWrong : ChangeSpec := { name := "modelIns", fn := fun _ => fun
  | [d1, d2] => { results := [.lit (.bool false)], args := [d1, d2] }
  | _ => none }
def ModelInsWrongFalsely : Prop := modelInsRow.holds Try.pinned (OpenSpec.ofChange modelInsWrong)

/-- 'horologelaw05.ModelSame': WHATEVER THE INPUT: true; the input reads as it did. -/
def modelSameSpec : ChangeSpec := { name := "modelSame", fn := fun _ => fun
  | [d1, d2] => { results := [.lit (.bool true)], args := [d1, d2] }
  | _ => none }
def modelSameRow : OpenClaim := { program := "ytegegljpmelomaa", sum := "85805d9b65ec69f8909770bb674a1de4bf2c26b1a0ece934cfef21216824edd9", func := "horologe/horologelaw05.ModelSame", spec := "modelSame", inPlace := ["math.Float64bits"], unfollowed := true, recurses := true, apart := false }
def ModelSameSaid : Prop := modelSameRow.holds Try.pinned (OpenSpec.ofChange modelSameSpec)

/-- ITS FALSE NEIGHBOUR: 'it returns false'. Refute it at one input. -/
def modelSameWrong : ChangeSpec := { name := "modelSame", fn := fun _ => fun
  | [d1, d2] => { results := [.lit (.bool false)], args := [d1, d2] }
  | _ => none }
def ModelSameWrongFalsely : Prop := modelSameRow.holds Try.pinned (OpenSpec.ofChange modelSameWrong)

/-- 'horologelaw05.ModelCopies': WHATEVER THE INPUT: true; the input reads as it did. -/
def modelCopiesSpec : ChangeSpec := { name := "modelCopies", fn := fun _ => fun
  | [d] => { results := [.lit (.bool true)], args := [d] }
  | _ => none }
def modelCopiesRow : OpenClaim := { program := "ytegegljpmelomaa", sum := "85805d9b65ec69f8909770bb674a1de4bf2c26b1a0ece934cfef21216824edd9", func := "horologe/horologelaw05.ModelCopies", spec := "modelCopies", inPlace := ["math.Float64bits"], unfollowed := true, recurses := true, apart := false }
def ModelCopiesSaid : Prop := modelCopiesRow.holds Try.pinned (OpenSpec.ofChange modelCopiesSpec)

/-- ITS FALSE NEIGHBOUR: 'it returns false'. Refute it at one input. -/
def modelCopiesWrong : ChangeSpec := { name := "modelCopies", fn := fun _ => fun
  | [d] => { results := [.lit (.bool false)], args := [d] }
  | _ => none }
def ModelCopiesWrongFalsely : Prop := modelCopiesRow.holds Try.pinned (OpenSpec.ofChange modelCopiesWrong)

/-- 'horologelaw05.ModelLent': WHATEVER THE INPUT: true; the input reads as it did. -/
def modelLentSpec : ChangeSpec := { name := "modelLent", fn := fun _ => fun
  | [d] => { results := [.lit (.bool true)], args := [d] }
  | _ => none }
def modelLentRow : OpenClaim := { program := "ytegegljpmelomaa", sum := "85805d9b65ec69f8909770bb674a1de4bf2c26b1a0ece934cfef21216824edd9", func := "horologe/horologelaw05.ModelLent", spec := "modelLent", inPlace := ["math.Float64bits"], unfollowed := true, recurses := true, apart := false }
def ModelLentSaid : Prop := modelLentRow.holds Try.pinned (OpenSpec.ofChange modelLentSpec)

/-- ITS FALSE NEIGHBOUR: 'it returns false'. Refute it at one input. -/
def modelLentWrong : ChangeSpec := { name := "modelLent", fn := fun _ => fun
  | [d] => { results := [.lit (.bool false)], args := [d] }
  | _ => none }
def ModelLentWrongFalsely : Prop := modelLentRow.holds Try.pinned (OpenSpec.ofChange modelLentWrong)

/-- 'horologelaw06.ModelioPuts': WHATEVER THE INPUT: true; the input reads as it did. -/
def modelioPutsSpec : ChangeSpec := { name := "modelioPuts", fn := fun _ => fun
  | [d] => { results := [.lit (.bool true)], args := [d] }
  | _ => none }
def modelioPutsRow : OpenClaim := { program := "ytegegljpmelomaa", sum := "85805d9b65ec69f8909770bb674a1de4bf2c26b1a0ece934cfef21216824edd9", func := "horologe/horologelaw06.ModelioPuts", spec := "modelioPuts", inPlace := ["math.Float64bits", "math.Float64frombits"], unfollowed := true, recurses := true, apart := false }
def ModelioPutsSaid : Prop := modelioPutsRow.holds Try.pinned (OpenSpec.ofChange modelioPutsSpec)

/-- ITS FALSE NEIGHBOUR: 'it returns false'. Refute it at one input. -/
def modelioPutsWrong : ChangeSpec := { name := "modelioPuts", fn := fun _ => fun
  | [d] => { results := [.lit (.bool false)], args := [d] }
  | _ => none }
def ModelioPutsWrongFalsely : Prop := modelioPutsRow.holds Try.pinned (OpenSpec.ofChange modelioPutsWrong)

/-- 'horologelaw06.ModelioGets': WHATEVER THE INPUT: true; the input reads as it did. -/
def modelioGetsSpec : ChangeSpec := { name := "modelioGets", fn := fun _ => fun
  | [d] => { results := [.lit (.bool true)], args := [d] }
  | _ => none }
def modelioGetsRow : OpenClaim := { program := "ytegegljpmelomaa", sum := "85805d9b65ec69f8909770bb674a1de4bf2c26b1a0ece934cfef21216824edd9", func := "horologe/horologelaw06.ModelioGets", spec := "modelioGets", inPlace := ["math.Float64bits", "math.Float64frombits"], unfollowed := true, recurses := true, apart := false }
def ModelioGetsSaid : Prop := modelioGetsRow.holds Try.pinned (OpenSpec.ofChange modelioGetsSpec)

/-- ITS FALSE NEIGHBOUR: 'it returns false'. Refute it at one input. -/
def modelioGetsWrong : ChangeSpec := { name := "modelioGets", fn := fun _ => fun
  | [d] => { results := [.lit (.bool false)], args := [d] }
  | _ => none }
def ModelioGetsWrongFalsely : Prop := modelioGetsRow.holds Try.pinned (OpenSpec.ofChange modelioGetsWrong)

/-- 'horologelaw06.ModelioBack': WHATEVER THE INPUT: true; the input reads as it did. -/
def modelioBackSpec : ChangeSpec := { name := "modelioBack", fn := fun _ => fun
  | [d] => { results := [.lit (.bool true)], args := [d] }
  | _ => none }
def modelioBackRow : OpenClaim := { program := "ytegegljpmelomaa", sum := "85805d9b65ec69f8909770bb674a1de4bf2c26b1a0ece934cfef21216824edd9", func := "horologe/horologelaw06.ModelioBack", spec := "modelioBack", inPlace := ["math.Float64bits", "math.Float64frombits"], unfollowed := true, recurses := true, apart := false }
def ModelioBackSaid : Prop := modelioBackRow.holds Try.pinned (OpenSpec.ofChange modelioBackSpec)

/-- ITS FALSE NEIGHBOUR: 'it returns false'. Refute it at one input. -/
def modelioBackWrong : ChangeSpec := { name := "modelioBack", fn := fun _ => fun
  | [d] => { results := [.lit (.bool false)], args := [d] }
  | _ => none }
def ModelioBackWrongFalsely : Prop := modelioBackRow.holds Try.pinned (OpenSpec.ofChange modelioBackWrong)

/-- 'horologelaw06.ModelioOnce': WHATEVER THE INPUT: true; the input reads as it did. -/
def modelioOnceSpec : ChangeSpec := { name := "modelioOnce", fn := fun _ => fun
  | [d] => { results := [.lit (.bool true)], args := [d] }
  | _ => none }
def modelioOnceRow : OpenClaim := { program := "ytegegljpmelomaa", sum := "85805d9b65ec69f8909770bb674a1de4bf2c26b1a0ece934cfef21216824edd9", func := "horologe/horologelaw06.ModelioOnce", spec := "modelioOnce", inPlace := ["math.Float64bits", "math.Float64frombits"], unfollowed := true, recurses := true, apart := false }
def ModelioOnceSaid : Prop := modelioOnceRow.holds Try.pinned (OpenSpec.ofChange modelioOnceSpec)

/-- ITS FALSE NEIGHBOUR: 'it returns false'. Refute it at one input. -/
def modelioOnceWrong : ChangeSpec := { name := "modelioOnce", fn := fun _ => fun
  | [d] => { results := [.lit (.bool false)], args := [d] }
  | _ => none }
def ModelioOnceWrongFalsely : Prop := modelioOnceRow.holds Try.pinned (OpenSpec.ofChange modelioOnceWrong)

/-- 'horologelaw06.ModelioApart': WHATEVER THE INPUT: true; the input reads as it did. -/
def modelioApartSpec : ChangeSpec := { name := "modelioApart", fn := fun _ => fun
  | [d1, d2] => { results := [.lit (.bool true)], args := [d1, d2] }
  | _ => none }
def modelioApartRow : OpenClaim := { program := "ytegegljpmelomaa", sum := "85805d9b65ec69f8909770bb674a1de4bf2c26b1a0ece934cfef21216824edd9", func := "horologe/horologelaw06.ModelioApart", spec := "modelioApart", inPlace := ["math.Float64bits", "math.Float64frombits"], unfollowed := true, recurses := true, apart := false }
def ModelioApartSaid : Prop := modelioApartRow.holds Try.pinned (OpenSpec.ofChange modelioApartSpec)

/-- ITS FALSE NEIGHBOUR: 'it returns false'. Refute it at one input. -/
def modelioApartWrong : ChangeSpec := { name := "modelioApart", fn := fun _ => fun
  | [d1, d2] => { results := [.lit (.bool false)], args := [d1, d2] }
  | _ => none }
def ModelioApartWrongFalsely : Prop := modelioApartRow.holds Try.pinned (OpenSpec.ofChange modelioApartWrong)

/- THE SECOND FORM. 'bulk': how many values and letters a reading holds, each counted each time it is reached (what is shared counts as often as it is met; a slice's spare places count too). A statement '..UptoSaid' is the law's where the arguments, and the package variables that the reading takes, are together of bulk at most 1048576: NARROWER than '..Said'. Prove '..Said' where nothing that the law and all that it calls make is longer than what came in: it says more and counts as full. Else prove '..UptoSaid'. A law counts once. -/
mutual
def uptoBulk {H : Type} : DataW H → Nat
  | .lit (.string bytes) => bytes.length + 1
  | .lit _ => 1
  | .nil => 1
  | .ptr d => uptoBulk d + 1
  | .slice elems spare => uptoBulkAll elems + uptoBulkAll spare + 1
  | .agg parts => uptoBulkAll parts + 1
  | .iface _ d => uptoBulk d + 1
  | .map entries => uptoBulkEntries entries + 1
  | .held _ => 1
def uptoBulkAll {H : Type} : List (DataW H) → Nat
  | [] => 0
  | d :: r => uptoBulk d + uptoBulkAll r
def uptoBulkEntries {H : Type} : List (Lit × DataW H) → Nat
  | [] => 0
  | x :: r => uptoBulkEntry x + uptoBulkEntries r
def uptoBulkEntry {H : Type} : Lit × DataW H → Nat
  | (.string bytes, d) => bytes.length + uptoBulk d + 1
  | (_, d) => uptoBulk d + 1
 end
def uptoSmall : (H : Type) → List (DataW H) → Bool := fun _ ds => decide (uptoBulkAll ds ≤ 1048576)
def OpenSpec.upto (s : _root_.Go.ChangeSpec) : _root_.Go.OpenSpec := { _root_.Go.OpenSpec.ofChange s with cond := some uptoSmall }

/-- 'horologelaw05.ModelChecks', WHERE WHAT IT READS IS OF BULK AT MOST 1048576: true; the input reads as it did. -/
def modelChecksUptoRow : OpenClaim := { program := "ytegegljpmelomaa", sum := "85805d9b65ec69f8909770bb674a1de4bf2c26b1a0ece934cfef21216824edd9", func := "horologe/horologelaw05.ModelChecks", spec := "modelChecks", inPlace := ["math.Float64bits"], unfollowed := true, recurses := true, apart := false, narrowed := true }
def ModelChecksUptoSaid : Prop := modelChecksUptoRow.holds Try.pinned (OpenSpec.upto modelChecksSpec)

/-- 'horologelaw05.ModelIns', WHERE WHAT IT READS IS OF BULK AT MOST 1048576: true; the input reads as it did. -/
def modelInsUptoRow : OpenClaim := { program := "ytegegljpmelomaa", sum := "85805d9b65ec69f8909770bb674a1de4bf2c26b1a0ece934cfef21216824edd9", func := "horologe/horologelaw05.ModelIns", spec := "modelIns", inPlace := ["math.Float64bits"], unfollowed := true, recurses := true, apart := false, narrowed := true }
def ModelInsUptoSaid : Prop := modelInsUptoRow.holds Try.pinned (OpenSpec.upto modelInsSpec)

/-- 'horologelaw05.ModelSame', WHERE WHAT IT READS IS OF BULK AT MOST 1048576: true; the input reads as it did. -/
def modelSameUptoRow : OpenClaim := { program := "ytegegljpmelomaa", sum := "85805d9b65ec69f8909770bb674a1de4bf2c26b1a0ece934cfef21216824edd9", func := "horologe/horologelaw05.ModelSame", spec := "modelSame", inPlace := ["math.Float64bits"], unfollowed := true, recurses := true, apart := false, narrowed := true }
def ModelSameUptoSaid : Prop := modelSameUptoRow.holds Try.pinned (OpenSpec.upto modelSameSpec)

/-- 'horologelaw05.ModelCopies', WHERE WHAT IT READS IS OF BULK AT MOST 1048576: true; the input reads as it did. -/
def modelCopiesUptoRow : OpenClaim := { program := "ytegegljpmelomaa", sum := "85805d9b65ec69f8909770bb674a1de4bf2c26b1a0ece934cfef21216824edd9", func := "horologe/horologelaw05.ModelCopies", spec := "modelCopies", inPlace := ["math.Float64bits"], unfollowed := true, recurses := true, apart := false, narrowed := true }
def ModelCopiesUptoSaid : Prop := modelCopiesUptoRow.holds Try.pinned (OpenSpec.upto modelCopiesSpec)

/-- 'horologelaw05.ModelLent', WHERE WHAT IT READS IS OF BULK AT MOST 1048576: true; the input reads as it did. -/
def modelLentUptoRow : OpenClaim := { program := "ytegegljpmelomaa", sum := "85805d9b65ec69f8909770bb674a1de4bf2c26b1a0ece934cfef21216824edd9", func := "horologe/horologelaw05.ModelLent", spec := "modelLent", inPlace := ["math.Float64bits"], unfollowed := true, recurses := true, apart := false, narrowed := true }
def ModelLentUptoSaid : Prop := modelLentUptoRow.holds Try.pinned (OpenSpec.upto modelLentSpec)

/-- 'horologelaw06.ModelioPuts', WHERE WHAT IT READS IS OF BULK AT MOST 1048576: true; the input reads as it did. -/
def modelioPutsUptoRow : OpenClaim := { program := "ytegegljpmelomaa", sum := "85805d9b65ec69f8909770bb674a1de4bf2c26b1a0ece934cfef21216824edd9", func := "horologe/horologelaw06.ModelioPuts", spec := "modelioPuts", inPlace := ["math.Float64bits", "math.Float64frombits"], unfollowed := true, recurses := true, apart := false, narrowed := true }
def ModelioPutsUptoSaid : Prop := modelioPutsUptoRow.holds Try.pinned (OpenSpec.upto modelioPutsSpec)

/-- 'horologelaw06.ModelioGets', WHERE WHAT IT READS IS OF BULK AT MOST 1048576: true; the input reads as it did. -/
def modelioGetsUptoRow : OpenClaim := { program := "ytegegljpmelomaa", sum := "85805d9b65ec69f8909770bb674a1de4bf2c26b1a0ece934cfef21216824edd9", func := "horologe/horologelaw06.ModelioGets", spec := "modelioGets", inPlace := ["math.Float64bits", "math.Float64frombits"], unfollowed := true, recurses := true, apart := false, narrowed := true }
def ModelioGetsUptoSaid : Prop := modelioGetsUptoRow.holds Try.pinned (OpenSpec.upto modelioGetsSpec)

/-- 'horologelaw06.ModelioBack', WHERE WHAT IT READS IS OF BULK AT MOST 1048576: true; the input reads as it did. -/
def modelioBackUptoRow : OpenClaim := { program := "ytegegljpmelomaa", sum := "85805d9b65ec69f8909770bb674a1de4bf2c26b1a0ece934cfef21216824edd9", func := "horologe/horologelaw06.ModelioBack", spec := "modelioBack", inPlace := ["math.Float64bits", "math.Float64frombits"], unfollowed := true, recurses := true, apart := false, narrowed := true }
def ModelioBackUptoSaid : Prop := modelioBackUptoRow.holds Try.pinned (OpenSpec.upto modelioBackSpec)

/-- 'horologelaw06.ModelioOnce', WHERE WHAT IT READS IS OF BULK AT MOST 1048576: true; the input reads as it did. -/
def modelioOnceUptoRow : OpenClaim := { program := "ytegegljpmelomaa", sum := "85805d9b65ec69f8909770bb674a1de4bf2c26b1a0ece934cfef21216824edd9", func := "horologe/horologelaw06.ModelioOnce", spec := "modelioOnce", inPlace := ["math.Float64bits", "math.Float64frombits"], unfollowed := true, recurses := true, apart := false, narrowed := true }
def ModelioOnceUptoSaid : Prop := modelioOnceUptoRow.holds Try.pinned (OpenSpec.upto modelioOnceSpec)

/-- 'horologelaw06.ModelioApart', WHERE WHAT IT READS IS OF BULK AT MOST 1048576: true; the input reads as it did. -/
def modelioApartUptoRow : OpenClaim := { program := "ytegegljpmelomaa", sum := "85805d9b65ec69f8909770bb674a1de4bf2c26b1a0ece934cfef21216824edd9", func := "horologe/horologelaw06.ModelioApart", spec := "modelioApart", inPlace := ["math.Float64bits", "math.Float64frombits"], unfollowed := true, recurses := true, apart := false, narrowed := true }
def ModelioApartUptoSaid : Prop := modelioApartUptoRow.holds Try.pinned (OpenSpec.upto modelioApartSpec)

end Rows
end Go.Proofs.Ytegegljpmelomaa
