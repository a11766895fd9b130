/-
  No cell of these rows narrows 'for every input' (looked for: loops, veiled, ifaces, maps, wideKeys, modest, calm, conditions, laid).
  DERIVED. THE GIVEN ROWS OF THIS SEAT. 5 by the template 'for every input the law returns true; each argument reads behind the call as it read before'; 0 by the template 'total and deterministic' (their statements: YtgohdpnlaedeiaaTotals.lean).
  GIVEN WITH THE SEED: the statements are not yours to turn. If you find one false, say at which input.
  Laid BY PROGRAM, IN A SANDBOX (cutbox-rows.mjs): the forced cells as the released guide's own fill.sh prints them over the translation 0729151ae84a42cf… (all of the seat's roots in one cut). By AI agents, Wed Nov 11 2026. No macro, syntax, notation, axiom, sorry.
-/
import Derived.Test.YtgohdpnlaedeiaaChecked
import GoSem.Claim
import GoSem.ClaimJoined
import GoSem.ClaimMapViews
import Derived.JoinedTies
import Derived.KernelRfl
namespace Go.Proofs.Ytgohdpnlaedeiaa
/- THE CELL 'sum', in the pinned program and in every row, IS THE sha256 OF THE DUMP (.gsa) THAT YtgohdpnlaedeiaaProg.lean LOADS. Nothing in Lean hashes anything: it is a label: what it is worth is what the hold of that sum in a sandbox is worth. -/
noncomputable def Try.pinned : Pinned := { name := "ytgohdpnlaedeiaa", sum := "0729151ae84a42cf42765369e8858475588abc11576375d3d8d2e537273e3e33", checked := Try.checked }
namespace Rows
def none {H : Type} : Left H := { results := [], args := [] }

/-- 'horologelaw07.VmRuns': WHATEVER THE INPUT: true; the input reads as it did. -/
def vmRunsSpec : ChangeSpec := { name := "vmRuns", fn := fun _ => fun
  | [d1, d2] => { results := [.lit (.bool true)], args := [d1, d2] }
  | _ => none }
def vmRunsRow : OpenClaim := { program := "ytgohdpnlaedeiaa", sum := "0729151ae84a42cf42765369e8858475588abc11576375d3d8d2e537273e3e33", func := "horologe/horologelaw07.VmRuns", spec := "vmRuns", unfollowed := true, recurses := true, apart := false }
def VmRunsSaid : Prop := vmRunsRow.holds Try.pinned (OpenSpec.ofChange vmRunsSpec)

/-- ITS FALSE NEIGHBOUR: 'it returns false'. Refute it at one input. -/
def vmRunsWrong : ChangeSpec := { name := "vmRuns", fn := fun _ => fun
  | [d1, d2] => { results := [.lit (.bool false)], args := [d1, d2] }
  | _ => none }
def VmRunsWrongFalsely : Prop := vmRunsRow.holds Try.pinned (OpenSpec.ofChange vmRunsWrong)

/-- 'horologelaw07.VmWhole': WHATEVER THE INPUT: true; the input reads as it did. -/
def vmWholeSpec : ChangeSpec := { name := "vmWhole", fn := fun _ => fun
  | [d1, d2] => { results := [.lit (.bool true)], args := [d1, d2] }
  | _ => none }
def vmWholeRow : OpenClaim := { program := "ytgohdpnlaedeiaa", sum := "0729151ae84a42cf42765369e8858475588abc11576375d3d8d2e537273e3e33", func := "horologe/horologelaw07.VmWhole", spec := "vmWhole", unfollowed := true, recurses := true, apart := false }
def VmWholeSaid : Prop := vmWholeRow.holds Try.pinned (OpenSpec.ofChange vmWholeSpec)

/-- ITS FALSE NEIGHBOUR: 'it returns false'. Refute it at one input. -/
def vmWholeWrong : ChangeSpec := { name := "vmWhole", fn := fun _ => fun
  | [d1, d2] => { results := [.lit (.bool false)], args := [d1, d2] }
  | _ => none }
def VmWholeWrongFalsely : Prop := vmWholeRow.holds Try.pinned (OpenSpec.ofChange vmWholeWrong)

/-- 'horologelaw07.VmAgain': WHATEVER THE INPUT: true; the input reads as it did. -/
def vmAgainSpec : ChangeSpec := { name := "vmAgain", fn := fun _ => fun
  | [d1, d2, d3] => { results := [.lit (.bool true)], args := [d1, d2, d3] }
  | _ => none }
def vmAgainRow : OpenClaim := { program := "ytgohdpnlaedeiaa", sum := "0729151ae84a42cf42765369e8858475588abc11576375d3d8d2e537273e3e33", func := "horologe/horologelaw07.VmAgain", spec := "vmAgain", unfollowed := true, recurses := true, apart := false }
def VmAgainSaid : Prop := vmAgainRow.holds Try.pinned (OpenSpec.ofChange vmAgainSpec)

/-- ITS FALSE NEIGHBOUR: 'it returns false'. Refute it at one input. -/
def vmAgainWrong : ChangeSpec := { name := "vmAgain", fn := fun _ => fun
  | [d1, d2, d3] => { results := [.lit (.bool false)], args := [d1, d2, d3] }
  | _ => none }
def VmAgainWrongFalsely : Prop := vmAgainRow.holds Try.pinned (OpenSpec.ofChange vmAgainWrong)

/-- 'horologelaw07.VmDivides': WHATEVER THE INPUT: true; the input reads as it did. -/
def vmDividesSpec : ChangeSpec := { name := "vmDivides", fn := fun _ => fun
  | [d1, d2] => { results := [.lit (.bool true)], args := [d1, d2] }
  | _ => none }
def vmDividesRow : OpenClaim := { program := "ytgohdpnlaedeiaa", sum := "0729151ae84a42cf42765369e8858475588abc11576375d3d8d2e537273e3e33", func := "horologe/horologelaw07.VmDivides", spec := "vmDivides", unfollowed := true, recurses := true, apart := false }
def VmDividesSaid : Prop := vmDividesRow.holds Try.pinned (OpenSpec.ofChange vmDividesSpec)

/-- ITS FALSE NEIGHBOUR: 'it returns false'. Refute it at one input. -/
def vmDividesWrong : ChangeSpec := { name := "vmDivides", fn := fun _ => fun
  | [d1, d2] => { results := [.lit (.bool false)], args := [d1, d2] }
  | _ => none }
def VmDividesWrongFalsely : Prop := vmDividesRow.holds Try.pinned (OpenSpec.ofChange vmDividesWrong)

/-- 'horologelaw07.VmSteps': WHATEVER THE INPUT: true; the input reads as it did. -/
def vmStepsSpec : ChangeSpec := { name := "vmSteps", fn := fun _ => fun
  | [d1, d2] => { results := [.lit (.bool true)], args := [d1, d2] }
  | _ => none }
def vmStepsRow : OpenClaim := { program := "ytgohdpnlaedeiaa", sum := "0729151ae84a42cf42765369e8858475588abc11576375d3d8d2e537273e3e33", func := "horologe/horologelaw07.VmSteps", spec := "vmSteps", unfollowed := true, recurses := true, apart := false }
def VmStepsSaid : Prop := vmStepsRow.holds Try.pinned (OpenSpec.ofChange vmStepsSpec)

/-- ITS FALSE NEIGHBOUR: 'it returns false'. Refute it at one input. -/
def vmStepsWrong : ChangeSpec := { name := "vmSteps", fn := fun _ => fun
  | [d1, d2] => { results := [.lit (.bool false)], args := [d1, d2] }
  | _ => none }
def VmStepsWrongFalsely : Prop := vmStepsRow.holds Try.pinned (OpenSpec.ofChange vmStepsWrong)

/- THE SECOND FORM. 'bulk': how many values and letters a reading holds, each counted each time it is reached (what is shared counts as often as it is met; a slice's spare places count too). A statement '..UptoSaid' is the law's where the arguments, and the package variables that the reading takes, are together of bulk at most 1048576: NARROWER than '..Said'. Prove '..Said' where nothing that the law and all that it calls make is longer than what came in: it says more and counts as full. Else prove '..UptoSaid'. A law counts once. -/
mutual
def uptoBulk {H : Type} : DataW H → Nat
  | .lit (.string bytes) => bytes.length + 1
  | .lit _ => 1
  | .nil => 1
  | .ptr d => uptoBulk d + 1
  | .slice elems spare => uptoBulkAll elems + uptoBulkAll spare + 1
  | .agg parts => uptoBulkAll parts + 1
  | .iface _ d => uptoBulk d + 1
  | .map entries => uptoBulkEntries entries + 1
  | .held _ => 1
def uptoBulkAll {H : Type} : List (DataW H) → Nat
  | [] => 0
  | d :: r => uptoBulk d + uptoBulkAll r
def uptoBulkEntries {H : Type} : List (Lit × DataW H) → Nat
  | [] => 0
  | x :: r => uptoBulkEntry x + uptoBulkEntries r
def uptoBulkEntry {H : Type} : Lit × DataW H → Nat
  | (.string bytes, d) => bytes.length + uptoBulk d + 1
  | (_, d) => uptoBulk d + 1
 end
def uptoSmall : (H : Type) → List (DataW H) → Bool := fun _ ds => decide (uptoBulkAll ds ≤ 1048576)
def OpenSpec.upto (s : _root_.Go.ChangeSpec) : _root_.Go.OpenSpec := { _root_.Go.OpenSpec.ofChange s with cond := some uptoSmall }

/-- 'horologelaw07.VmRuns', WHERE WHAT IT READS IS OF BULK AT MOST 1048576: true; the input reads as it did. -/
def vmRunsUptoRow : OpenClaim := { program := "ytgohdpnlaedeiaa", sum := "0729151ae84a42cf42765369e8858475588abc11576375d3d8d2e537273e3e33", func := "horologe/horologelaw07.VmRuns", spec := "vmRuns", unfollowed := true, recurses := true, apart := false, narrowed := true }
def VmRunsUptoSaid : Prop := vmRunsUptoRow.holds Try.pinned (OpenSpec.upto vmRunsSpec)

/-- 'horologelaw07.VmWhole', WHERE WHAT IT READS IS OF BULK AT MOST 1048576: true; the input reads as it did. -/
def vmWholeUptoRow : OpenClaim := { program := "ytgohdpnlaedeiaa", sum := "0729151ae84a42cf42765369e8858475588abc11576375d3d8d2e537273e3e33", func := "horologe/horologelaw07.VmWhole", spec := "vmWhole", unfollowed := true, recurses := true, apart := false, narrowed := true }
def VmWholeUptoSaid : Prop := vmWholeUptoRow.holds Try.pinned (OpenSpec.upto vmWholeSpec)

/-- 'horologelaw07.VmAgain', WHERE WHAT IT READS IS OF BULK AT MOST 1048576: true; the input reads as it did. -/
def vmAgainUptoRow : OpenClaim := { program := "ytgohdpnlaedeiaa", sum := "0729151ae84a42cf42765369e8858475588abc11576375d3d8d2e537273e3e33", func := "horologe/horologelaw07.VmAgain", spec := "vmAgain", unfollowed := true, recurses := true, apart := false, narrowed := true }
def VmAgainUptoSaid : Prop := vmAgainUptoRow.holds Try.pinned (OpenSpec.upto vmAgainSpec)

/-- 'horologelaw07.VmDivides', WHERE WHAT IT READS IS OF BULK AT MOST 1048576: true; the input reads as it did. -/
def vmDividesUptoRow : OpenClaim := { program := "ytgohdpnlaedeiaa", sum := "0729151ae84a42cf42765369e8858475588abc11576375d3d8d2e537273e3e33", func := "horologe/horologelaw07.VmDivides", spec := "vmDivides", unfollowed := true, recurses := true, apart := false, narrowed := true }
def VmDividesUptoSaid : Prop := vmDividesUptoRow.holds Try.pinned (OpenSpec.upto vmDividesSpec)

/-- 'horologelaw07.VmSteps', WHERE WHAT IT READS IS OF BULK AT MOST 1048576: true; the input reads as it did. -/
def vmStepsUptoRow : OpenClaim := { program := "ytgohdpnlaedeiaa", sum := "0729151ae84a42cf42765369e8858475588abc11576375d3d8d2e537273e3e33", func := "horologe/horologelaw07.VmSteps", spec := "vmSteps", unfollowed := true, recurses := true, apart := false, narrowed := true }
def VmStepsUptoSaid : Prop := vmStepsUptoRow.holds Try.pinned (OpenSpec.upto vmStepsSpec)

end Rows
end Go.Proofs.Ytgohdpnlaedeiaa
