/-
  No cell of these rows narrows 'for every input' (looked for: loops, veiled, ifaces, maps, wideKeys, modest, calm, conditions, laid).
  DERIVED. THE GIVEN ROWS OF THIS SEAT. 17 by the template 'for every input the law returns true; each argument reads behind the call as it read before'; 0 by the template 'total and deterministic' (their statements: YtpfcmfannkbipaaTotals.lean).
  GIVEN WITH THE SEED: the statements are not yours to turn. If you find one false, say at which input.
  Laid BY PROGRAM, IN A SANDBOX (cutbox-rows.mjs): the forced cells as the released guide's own fill.sh prints them over the translation 01a550e1ab8334b9… (all of the seat's roots in one cut). By AI agents, Wed Nov 11 2026. No macro, syntax, notation, axiom, sorry.
-/
import Derived.Test.YtpfcmfannkbipaaChecked
import GoSem.Claim
import GoSem.ClaimJoined
import GoSem.ClaimMapViews
import Derived.JoinedTies
import Derived.KernelRfl
namespace Go.Proofs.Ytpfcmfannkbipaa
/- THE CELL 'sum', in the pinned program and in every row, IS THE sha256 OF THE DUMP (.gsa) THAT YtpfcmfannkbipaaProg.lean LOADS. Nothing in Lean hashes anything: it is a label: what it is worth is what the hold of that sum in a sandbox is worth. -/
noncomputable def Try.pinned : Pinned := { name := "ytpfcmfannkbipaa", sum := "01a550e1ab8334b9afdac69e7fae4f27e5e57a6d719c3e9f794334d0219f771f", checked := Try.checked }
namespace Rows
def none {H : Type} : Left H := { results := [], args := [] }

/-- 'horologelaw34.SummarySums': WHATEVER THE INPUT: true; the input reads as it did. -/
def summarySumsSpec : ChangeSpec := { name := "summarySums", fn := fun _ => fun
  | [d] => { results := [.lit (.bool true)], args := [d] }
  | _ => none }
def summarySumsRow : OpenClaim := { program := "ytpfcmfannkbipaa", sum := "01a550e1ab8334b9afdac69e7fae4f27e5e57a6d719c3e9f794334d0219f771f", func := "horologe/horologelaw34.SummarySums", spec := "summarySums", inPlace := ["math.Float64bits"], unfollowed := true, recurses := true, apart := false }
def SummarySumsSaid : Prop := summarySumsRow.holds Try.pinned (OpenSpec.ofChange summarySumsSpec)

/-- ITS FALSE NEIGHBOUR: 'it returns false'. Refute it at one input. -/
def summarySumsWrong : ChangeSpec := { name := "summarySums", fn := fun _ => fun
  | [d] => { results := [.lit (.bool false)], args := [d] }
  | _ => none }
def SummarySumsWrongFalsely : Prop := summarySumsRow.holds Try.pinned (OpenSpec.ofChange summarySumsWrong)

/-- 'horologelaw34.SummaryMerges': WHATEVER THE INPUT: true; the input reads as it did. -/
def summaryMergesSpec : ChangeSpec := { name := "summaryMerges", fn := fun _ => fun
  | [d1, d2] => { results := [.lit (.bool true)], args := [d1, d2] }
  | _ => none }
def summaryMergesRow : OpenClaim := { program := "ytpfcmfannkbipaa", sum := "01a550e1ab8334b9afdac69e7fae4f27e5e57a6d719c3e9f794334d0219f771f", func := "horologe/horologelaw34.SummaryMerges", spec := "summaryMerges", inPlace := ["math.Float64bits"], unfollowed := true, recurses := true, apart := false }
def SummaryMergesSaid : Prop := summaryMergesRow.holds Try.pinned (OpenSpec.ofChange summaryMergesSpec)

/-- ITS FALSE NEIGHBOUR: 'it returns false'. Refute it at one input. -/
def summaryMergesWrong : ChangeSpec := { name := "summaryMerges", fn := fun _ => fun
  | [d1, d2] => { results := [.lit (.bool false)], args := [d1, d2] }
  | _ => none }
def SummaryMergesWrongFalsely : Prop := summaryMergesRow.holds Try.pinned (OpenSpec.ofChange summaryMergesWrong)

/-- 'horologelaw34.SummaryDiffers': WHATEVER THE INPUT: true; the input reads as it did. -/
def summaryDiffersSpec : ChangeSpec := { name := "summaryDiffers", fn := fun _ => fun
  | [d1, d2] => { results := [.lit (.bool true)], args := [d1, d2] }
  | _ => none }
def summaryDiffersRow : OpenClaim := { program := "ytpfcmfannkbipaa", sum := "01a550e1ab8334b9afdac69e7fae4f27e5e57a6d719c3e9f794334d0219f771f", func := "horologe/horologelaw34.SummaryDiffers", spec := "summaryDiffers", inPlace := ["math.Float64bits"], unfollowed := true, recurses := true, apart := false }
def SummaryDiffersSaid : Prop := summaryDiffersRow.holds Try.pinned (OpenSpec.ofChange summaryDiffersSpec)

/-- ITS FALSE NEIGHBOUR: 'it returns false'. Refute it at one input. -/
def summaryDiffersWrong : ChangeSpec := { name := "summaryDiffers", fn := fun _ => fun
  | [d1, d2] => { results := [.lit (.bool false)], args := [d1, d2] }
  | _ => none }
def SummaryDiffersWrongFalsely : Prop := summaryDiffersRow.holds Try.pinned (OpenSpec.ofChange summaryDiffersWrong)

/-- 'horologelaw34.SummaryParts': WHATEVER THE INPUT: true; the input reads as it did. -/
def summaryPartsSpec : ChangeSpec := { name := "summaryParts", fn := fun _ => fun
  | [d1, d2] => { results := [.lit (.bool true)], args := [d1, d2] }
  | _ => none }
def summaryPartsRow : OpenClaim := { program := "ytpfcmfannkbipaa", sum := "01a550e1ab8334b9afdac69e7fae4f27e5e57a6d719c3e9f794334d0219f771f", func := "horologe/horologelaw34.SummaryParts", spec := "summaryParts", inPlace := ["math.Float64bits"], unfollowed := true, recurses := true, apart := false }
def SummaryPartsSaid : Prop := summaryPartsRow.holds Try.pinned (OpenSpec.ofChange summaryPartsSpec)

/-- ITS FALSE NEIGHBOUR: 'it returns false'. Refute it at one input. -/
def summaryPartsWrong : ChangeSpec := { name := "summaryParts", fn := fun _ => fun
  | [d1, d2] => { results := [.lit (.bool false)], args := [d1, d2] }
  | _ => none }
def SummaryPartsWrongFalsely : Prop := summaryPartsRow.holds Try.pinned (OpenSpec.ofChange summaryPartsWrong)

/-- 'horologelaw34.SummaryBack': WHATEVER THE INPUT: true; the input reads as it did. -/
def summaryBackSpec : ChangeSpec := { name := "summaryBack", fn := fun _ => fun
  | [d] => { results := [.lit (.bool true)], args := [d] }
  | _ => none }
def summaryBackRow : OpenClaim := { program := "ytpfcmfannkbipaa", sum := "01a550e1ab8334b9afdac69e7fae4f27e5e57a6d719c3e9f794334d0219f771f", func := "horologe/horologelaw34.SummaryBack", spec := "summaryBack", inPlace := ["math.Float64bits"], unfollowed := true, recurses := true, apart := false }
def SummaryBackSaid : Prop := summaryBackRow.holds Try.pinned (OpenSpec.ofChange summaryBackSpec)

/-- ITS FALSE NEIGHBOUR: 'it returns false'. Refute it at one input. -/
def summaryBackWrong : ChangeSpec := { name := "summaryBack", fn := fun _ => fun
  | [d] => { results := [.lit (.bool false)], args := [d] }
  | _ => none }
def SummaryBackWrongFalsely : Prop := summaryBackRow.holds Try.pinned (OpenSpec.ofChange summaryBackWrong)

/-- 'horologelaw34.SummaryCuts': WHATEVER THE INPUT: true; the input reads as it did. -/
def summaryCutsSpec : ChangeSpec := { name := "summaryCuts", fn := fun _ => fun
  | [d1, d2, d3] => { results := [.lit (.bool true)], args := [d1, d2, d3] }
  | _ => none }
def summaryCutsRow : OpenClaim := { program := "ytpfcmfannkbipaa", sum := "01a550e1ab8334b9afdac69e7fae4f27e5e57a6d719c3e9f794334d0219f771f", func := "horologe/horologelaw34.SummaryCuts", spec := "summaryCuts", inPlace := ["math.Float64bits"], unfollowed := true, recurses := true, apart := false }
def SummaryCutsSaid : Prop := summaryCutsRow.holds Try.pinned (OpenSpec.ofChange summaryCutsSpec)

/-- ITS FALSE NEIGHBOUR: 'it returns false'. Refute it at one input. -/
def summaryCutsWrong : ChangeSpec := { name := "summaryCuts", fn := fun _ => fun
  | [d1, d2, d3] => { results := [.lit (.bool false)], args := [d1, d2, d3] }
  | _ => none }
def SummaryCutsWrongFalsely : Prop := summaryCutsRow.holds Try.pinned (OpenSpec.ofChange summaryCutsWrong)

/-- 'horologelaw08.ActLater': WHATEVER THE INPUT: true; the input reads as it did. -/
def actLaterSpec : ChangeSpec := { name := "actLater", fn := fun _ => fun
  | [d] => { results := [.lit (.bool true)], args := [d] }
  | _ => none }
def actLaterRow : OpenClaim := { program := "ytpfcmfannkbipaa", sum := "01a550e1ab8334b9afdac69e7fae4f27e5e57a6d719c3e9f794334d0219f771f", func := "horologe/horologelaw08.ActLater", spec := "actLater", unfollowed := true, recurses := true, apart := false }
def ActLaterSaid : Prop := actLaterRow.holds Try.pinned (OpenSpec.ofChange actLaterSpec)

/-- ITS FALSE NEIGHBOUR: 'it returns false'. Refute it at one input. -/
def actLaterWrong : ChangeSpec := { name := "actLater", fn := fun _ => fun
  | [d] => { results := [.lit (.bool false)], args := [d] }
  | _ => none }
def ActLaterWrongFalsely : Prop := actLaterRow.holds Try.pinned (OpenSpec.ofChange actLaterWrong)

/-- 'horologelaw08.ActHandles': WHATEVER THE INPUT: true; the input reads as it did. -/
def actHandlesSpec : ChangeSpec := { name := "actHandles", fn := fun _ => fun
  | [d] => { results := [.lit (.bool true)], args := [d] }
  | _ => none }
def actHandlesRow : OpenClaim := { program := "ytpfcmfannkbipaa", sum := "01a550e1ab8334b9afdac69e7fae4f27e5e57a6d719c3e9f794334d0219f771f", func := "horologe/horologelaw08.ActHandles", spec := "actHandles", inPlace := ["math.Float64bits"], unfollowed := true, recurses := true, apart := false }
def ActHandlesSaid : Prop := actHandlesRow.holds Try.pinned (OpenSpec.ofChange actHandlesSpec)

/-- ITS FALSE NEIGHBOUR: 'it returns false'. Refute it at one input. -/
def actHandlesWrong : ChangeSpec := { name := "actHandles", fn := fun _ => fun
  | [d] => { results := [.lit (.bool false)], args := [d] }
  | _ => none }
def ActHandlesWrongFalsely : Prop := actHandlesRow.holds Try.pinned (OpenSpec.ofChange actHandlesWrong)

/-- 'horologelaw08.ActAgain': WHATEVER THE INPUT: true; the input reads as it did. -/
def actAgainSpec : ChangeSpec := { name := "actAgain", fn := fun _ => fun
  | [d1, d2] => { results := [.lit (.bool true)], args := [d1, d2] }
  | _ => none }
def actAgainRow : OpenClaim := { program := "ytpfcmfannkbipaa", sum := "01a550e1ab8334b9afdac69e7fae4f27e5e57a6d719c3e9f794334d0219f771f", func := "horologe/horologelaw08.ActAgain", spec := "actAgain", inPlace := ["math.Float64bits"], unfollowed := true, recurses := true, apart := false }
def ActAgainSaid : Prop := actAgainRow.holds Try.pinned (OpenSpec.ofChange actAgainSpec)

/-- ITS FALSE NEIGHBOUR: 'it returns false'. Refute it at one input. -/
def actAgainWrong : ChangeSpec := { name := "actAgain", fn := fun _ => fun
  | [d1, d2] => { results := [.lit (.bool false)], args := [d1, d2] }
  | _ => none }
def ActAgainWrongFalsely : Prop := actAgainRow.holds Try.pinned (OpenSpec.ofChange actAgainWrong)

/-- 'horologelaw08.ActSame': WHATEVER THE INPUT: true; the input reads as it did. -/
def actSameSpec : ChangeSpec := { name := "actSame", fn := fun _ => fun
  | [d1, d2] => { results := [.lit (.bool true)], args := [d1, d2] }
  | _ => none }
def actSameRow : OpenClaim := { program := "ytpfcmfannkbipaa", sum := "01a550e1ab8334b9afdac69e7fae4f27e5e57a6d719c3e9f794334d0219f771f", func := "horologe/horologelaw08.ActSame", spec := "actSame", unfollowed := true, recurses := true, apart := false }
def ActSameSaid : Prop := actSameRow.holds Try.pinned (OpenSpec.ofChange actSameSpec)

/-- ITS FALSE NEIGHBOUR: 'it returns false'. Refute it at one input. -/
def actSameWrong : ChangeSpec := { name := "actSame", fn := fun _ => fun
  | [d1, d2] => { results := [.lit (.bool false)], args := [d1, d2] }
  | _ => none }
def ActSameWrongFalsely : Prop := actSameRow.holds Try.pinned (OpenSpec.ofChange actSameWrong)

/-- 'horologelaw08.ActBegins': WHATEVER THE INPUT: true; the input reads as it did. -/
def actBeginsSpec : ChangeSpec := { name := "actBegins", fn := fun _ => fun
  | [d1, d2] => { results := [.lit (.bool true)], args := [d1, d2] }
  | _ => none }
def actBeginsRow : OpenClaim := { program := "ytpfcmfannkbipaa", sum := "01a550e1ab8334b9afdac69e7fae4f27e5e57a6d719c3e9f794334d0219f771f", func := "horologe/horologelaw08.ActBegins", spec := "actBegins", inPlace := ["math.Float64bits"], unfollowed := true, recurses := true, apart := false }
def ActBeginsSaid : Prop := actBeginsRow.holds Try.pinned (OpenSpec.ofChange actBeginsSpec)

/-- ITS FALSE NEIGHBOUR: 'it returns false'. Refute it at one input. -/
def actBeginsWrong : ChangeSpec := { name := "actBegins", fn := fun _ => fun
  | [d1, d2] => { results := [.lit (.bool false)], args := [d1, d2] }
  | _ => none }
def ActBeginsWrongFalsely : Prop := actBeginsRow.holds Try.pinned (OpenSpec.ofChange actBeginsWrong)

/-- 'horologelaw08.ActOrders': WHATEVER THE INPUT: true; the input reads as it did. -/
def actOrdersSpec : ChangeSpec := { name := "actOrders", fn := fun _ => fun
  | [d1, d2, d3] => { results := [.lit (.bool true)], args := [d1, d2, d3] }
  | _ => none }
def actOrdersRow : OpenClaim := { program := "ytpfcmfannkbipaa", sum := "01a550e1ab8334b9afdac69e7fae4f27e5e57a6d719c3e9f794334d0219f771f", func := "horologe/horologelaw08.ActOrders", spec := "actOrders", unfollowed := true, recurses := true, apart := false }
def ActOrdersSaid : Prop := actOrdersRow.holds Try.pinned (OpenSpec.ofChange actOrdersSpec)

/-- ITS FALSE NEIGHBOUR: 'it returns false'. Refute it at one input. -/
def actOrdersWrong : ChangeSpec := { name := "actOrders", fn := fun _ => fun
  | [d1, d2, d3] => { results := [.lit (.bool false)], args := [d1, d2, d3] }
  | _ => none }
def ActOrdersWrongFalsely : Prop := actOrdersRow.holds Try.pinned (OpenSpec.ofChange actOrdersWrong)

/-- 'horologelaw09.PlainOrder': WHATEVER THE INPUT: true; the input reads as it did. -/
def plainOrderSpec : ChangeSpec := { name := "plainOrder", fn := fun _ => fun
  | [d1, d2] => { results := [.lit (.bool true)], args := [d1, d2] }
  | _ => none }
def plainOrderRow : OpenClaim := { program := "ytpfcmfannkbipaa", sum := "01a550e1ab8334b9afdac69e7fae4f27e5e57a6d719c3e9f794334d0219f771f", func := "horologe/horologelaw09.PlainOrder", spec := "plainOrder", unfollowed := true, recurses := true, apart := false }
def PlainOrderSaid : Prop := plainOrderRow.holds Try.pinned (OpenSpec.ofChange plainOrderSpec)

/-- ITS FALSE NEIGHBOUR: 'it returns false'. Refute it at one input. -/
def plainOrderWrong : ChangeSpec := { name := "plainOrder", fn := fun _ => fun
  | [d1, d2] => { results := [.lit (.bool false)], args := [d1, d2] }
  | _ => none }
def PlainOrderWrongFalsely : Prop := plainOrderRow.holds Try.pinned (OpenSpec.ofChange plainOrderWrong)

/-- 'horologelaw09.PlainParts': WHATEVER THE INPUT: true; the input reads as it did. -/
def plainPartsSpec : ChangeSpec := { name := "plainParts", fn := fun _ => fun
  | [d1, d2] => { results := [.lit (.bool true)], args := [d1, d2] }
  | _ => none }
def plainPartsRow : OpenClaim := { program := "ytpfcmfannkbipaa", sum := "01a550e1ab8334b9afdac69e7fae4f27e5e57a6d719c3e9f794334d0219f771f", func := "horologe/horologelaw09.PlainParts", spec := "plainParts", inPlace := ["math.Float64bits"], unfollowed := true, recurses := true, apart := false }
def PlainPartsSaid : Prop := plainPartsRow.holds Try.pinned (OpenSpec.ofChange plainPartsSpec)

/-- ITS FALSE NEIGHBOUR: 'it returns false'. Refute it at one input. -/
def plainPartsWrong : ChangeSpec := { name := "plainParts", fn := fun _ => fun
  | [d1, d2] => { results := [.lit (.bool false)], args := [d1, d2] }
  | _ => none }
def PlainPartsWrongFalsely : Prop := plainPartsRow.holds Try.pinned (OpenSpec.ofChange plainPartsWrong)

/-- 'horologelaw09.PlainCounts': WHATEVER THE INPUT: true; the input reads as it did. -/
def plainCountsSpec : ChangeSpec := { name := "plainCounts", fn := fun _ => fun
  | [d1, d2] => { results := [.lit (.bool true)], args := [d1, d2] }
  | _ => none }
def plainCountsRow : OpenClaim := { program := "ytpfcmfannkbipaa", sum := "01a550e1ab8334b9afdac69e7fae4f27e5e57a6d719c3e9f794334d0219f771f", func := "horologe/horologelaw09.PlainCounts", spec := "plainCounts", unfollowed := true, recurses := true, apart := false }
def PlainCountsSaid : Prop := plainCountsRow.holds Try.pinned (OpenSpec.ofChange plainCountsSpec)

/-- ITS FALSE NEIGHBOUR: 'it returns false'. Refute it at one input. -/
def plainCountsWrong : ChangeSpec := { name := "plainCounts", fn := fun _ => fun
  | [d1, d2] => { results := [.lit (.bool false)], args := [d1, d2] }
  | _ => none }
def PlainCountsWrongFalsely : Prop := plainCountsRow.holds Try.pinned (OpenSpec.ofChange plainCountsWrong)

/-- 'horologelaw09.PlainNone': WHATEVER THE INPUT: true; the input reads as it did. -/
def plainNoneSpec : ChangeSpec := { name := "plainNone", fn := fun _ => fun
  | [d1, d2] => { results := [.lit (.bool true)], args := [d1, d2] }
  | _ => none }
def plainNoneRow : OpenClaim := { program := "ytpfcmfannkbipaa", sum := "01a550e1ab8334b9afdac69e7fae4f27e5e57a6d719c3e9f794334d0219f771f", func := "horologe/horologelaw09.PlainNone", spec := "plainNone", unfollowed := true, recurses := true, apart := false }
def PlainNoneSaid : Prop := plainNoneRow.holds Try.pinned (OpenSpec.ofChange plainNoneSpec)

/-- ITS FALSE NEIGHBOUR: 'it returns false'. Refute it at one input. -/
def plainNoneWrong : ChangeSpec := { name := "plainNone", fn := fun _ => fun
  | [d1, d2] => { results := [.lit (.bool false)], args := [d1, d2] }
  | _ => none }
def PlainNoneWrongFalsely : Prop := plainNoneRow.holds Try.pinned (OpenSpec.ofChange plainNoneWrong)

/-- 'horologelaw09.PlainRuns': WHATEVER THE INPUT: true; the input reads as it did. -/
def plainRunsSpec : ChangeSpec := { name := "plainRuns", fn := fun _ => fun
  | [d1, d2] => { results := [.lit (.bool true)], args := [d1, d2] }
  | _ => none }
def plainRunsRow : OpenClaim := { program := "ytpfcmfannkbipaa", sum := "01a550e1ab8334b9afdac69e7fae4f27e5e57a6d719c3e9f794334d0219f771f", func := "horologe/horologelaw09.PlainRuns", spec := "plainRuns", inPlace := ["math.Float64bits"], unfollowed := true, recurses := true, apart := false }
def PlainRunsSaid : Prop := plainRunsRow.holds Try.pinned (OpenSpec.ofChange plainRunsSpec)

/-- ITS FALSE NEIGHBOUR: 'it returns false'. Refute it at one input. -/
def plainRunsWrong : ChangeSpec := { name := "plainRuns", fn := fun _ => fun
  | [d1, d2] => { results := [.lit (.bool false)], args := [d1, d2] }
  | _ => none }
def PlainRunsWrongFalsely : Prop := plainRunsRow.holds Try.pinned (OpenSpec.ofChange plainRunsWrong)

/- THE SECOND FORM. 'bulk': how many values and letters a reading holds, each counted each time it is reached (what is shared counts as often as it is met; a slice's spare places count too). A statement '..UptoSaid' is the law's where the arguments, and the package variables that the reading takes, are together of bulk at most 1048576: NARROWER than '..Said'. Prove '..Said' where nothing that the law and all that it calls make is longer than what came in: it says more and counts as full. Else prove '..UptoSaid'. A law counts once. -/
mutual
def uptoBulk {H : Type} : DataW H → Nat
  | .lit (.string bytes) => bytes.length + 1
  | .lit _ => 1
  | .nil => 1
  | .ptr d => uptoBulk d + 1
  | .slice elems spare => uptoBulkAll elems + uptoBulkAll spare + 1
  | .agg parts => uptoBulkAll parts + 1
  | .iface _ d => uptoBulk d + 1
  | .map entries => uptoBulkEntries entries + 1
  | .held _ => 1
def uptoBulkAll {H : Type} : List (DataW H) → Nat
  | [] => 0
  | d :: r => uptoBulk d + uptoBulkAll r
def uptoBulkEntries {H : Type} : List (Lit × DataW H) → Nat
  | [] => 0
  | x :: r => uptoBulkEntry x + uptoBulkEntries r
def uptoBulkEntry {H : Type} : Lit × DataW H → Nat
  | (.string bytes, d) => bytes.length + uptoBulk d + 1
  | (_, d) => uptoBulk d + 1
 end
def uptoSmall : (H : Type) → List (DataW H) → Bool := fun _ ds => decide (uptoBulkAll ds ≤ 1048576)
def OpenSpec.upto (s : _root_.Go.ChangeSpec) : _root_.Go.OpenSpec := { _root_.Go.OpenSpec.ofChange s with cond := some uptoSmall }

/-- 'horologelaw34.SummarySums', WHERE WHAT IT READS IS OF BULK AT MOST 1048576: true; the input reads as it did. -/
def summarySumsUptoRow : OpenClaim := { program := "ytpfcmfannkbipaa", sum := "01a550e1ab8334b9afdac69e7fae4f27e5e57a6d719c3e9f794334d0219f771f", func := "horologe/horologelaw34.SummarySums", spec := "summarySums", inPlace := ["math.Float64bits"], unfollowed := true, recurses := true, apart := false, narrowed := true }
def SummarySumsUptoSaid : Prop := summarySumsUptoRow.holds Try.pinned (OpenSpec.upto summarySumsSpec)

/-- 'horologelaw34.SummaryMerges', WHERE WHAT IT READS IS OF BULK AT MOST 1048576: true; the input reads as it did. -/
def summaryMergesUptoRow : OpenClaim := { program := "ytpfcmfannkbipaa", sum := "01a550e1ab8334b9afdac69e7fae4f27e5e57a6d719c3e9f794334d0219f771f", func := "horologe/horologelaw34.SummaryMerges", spec := "summaryMerges", inPlace := ["math.Float64bits"], unfollowed := true, recurses := true, apart := false, narrowed := true }
def SummaryMergesUptoSaid : Prop := summaryMergesUptoRow.holds Try.pinned (OpenSpec.upto summaryMergesSpec)

/-- 'horologelaw34.SummaryDiffers', WHERE WHAT IT READS IS OF BULK AT MOST 1048576: true; the input reads as it did. -/
def summaryDiffersUptoRow : OpenClaim := { program := "ytpfcmfannkbipaa", sum := "01a550e1ab8334b9afdac69e7fae4f27e5e57a6d719c3e9f794334d0219f771f", func := "horologe/horologelaw34.SummaryDiffers", spec := "summaryDiffers", inPlace := ["math.Float64bits"], unfollowed := true, recurses := true, apart := false, narrowed := true }
def SummaryDiffersUptoSaid : Prop := summaryDiffersUptoRow.holds Try.pinned (OpenSpec.upto summaryDiffersSpec)

/-- 'horologelaw34.SummaryParts', WHERE WHAT IT READS IS OF BULK AT MOST 1048576: true; the input reads as it did. -/
def summaryPartsUptoRow : OpenClaim := { program := "ytpfcmfannkbipaa", sum := "01a550e1ab8334b9afdac69e7fae4f27e5e57a6d719c3e9f794334d0219f771f", func := "horologe/horologelaw34.SummaryParts", spec := "summaryParts", inPlace := ["math.Float64bits"], unfollowed := true, recurses := true, apart := false, narrowed := true }
def SummaryPartsUptoSaid : Prop := summaryPartsUptoRow.holds Try.pinned (OpenSpec.upto summaryPartsSpec)

/-- 'horologelaw34.SummaryBack', WHERE WHAT IT READS IS OF BULK AT MOST 1048576: true; the input reads as it did. -/
def summaryBackUptoRow : OpenClaim := { program := "ytpfcmfannkbipaa", sum := "01a550e1ab8334b9afdac69e7fae4f27e5e57a6d719c3e9f794334d0219f771f", func := "horologe/horologelaw34.SummaryBack", spec := "summaryBack", inPlace := ["math.Float64bits"], unfollowed := true, recurses := true, apart := false, narrowed := true }
def SummaryBackUptoSaid : Prop := summaryBackUptoRow.holds Try.pinned (OpenSpec.upto summaryBackSpec)

/-- 'horologelaw34.SummaryCuts', WHERE WHAT IT READS IS OF BULK AT MOST 1048576: true; the input reads as it did. -/
def summaryCutsUptoRow : OpenClaim := { program := "ytpfcmfannkbipaa", sum := "01a550e1ab8334b9afdac69e7fae4f27e5e57a6d719c3e9f794334d0219f771f", func := "horologe/horologelaw34.SummaryCuts", spec := "summaryCuts", inPlace := ["math.Float64bits"], unfollowed := true, recurses := true, apart := false, narrowed := true }
def SummaryCutsUptoSaid : Prop := summaryCutsUptoRow.holds Try.pinned (OpenSpec.upto summaryCutsSpec)

/-- 'horologelaw08.ActLater', WHERE WHAT IT READS IS OF BULK AT MOST 1048576: true; the input reads as it did. -/
def actLaterUptoRow : OpenClaim := { program := "ytpfcmfannkbipaa", sum := "01a550e1ab8334b9afdac69e7fae4f27e5e57a6d719c3e9f794334d0219f771f", func := "horologe/horologelaw08.ActLater", spec := "actLater", unfollowed := true, recurses := true, apart := false, narrowed := true }
def ActLaterUptoSaid : Prop := actLaterUptoRow.holds Try.pinned (OpenSpec.upto actLaterSpec)

/-- 'horologelaw08.ActHandles', WHERE WHAT IT READS IS OF BULK AT MOST 1048576: true; the input reads as it did. -/
def actHandlesUptoRow : OpenClaim := { program := "ytpfcmfannkbipaa", sum := "01a550e1ab8334b9afdac69e7fae4f27e5e57a6d719c3e9f794334d0219f771f", func := "horologe/horologelaw08.ActHandles", spec := "actHandles", inPlace := ["math.Float64bits"], unfollowed := true, recurses := true, apart := false, narrowed := true }
def ActHandlesUptoSaid : Prop := actHandlesUptoRow.holds Try.pinned (OpenSpec.upto actHandlesSpec)

/-- 'horologelaw08.ActAgain', WHERE WHAT IT READS IS OF BULK AT MOST 1048576: true; the input reads as it did. -/
def actAgainUptoRow : OpenClaim := { program := "ytpfcmfannkbipaa", sum := "01a550e1ab8334b9afdac69e7fae4f27e5e57a6d719c3e9f794334d0219f771f", func := "horologe/horologelaw08.ActAgain", spec := "actAgain", inPlace := ["math.Float64bits"], unfollowed := true, recurses := true, apart := false, narrowed := true }
def ActAgainUptoSaid : Prop := actAgainUptoRow.holds Try.pinned (OpenSpec.upto actAgainSpec)

/-- 'horologelaw08.ActSame', WHERE WHAT IT READS IS OF BULK AT MOST 1048576: true; the input reads as it did. -/
def actSameUptoRow : OpenClaim := { program := "ytpfcmfannkbipaa", sum := "01a550e1ab8334b9afdac69e7fae4f27e5e57a6d719c3e9f794334d0219f771f", func := "horologe/horologelaw08.ActSame", spec := "actSame", unfollowed := true, recurses := true, apart := false, narrowed := true }
def ActSameUptoSaid : Prop := actSameUptoRow.holds Try.pinned (OpenSpec.upto actSameSpec)

/-- 'horologelaw08.ActBegins', WHERE WHAT IT READS IS OF BULK AT MOST 1048576: true; the input reads as it did. -/
def actBeginsUptoRow : OpenClaim := { program := "ytpfcmfannkbipaa", sum := "01a550e1ab8334b9afdac69e7fae4f27e5e57a6d719c3e9f794334d0219f771f", func := "horologe/horologelaw08.ActBegins", spec := "actBegins", inPlace := ["math.Float64bits"], unfollowed := true, recurses := true, apart := false, narrowed := true }
def ActBeginsUptoSaid : Prop := actBeginsUptoRow.holds Try.pinned (OpenSpec.upto actBeginsSpec)

/-- 'horologelaw08.ActOrders', WHERE WHAT IT READS IS OF BULK AT MOST 1048576: true; the input reads as it did. -/
def actOrdersUptoRow : OpenClaim := { program := "ytpfcmfannkbipaa", sum := "01a550e1ab8334b9afdac69e7fae4f27e5e57a6d719c3e9f794334d0219f771f", func := "horologe/horologelaw08.ActOrders", spec := "actOrders", unfollowed := true, recurses := true, apart := false, narrowed := true }
def ActOrdersUptoSaid : Prop := actOrdersUptoRow.holds Try.pinned (OpenSpec.upto actOrdersSpec)

/-- 'horologelaw09.PlainOrder', WHERE WHAT IT READS IS OF BULK AT MOST 1048576: true; the input reads as it did. -/
def plainOrderUptoRow : OpenClaim := { program := "ytpfcmfannkbipaa", sum := "01a550e1ab8334b9afdac69e7fae4f27e5e57a6d719c3e9f794334d0219f771f", func := "horologe/horologelaw09.PlainOrder", spec := "plainOrder", unfollowed := true, recurses := true, apart := false, narrowed := true }
def PlainOrderUptoSaid : Prop := plainOrderUptoRow.holds Try.pinned (OpenSpec.upto plainOrderSpec)

/-- 'horologelaw09.PlainParts', WHERE WHAT IT READS IS OF BULK AT MOST 1048576: true; the input reads as it did. -/
def plainPartsUptoRow : OpenClaim := { program := "ytpfcmfannkbipaa", sum := "01a550e1ab8334b9afdac69e7fae4f27e5e57a6d719c3e9f794334d0219f771f", func := "horologe/horologelaw09.PlainParts", spec := "plainParts", inPlace := ["math.Float64bits"], unfollowed := true, recurses := true, apart := false, narrowed := true }
def PlainPartsUptoSaid : Prop := plainPartsUptoRow.holds Try.pinned (OpenSpec.upto plainPartsSpec)

/-- 'horologelaw09.PlainCounts', WHERE WHAT IT READS IS OF BULK AT MOST 1048576: true; the input reads as it did. -/
def plainCountsUptoRow : OpenClaim := { program := "ytpfcmfannkbipaa", sum := "01a550e1ab8334b9afdac69e7fae4f27e5e57a6d719c3e9f794334d0219f771f", func := "horologe/horologelaw09.PlainCounts", spec := "plainCounts", unfollowed := true, recurses := true, apart := false, narrowed := true }
def PlainCountsUptoSaid : Prop := plainCountsUptoRow.holds Try.pinned (OpenSpec.upto plainCountsSpec)

/-- 'horologelaw09.PlainNone', WHERE WHAT IT READS IS OF BULK AT MOST 1048576: true; the input reads as it did. -/
def plainNoneUptoRow : OpenClaim := { program := "ytpfcmfannkbipaa", sum := "01a550e1ab8334b9afdac69e7fae4f27e5e57a6d719c3e9f794334d0219f771f", func := "horologe/horologelaw09.PlainNone", spec := "plainNone", unfollowed := true, recurses := true, apart := false, narrowed := true }
def PlainNoneUptoSaid : Prop := plainNoneUptoRow.holds Try.pinned (OpenSpec.upto plainNoneSpec)

/-- 'horologelaw09.PlainRuns', WHERE WHAT IT READS IS OF BULK AT MOST 1048576: true; the input reads as it did. -/
def plainRunsUptoRow : OpenClaim := { program := "ytpfcmfannkbipaa", sum := "01a550e1ab8334b9afdac69e7fae4f27e5e57a6d719c3e9f794334d0219f771f", func := "horologe/horologelaw09.PlainRuns", spec := "plainRuns", inPlace := ["math.Float64bits"], unfollowed := true, recurses := true, apart := false, narrowed := true }
def PlainRunsUptoSaid : Prop := plainRunsUptoRow.holds Try.pinned (OpenSpec.upto plainRunsSpec)

end Rows
end Go.Proofs.Ytpfcmfannkbipaa
