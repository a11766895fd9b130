/-
  No cell of these rows narrows 'for every input' (looked for: loops, veiled, ifaces, maps, wideKeys, modest, calm, conditions, laid).
  DERIVED. THE GIVEN ROWS OF THIS SEAT. 6 by the template 'for every input the law returns true; each argument reads behind the call as it read before'; 0 by the template 'total and deterministic' (their statements: YthjolkfbelfifaaTotals.lean).
  GIVEN WITH THE SEED: the statements are not yours to turn. If you find one false, say at which input.
  Laid BY PROGRAM, IN A SANDBOX (cutbox-rows.mjs): the forced cells as the released guide's own fill.sh prints them over the translation f7b56aad9f9ec0bc… (all of the seat's roots in one cut). By AI agents, Wed Nov 11 2026. No macro, syntax, notation, axiom, sorry.
-/
import Derived.Test.YthjolkfbelfifaaChecked
import GoSem.Claim
import GoSem.ClaimJoined
import GoSem.ClaimMapViews
import Derived.JoinedTies
import Derived.KernelRfl
namespace Go.Proofs.Ythjolkfbelfifaa
/- THE CELL 'sum', in the pinned program and in every row, IS THE sha256 OF THE DUMP (.gsa) THAT YthjolkfbelfifaaProg.lean LOADS. Nothing in Lean hashes anything: it is a label: what it is worth is what the hold of that sum in a sandbox is worth. -/
noncomputable def Try.pinned : Pinned := { name := "ythjolkfbelfifaa", sum := "f7b56aad9f9ec0bc69ecfba615733dbb3b6eea7f2e73c87d325f53951a58fa66", checked := Try.checked }
namespace Rows
def none {H : Type} : Left H := { results := [], args := [] }

/-- 'horologelaw04.DiceRolls': WHATEVER THE INPUT: true; the input reads as it did. -/
def diceRollsSpec : ChangeSpec := { name := "diceRolls", fn := fun _ => fun
  | [d] => { results := [.lit (.bool true)], args := [d] }
  | _ => none }
def diceRollsRow : OpenClaim := { program := "ythjolkfbelfifaa", sum := "f7b56aad9f9ec0bc69ecfba615733dbb3b6eea7f2e73c87d325f53951a58fa66", func := "horologe/horologelaw04.DiceRolls", spec := "diceRolls", unfollowed := true, recurses := true, apart := false }
def DiceRollsSaid : Prop := diceRollsRow.holds Try.pinned (OpenSpec.ofChange diceRollsSpec)

/-- ITS FALSE NEIGHBOUR: 'it returns false'. Refute it at one input. -/
def diceRollsWrong : ChangeSpec := { name := "diceRolls", fn := fun _ => fun
  | [d] => { results := [.lit (.bool false)], args := [d] }
  | _ => none }
def DiceRollsWrongFalsely : Prop := diceRollsRow.holds Try.pinned (OpenSpec.ofChange diceRollsWrong)

/-- 'horologelaw04.DiceNext': WHATEVER THE INPUT: true; the input reads as it did. -/
def diceNextSpec : ChangeSpec := { name := "diceNext", fn := fun _ => fun
  | [d] => { results := [.lit (.bool true)], args := [d] }
  | _ => none }
def diceNextRow : OpenClaim := { program := "ythjolkfbelfifaa", sum := "f7b56aad9f9ec0bc69ecfba615733dbb3b6eea7f2e73c87d325f53951a58fa66", func := "horologe/horologelaw04.DiceNext", spec := "diceNext", unfollowed := true, recurses := true, apart := false }
def DiceNextSaid : Prop := diceNextRow.holds Try.pinned (OpenSpec.ofChange diceNextSpec)

/-- ITS FALSE NEIGHBOUR: 'it returns false'. Refute it at one input. -/
def diceNextWrong : ChangeSpec := { name := "diceNext", fn := fun _ => fun
  | [d] => { results := [.lit (.bool false)], args := [d] }
  | _ => none }
def DiceNextWrongFalsely : Prop := diceNextRow.holds Try.pinned (OpenSpec.ofChange diceNextWrong)

/-- 'horologelaw04.DiceAgain': WHATEVER THE INPUT: true; the input reads as it did. -/
def diceAgainSpec : ChangeSpec := { name := "diceAgain", fn := fun _ => fun
  | [d] => { results := [.lit (.bool true)], args := [d] }
  | _ => none }
def diceAgainRow : OpenClaim := { program := "ythjolkfbelfifaa", sum := "f7b56aad9f9ec0bc69ecfba615733dbb3b6eea7f2e73c87d325f53951a58fa66", func := "horologe/horologelaw04.DiceAgain", spec := "diceAgain", unfollowed := true, recurses := true, apart := false }
def DiceAgainSaid : Prop := diceAgainRow.holds Try.pinned (OpenSpec.ofChange diceAgainSpec)

/-- ITS FALSE NEIGHBOUR: 'it returns false'. Refute it at one input. -/
def diceAgainWrong : ChangeSpec := { name := "diceAgain", fn := fun _ => fun
  | [d] => { results := [.lit (.bool false)], args := [d] }
  | _ => none }
def DiceAgainWrongFalsely : Prop := diceAgainRow.holds Try.pinned (OpenSpec.ofChange diceAgainWrong)

/-- 'horologelaw04.DiceWithin': WHATEVER THE INPUT: true; the input reads as it did. -/
def diceWithinSpec : ChangeSpec := { name := "diceWithin", fn := fun _ => fun
  | [d1, d2] => { results := [.lit (.bool true)], args := [d1, d2] }
  | _ => none }
def diceWithinRow : OpenClaim := { program := "ythjolkfbelfifaa", sum := "f7b56aad9f9ec0bc69ecfba615733dbb3b6eea7f2e73c87d325f53951a58fa66", func := "horologe/horologelaw04.DiceWithin", spec := "diceWithin", unfollowed := true, recurses := true, apart := false }
def DiceWithinSaid : Prop := diceWithinRow.holds Try.pinned (OpenSpec.ofChange diceWithinSpec)

/-- ITS FALSE NEIGHBOUR: 'it returns false'. Refute it at one input. -/
def diceWithinWrong : ChangeSpec := { name := "diceWithin", fn := fun _ => fun
  | [d1, d2] => { results := [.lit (.bool false)], args := [d1, d2] }
  | _ => none }
def DiceWithinWrongFalsely : Prop := diceWithinRow.holds Try.pinned (OpenSpec.ofChange diceWithinWrong)

/-- 'horologelaw04.DiceApart': WHATEVER THE INPUT: true; the input reads as it did. -/
def diceApartSpec : ChangeSpec := { name := "diceApart", fn := fun _ => fun
  | [d] => { results := [.lit (.bool true)], args := [d] }
  | _ => none }
def diceApartRow : OpenClaim := { program := "ythjolkfbelfifaa", sum := "f7b56aad9f9ec0bc69ecfba615733dbb3b6eea7f2e73c87d325f53951a58fa66", func := "horologe/horologelaw04.DiceApart", spec := "diceApart", unfollowed := true, recurses := true, apart := false }
def DiceApartSaid : Prop := diceApartRow.holds Try.pinned (OpenSpec.ofChange diceApartSpec)

/-- ITS FALSE NEIGHBOUR: 'it returns false'. Refute it at one input. -/
def diceApartWrong : ChangeSpec := { name := "diceApart", fn := fun _ => fun
  | [d] => { results := [.lit (.bool false)], args := [d] }
  | _ => none }
def DiceApartWrongFalsely : Prop := diceApartRow.holds Try.pinned (OpenSpec.ofChange diceApartWrong)

/-- 'horologelaw04.DiceNone': WHATEVER THE INPUT: true; the input reads as it did. -/
def diceNoneSpec : ChangeSpec := { name := "diceNone", fn := fun _ => fun
  | [d] => { results := [.lit (.bool true)], args := [d] }
  | _ => none }
def diceNoneRow : OpenClaim := { program := "ythjolkfbelfifaa", sum := "f7b56aad9f9ec0bc69ecfba615733dbb3b6eea7f2e73c87d325f53951a58fa66", func := "horologe/horologelaw04.DiceNone", spec := "diceNone", unfollowed := true, recurses := true, apart := false }
def DiceNoneSaid : Prop := diceNoneRow.holds Try.pinned (OpenSpec.ofChange diceNoneSpec)

/-- ITS FALSE NEIGHBOUR: 'it returns false'. Refute it at one input. -/
def diceNoneWrong : ChangeSpec := { name := "diceNone", fn := fun _ => fun
  | [d] => { results := [.lit (.bool false)], args := [d] }
  | _ => none }
def DiceNoneWrongFalsely : Prop := diceNoneRow.holds Try.pinned (OpenSpec.ofChange diceNoneWrong)

/- THE SECOND FORM. 'bulk': how many values and letters a reading holds, each counted each time it is reached (what is shared counts as often as it is met; a slice's spare places count too). A statement '..UptoSaid' is the law's where the arguments, and the package variables that the reading takes, are together of bulk at most 1048576: NARROWER than '..Said'. Prove '..Said' where nothing that the law and all that it calls make is longer than what came in: it says more and counts as full. Else prove '..UptoSaid'. A law counts once. -/
mutual
def uptoBulk {H : Type} : DataW H → Nat
  | .lit (.string bytes) => bytes.length + 1
  | .lit _ => 1
  | .nil => 1
  | .ptr d => uptoBulk d + 1
  | .slice elems spare => uptoBulkAll elems + uptoBulkAll spare + 1
  | .agg parts => uptoBulkAll parts + 1
  | .iface _ d => uptoBulk d + 1
  | .map entries => uptoBulkEntries entries + 1
  | .held _ => 1
def uptoBulkAll {H : Type} : List (DataW H) → Nat
  | [] => 0
  | d :: r => uptoBulk d + uptoBulkAll r
def uptoBulkEntries {H : Type} : List (Lit × DataW H) → Nat
  | [] => 0
  | x :: r => uptoBulkEntry x + uptoBulkEntries r
def uptoBulkEntry {H : Type} : Lit × DataW H → Nat
  | (.string bytes, d) => bytes.length + uptoBulk d + 1
  | (_, d) => uptoBulk d + 1
 end
def uptoSmall : (H : Type) → List (DataW H) → Bool := fun _ ds => decide (uptoBulkAll ds ≤ 1048576)
def OpenSpec.upto (s : _root_.Go.ChangeSpec) : _root_.Go.OpenSpec := { _root_.Go.OpenSpec.ofChange s with cond := some uptoSmall }

/-- 'horologelaw04.DiceRolls', WHERE WHAT IT READS IS OF BULK AT MOST 1048576: true; the input reads as it did. -/
def diceRollsUptoRow : OpenClaim := { program := "ythjolkfbelfifaa", sum := "f7b56aad9f9ec0bc69ecfba615733dbb3b6eea7f2e73c87d325f53951a58fa66", func := "horologe/horologelaw04.DiceRolls", spec := "diceRolls", unfollowed := true, recurses := true, apart := false, narrowed := true }
def DiceRollsUptoSaid : Prop := diceRollsUptoRow.holds Try.pinned (OpenSpec.upto diceRollsSpec)

/-- 'horologelaw04.DiceNext', WHERE WHAT IT READS IS OF BULK AT MOST 1048576: true; the input reads as it did. -/
def diceNextUptoRow : OpenClaim := { program := "ythjolkfbelfifaa", sum := "f7b56aad9f9ec0bc69ecfba615733dbb3b6eea7f2e73c87d325f53951a58fa66", func := "horologe/horologelaw04.DiceNext", spec := "diceNext", unfollowed := true, recurses := true, apart := false, narrowed := true }
def DiceNextUptoSaid : Prop := diceNextUptoRow.holds Try.pinned (OpenSpec.upto diceNextSpec)

/-- 'horologelaw04.DiceAgain', WHERE WHAT IT READS IS OF BULK AT MOST 1048576: true; the input reads as it did. -/
def diceAgainUptoRow : OpenClaim := { program := "ythjolkfbelfifaa", sum := "f7b56aad9f9ec0bc69ecfba615733dbb3b6eea7f2e73c87d325f53951a58fa66", func := "horologe/horologelaw04.DiceAgain", spec := "diceAgain", unfollowed := true, recurses := true, apart := false, narrowed := true }
def DiceAgainUptoSaid : Prop := diceAgainUptoRow.holds Try.pinned (OpenSpec.upto diceAgainSpec)

/-- 'horologelaw04.DiceWithin', WHERE WHAT IT READS IS OF BULK AT MOST 1048576: true; the input reads as it did. -/
def diceWithinUptoRow : OpenClaim := { program := "ythjolkfbelfifaa", sum := "f7b56aad9f9ec0bc69ecfba615733dbb3b6eea7f2e73c87d325f53951a58fa66", func := "horologe/horologelaw04.DiceWithin", spec := "diceWithin", unfollowed := true, recurses := true, apart := false, narrowed := true }
def DiceWithinUptoSaid : Prop := diceWithinUptoRow.holds Try.pinned (OpenSpec.upto diceWithinSpec)

/-- 'horologelaw04.DiceApart', WHERE WHAT IT READS IS OF BULK AT MOST 1048576: true; the input reads as it did. -/
def diceApartUptoRow : OpenClaim := { program := "ythjolkfbelfifaa", sum := "f7b56aad9f9ec0bc69ecfba615733dbb3b6eea7f2e73c87d325f53951a58fa66", func := "horologe/horologelaw04.DiceApart", spec := "diceApart", unfollowed := true, recurses := true, apart := false, narrowed := true }
def DiceApartUptoSaid : Prop := diceApartUptoRow.holds Try.pinned (OpenSpec.upto diceApartSpec)

/-- 'horologelaw04.DiceNone', WHERE WHAT IT READS IS OF BULK AT MOST 1048576: true; the input reads as it did. -/
def diceNoneUptoRow : OpenClaim := { program := "ythjolkfbelfifaa", sum := "f7b56aad9f9ec0bc69ecfba615733dbb3b6eea7f2e73c87d325f53951a58fa66", func := "horologe/horologelaw04.DiceNone", spec := "diceNone", unfollowed := true, recurses := true, apart := false, narrowed := true }
def DiceNoneUptoSaid : Prop := diceNoneUptoRow.holds Try.pinned (OpenSpec.upto diceNoneSpec)

end Rows
end Go.Proofs.Ythjolkfbelfifaa
