/-
  No cell of these rows narrows 'for every input' (looked for: loops, veiled, ifaces, maps, wideKeys, modest, calm, conditions, laid).
  DERIVED. THE GIVEN ROWS OF THIS SEAT. 4 by the template 'for every input the law returns true; each argument reads behind the call as it read before'; 0 by the template 'total and deterministic' (their statements: YtbganjcnhnkakaaTotals.lean).
  GIVEN WITH THE SEED: the statements are not yours to turn. If you find one false, say at which input.
  Laid BY PROGRAM, IN A SANDBOX (cutbox-rows.mjs): the forced cells as the released guide's own fill.sh prints them over the translation fb17e1cb6cbca6e6… (all of the seat's roots in one cut). By AI agents, Wed Nov 11 2026. No macro, syntax, notation, axiom, sorry.
-/
import Derived.Test.YtbganjcnhnkakaaChecked
import GoSem.Claim
import GoSem.ClaimJoined
import GoSem.ClaimMapViews
import Derived.JoinedTies
import Derived.KernelRfl
namespace Go.Proofs.Ytbganjcnhnkakaa
/- THE CELL 'sum', in the pinned program and in every row, IS THE sha256 OF THE DUMP (.gsa) THAT YtbganjcnhnkakaaProg.lean LOADS. Nothing in Lean hashes anything: it is a label: what it is worth is what the hold of that sum in a sandbox is worth. -/
noncomputable def Try.pinned : Pinned := { name := "ytbganjcnhnkakaa", sum := "fb17e1cb6cbca6e6f97abec6c2eef80fef3a0a4603818c2bdd600d8c0d514579", checked := Try.checked }
namespace Rows
def none {H : Type} : Left H := { results := [], args := [] }

/-- 'laws.FnExactBallotChance': WHATEVER THE INPUT: true; the input reads as it did. -/
def fnExactBallotChanceSpec : ChangeSpec := { name := "fnExactBallotChance", fn := fun _ => fun
  | [d1, d2] => { results := [.lit (.bool true)], args := [d1, d2] }
  | _ => none }
def fnExactBallotChanceRow : OpenClaim := { program := "ytbganjcnhnkakaa", sum := "fb17e1cb6cbca6e6f97abec6c2eef80fef3a0a4603818c2bdd600d8c0d514579", func := "loop.example/g01401/laws.FnExactBallotChance", spec := "fnExactBallotChance", plainKeys := false, apart := false }
def FnExactBallotChanceSaid : Prop := fnExactBallotChanceRow.holds Try.pinned (OpenSpec.ofChange fnExactBallotChanceSpec)

/-- ITS FALSE NEIGHBOUR: 'it returns false'. Refute it at one input. -/
def fnExactBallotChanceWrong : ChangeSpec := { name := "fnExactBallotChance", fn := fun _ => fun
  | [d1, d2] => { results := [.lit (.bool false)], args := [d1, d2] }
  | _ => none }
def FnExactBallotChanceWrongFalsely : Prop := fnExactBallotChanceRow.holds Try.pinned (OpenSpec.ofChange fnExactBallotChanceWrong)

/-- 'laws.FnExactUrnMean': WHATEVER THE INPUT: true; the input reads as it did. -/
def fnExactUrnMeanSpec : ChangeSpec := { name := "fnExactUrnMean", fn := fun _ => fun
  | [d1, d2] => { results := [.lit (.bool true)], args := [d1, d2] }
  | _ => none }
def fnExactUrnMeanRow : OpenClaim := { program := "ytbganjcnhnkakaa", sum := "fb17e1cb6cbca6e6f97abec6c2eef80fef3a0a4603818c2bdd600d8c0d514579", func := "loop.example/g01401/laws.FnExactUrnMean", spec := "fnExactUrnMean", plainKeys := false, apart := false }
def FnExactUrnMeanSaid : Prop := fnExactUrnMeanRow.holds Try.pinned (OpenSpec.ofChange fnExactUrnMeanSpec)

/-- ITS FALSE NEIGHBOUR: 'it returns false'. Refute it at one input. -/
def fnExactUrnMeanWrong : ChangeSpec := { name := "fnExactUrnMean", fn := fun _ => fun
  | [d1, d2] => { results := [.lit (.bool false)], args := [d1, d2] }
  | _ => none }
def FnExactUrnMeanWrongFalsely : Prop := fnExactUrnMeanRow.holds Try.pinned (OpenSpec.ofChange fnExactUrnMeanWrong)

/-- 'laws.FnExactBallotWays': WHATEVER THE INPUT: true; the input reads as it did. -/
def fnExactBallotWaysSpec : ChangeSpec := { name := "fnExactBallotWays", fn := fun _ => fun
  | [d1, d2, d3] => { results := [.lit (.bool true)], args := [d1, d2, d3] }
  | _ => none }
def fnExactBallotWaysRow : OpenClaim := { program := "ytbganjcnhnkakaa", sum := "fb17e1cb6cbca6e6f97abec6c2eef80fef3a0a4603818c2bdd600d8c0d514579", func := "loop.example/g01401/laws.FnExactBallotWays", spec := "fnExactBallotWays", plainKeys := false, apart := false }
def FnExactBallotWaysSaid : Prop := fnExactBallotWaysRow.holds Try.pinned (OpenSpec.ofChange fnExactBallotWaysSpec)

/-- ITS FALSE NEIGHBOUR: 'it returns false'. Refute it at one input. -/
def fnExactBallotWaysWrong : ChangeSpec := { name := "fnExactBallotWays", fn := fun _ => fun
  | [d1, d2, d3] => { results := [.lit (.bool false)], args := [d1, d2, d3] }
  | _ => none }
def FnExactBallotWaysWrongFalsely : Prop := fnExactBallotWaysRow.holds Try.pinned (OpenSpec.ofChange fnExactBallotWaysWrong)

/-- 'laws.FnExactWinsTrick': WHATEVER THE INPUT: true; the input reads as it did. -/
def fnExactWinsTrickSpec : ChangeSpec := { name := "fnExactWinsTrick", fn := fun _ => fun
  | [d1, d2, d3] => { results := [.lit (.bool true)], args := [d1, d2, d3] }
  | _ => none }
def fnExactWinsTrickRow : OpenClaim := { program := "ytbganjcnhnkakaa", sum := "fb17e1cb6cbca6e6f97abec6c2eef80fef3a0a4603818c2bdd600d8c0d514579", func := "loop.example/g01401/laws.FnExactWinsTrick", spec := "fnExactWinsTrick", plainKeys := false, apart := false }
def FnExactWinsTrickSaid : Prop := fnExactWinsTrickRow.holds Try.pinned (OpenSpec.ofChange fnExactWinsTrickSpec)

/-- ITS FALSE NEIGHBOUR: 'it returns false'. Refute it at one input. -/
def fnExactWinsTrickWrong : ChangeSpec := { name := "fnExactWinsTrick", fn := fun _ => fun
  | [d1, d2, d3] => { results := [.lit (.bool false)], args := [d1, d2, d3] }
  | _ => none }
def FnExactWinsTrickWrongFalsely : Prop := fnExactWinsTrickRow.holds Try.pinned (OpenSpec.ofChange fnExactWinsTrickWrong)

/- THE SECOND FORM. 'bulk': how many values and letters a reading holds, each counted each time it is reached (what is shared counts as often as it is met; a slice's spare places count too). A statement '..UptoSaid' is the law's where the arguments, and the package variables that the reading takes, are together of bulk at most 1048576: NARROWER than '..Said'. Prove '..Said' where nothing that the law and all that it calls make is longer than what came in: it says more and counts as full. Else prove '..UptoSaid'. A law counts once. -/
mutual
def uptoBulk {H : Type} : DataW H → Nat
  | .lit (.string bytes) => bytes.length + 1
  | .lit _ => 1
  | .nil => 1
  | .ptr d => uptoBulk d + 1
  | .slice elems spare => uptoBulkAll elems + uptoBulkAll spare + 1
  | .agg parts => uptoBulkAll parts + 1
  | .iface _ d => uptoBulk d + 1
  | .map entries => uptoBulkEntries entries + 1
  | .held _ => 1
def uptoBulkAll {H : Type} : List (DataW H) → Nat
  | [] => 0
  | d :: r => uptoBulk d + uptoBulkAll r
def uptoBulkEntries {H : Type} : List (Lit × DataW H) → Nat
  | [] => 0
  | x :: r => uptoBulkEntry x + uptoBulkEntries r
def uptoBulkEntry {H : Type} : Lit × DataW H → Nat
  | (.string bytes, d) => bytes.length + uptoBulk d + 1
  | (_, d) => uptoBulk d + 1
 end
def uptoSmall : (H : Type) → List (DataW H) → Bool := fun _ ds => decide (uptoBulkAll ds ≤ 1048576)
def OpenSpec.upto (s : _root_.Go.ChangeSpec) : _root_.Go.OpenSpec := { _root_.Go.OpenSpec.ofChange s with cond := some uptoSmall }

/-- 'laws.FnExactBallotChance', WHERE WHAT IT READS IS OF BULK AT MOST 1048576: true; the input reads as it did. -/
def fnExactBallotChanceUptoRow : OpenClaim := { program := "ytbganjcnhnkakaa", sum := "fb17e1cb6cbca6e6f97abec6c2eef80fef3a0a4603818c2bdd600d8c0d514579", func := "loop.example/g01401/laws.FnExactBallotChance", spec := "fnExactBallotChance", plainKeys := false, apart := false, narrowed := true }
def FnExactBallotChanceUptoSaid : Prop := fnExactBallotChanceUptoRow.holds Try.pinned (OpenSpec.upto fnExactBallotChanceSpec)

/-- 'laws.FnExactUrnMean', WHERE WHAT IT READS IS OF BULK AT MOST 1048576: true; the input reads as it did. -/
def fnExactUrnMeanUptoRow : OpenClaim := { program := "ytbganjcnhnkakaa", sum := "fb17e1cb6cbca6e6f97abec6c2eef80fef3a0a4603818c2bdd600d8c0d514579", func := "loop.example/g01401/laws.FnExactUrnMean", spec := "fnExactUrnMean", plainKeys := false, apart := false, narrowed := true }
def FnExactUrnMeanUptoSaid : Prop := fnExactUrnMeanUptoRow.holds Try.pinned (OpenSpec.upto fnExactUrnMeanSpec)

/-- 'laws.FnExactBallotWays', WHERE WHAT IT READS IS OF BULK AT MOST 1048576: true; the input reads as it did. -/
def fnExactBallotWaysUptoRow : OpenClaim := { program := "ytbganjcnhnkakaa", sum := "fb17e1cb6cbca6e6f97abec6c2eef80fef3a0a4603818c2bdd600d8c0d514579", func := "loop.example/g01401/laws.FnExactBallotWays", spec := "fnExactBallotWays", plainKeys := false, apart := false, narrowed := true }
def FnExactBallotWaysUptoSaid : Prop := fnExactBallotWaysUptoRow.holds Try.pinned (OpenSpec.upto fnExactBallotWaysSpec)

/-- 'laws.FnExactWinsTrick', WHERE WHAT IT READS IS OF BULK AT MOST 1048576: true; the input reads as it did. -/
def fnExactWinsTrickUptoRow : OpenClaim := { program := "ytbganjcnhnkakaa", sum := "fb17e1cb6cbca6e6f97abec6c2eef80fef3a0a4603818c2bdd600d8c0d514579", func := "loop.example/g01401/laws.FnExactWinsTrick", spec := "fnExactWinsTrick", plainKeys := false, apart := false, narrowed := true }
def FnExactWinsTrickUptoSaid : Prop := fnExactWinsTrickUptoRow.holds Try.pinned (OpenSpec.upto fnExactWinsTrickSpec)

end Rows
end Go.Proofs.Ytbganjcnhnkakaa
