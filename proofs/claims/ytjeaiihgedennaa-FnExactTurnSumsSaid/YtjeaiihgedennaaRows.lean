/-
  No cell of these rows narrows 'for every input' (looked for: loops, veiled, ifaces, maps, wideKeys, modest, calm, conditions, laid).
  DERIVED. THE GIVEN ROWS OF THIS SEAT. 5 by the template 'for every input the law returns true; each argument reads behind the call as it read before'; 0 by the template 'total and deterministic' (their statements: YtjeaiihgedennaaTotals.lean).
  GIVEN WITH THE SEED: the statements are not yours to turn. If you find one false, say at which input.
  Laid BY PROGRAM, IN A SANDBOX (cutbox-rows.mjs): the forced cells as the released guide's own fill.sh prints them over the translation 5e3a63769677963f… (all of the seat's roots in one cut). By AI agents, Wed Nov 11 2026. No macro, syntax, notation, axiom, sorry.
-/
import Derived.Test.YtjeaiihgedennaaChecked
import GoSem.Claim
import GoSem.ClaimJoined
import GoSem.ClaimMapViews
import Derived.JoinedTies
import Derived.KernelRfl
namespace Go.Proofs.Ytjeaiihgedennaa
/- THE CELL 'sum', in the pinned program and in every row, IS THE sha256 OF THE DUMP (.gsa) THAT YtjeaiihgedennaaProg.lean LOADS. Nothing in Lean hashes anything: it is a label: what it is worth is what the hold of that sum in a sandbox is worth. -/
noncomputable def Try.pinned : Pinned := { name := "ytjeaiihgedennaa", sum := "5e3a63769677963f9c07b5d706a4dc39fefef78e8acfd29e4c58d0d8a02579cf", checked := Try.checked }
namespace Rows
def none {H : Type} : Left H := { results := [], args := [] }

/-- 'laws.FnExactBestShare': WHATEVER THE INPUT: true; the input reads as it did. -/
def fnExactBestShareSpec : ChangeSpec := { name := "fnExactBestShare", fn := fun _ => fun
  | [d1, d2] => { results := [.lit (.bool true)], args := [d1, d2] }
  | _ => none }
def fnExactBestShareRow : OpenClaim := { program := "ytjeaiihgedennaa", sum := "5e3a63769677963f9c07b5d706a4dc39fefef78e8acfd29e4c58d0d8a02579cf", func := "loop.example/g01401/laws.FnExactBestShare", spec := "fnExactBestShare", apart := false }
def FnExactBestShareSaid : Prop := fnExactBestShareRow.holds Try.pinned (OpenSpec.ofChange fnExactBestShareSpec)

/-- ITS FALSE NEIGHBOUR: 'it returns false'. Refute it at one input. -/
def fnExactBestShareWrong : ChangeSpec := { name := "fnExactBestShare", fn := fun _ => fun
  | [d1, d2] => { results := [.lit (.bool false)], args := [d1, d2] }
  | _ => none }
def FnExactBestShareWrongFalsely : Prop := fnExactBestShareRow.holds Try.pinned (OpenSpec.ofChange fnExactBestShareWrong)

/-- 'laws.FnExactGrowthOf': WHATEVER THE INPUT: true; the input reads as it did. -/
def fnExactGrowthOfSpec : ChangeSpec := { name := "fnExactGrowthOf", fn := fun _ => fun
  | [d1, d2, d3] => { results := [.lit (.bool true)], args := [d1, d2, d3] }
  | _ => none }
def fnExactGrowthOfRow : OpenClaim := { program := "ytjeaiihgedennaa", sum := "5e3a63769677963f9c07b5d706a4dc39fefef78e8acfd29e4c58d0d8a02579cf", func := "loop.example/g01401/laws.FnExactGrowthOf", spec := "fnExactGrowthOf", inPlace := ["math.Float64frombits", "math.Float64bits"], apart := false }
def FnExactGrowthOfSaid : Prop := fnExactGrowthOfRow.holds Try.pinned (OpenSpec.ofChange fnExactGrowthOfSpec)

/-- ITS FALSE NEIGHBOUR: 'it returns false'. Refute it at one input. -/
def fnExactGrowthOfWrong : ChangeSpec := { name := "fnExactGrowthOf", fn := fun _ => fun
  | [d1, d2, d3] => { results := [.lit (.bool false)], args := [d1, d2, d3] }
  | _ => none }
def FnExactGrowthOfWrongFalsely : Prop := fnExactGrowthOfRow.holds Try.pinned (OpenSpec.ofChange fnExactGrowthOfWrong)

/-- 'laws.FnGrown': WHATEVER THE INPUT: true; the input reads as it did. -/
def fnGrownSpec : ChangeSpec := { name := "fnGrown", fn := fun _ => fun
  | [d1, d2] => { results := [.lit (.bool true)], args := [d1, d2] }
  | _ => none }
def fnGrownRow : OpenClaim := { program := "ytjeaiihgedennaa", sum := "5e3a63769677963f9c07b5d706a4dc39fefef78e8acfd29e4c58d0d8a02579cf", func := "loop.example/g01401/laws.FnGrown", spec := "fnGrown", inPlace := ["math.Float64frombits"], apart := false }
def FnGrownSaid : Prop := fnGrownRow.holds Try.pinned (OpenSpec.ofChange fnGrownSpec)

/-- ITS FALSE NEIGHBOUR: 'it returns false'. Refute it at one input. -/
def fnGrownWrong : ChangeSpec := { name := "fnGrown", fn := fun _ => fun
  | [d1, d2] => { results := [.lit (.bool false)], args := [d1, d2] }
  | _ => none }
def FnGrownWrongFalsely : Prop := fnGrownRow.holds Try.pinned (OpenSpec.ofChange fnGrownWrong)

/-- 'laws.FnExactTurnSums': WHATEVER THE INPUT: true; the input reads as it did. -/
def fnExactTurnSumsSpec : ChangeSpec := { name := "fnExactTurnSums", fn := fun _ => fun
  | [d] => { results := [.lit (.bool true)], args := [d] }
  | _ => none }
def fnExactTurnSumsRow : OpenClaim := { program := "ytjeaiihgedennaa", sum := "5e3a63769677963f9c07b5d706a4dc39fefef78e8acfd29e4c58d0d8a02579cf", func := "loop.example/g01401/laws.FnExactTurnSums", spec := "fnExactTurnSums", inPlace := ["math.Float32frombits", "math.Float64frombits", "math.Float64bits", "math.archTrunc"], unfollowed := true, recurses := true, apart := false }
def FnExactTurnSumsSaid : Prop := fnExactTurnSumsRow.holds Try.pinned (OpenSpec.ofChange fnExactTurnSumsSpec)

/-- ITS FALSE NEIGHBOUR: 'it returns false'. Refute it at one input. -/
def fnExactTurnSumsWrong : ChangeSpec := { name := "fnExactTurnSums", fn := fun _ => fun
  | [d] => { results := [.lit (.bool false)], args := [d] }
  | _ => none }
def FnExactTurnSumsWrongFalsely : Prop := fnExactTurnSumsRow.holds Try.pinned (OpenSpec.ofChange fnExactTurnSumsWrong)

/-- 'laws.FnExactTestCounts': WHATEVER THE INPUT: true; the input reads as it did. -/
def fnExactTestCountsSpec : ChangeSpec := { name := "fnExactTestCounts", fn := fun _ => fun
  | [d1, d2] => { results := [.lit (.bool true)], args := [d1, d2] }
  | _ => none }
def fnExactTestCountsRow : OpenClaim := { program := "ytjeaiihgedennaa", sum := "5e3a63769677963f9c07b5d706a4dc39fefef78e8acfd29e4c58d0d8a02579cf", func := "loop.example/g01401/laws.FnExactTestCounts", spec := "fnExactTestCounts", apart := false }
def FnExactTestCountsSaid : Prop := fnExactTestCountsRow.holds Try.pinned (OpenSpec.ofChange fnExactTestCountsSpec)

/-- ITS FALSE NEIGHBOUR: 'it returns false'. Refute it at one input. -/
def fnExactTestCountsWrong : ChangeSpec := { name := "fnExactTestCounts", fn := fun _ => fun
  | [d1, d2] => { results := [.lit (.bool false)], args := [d1, d2] }
  | _ => none }
def FnExactTestCountsWrongFalsely : Prop := fnExactTestCountsRow.holds Try.pinned (OpenSpec.ofChange fnExactTestCountsWrong)

/- THE SECOND FORM. 'bulk': how many values and letters a reading holds, each counted each time it is reached (what is shared counts as often as it is met; a slice's spare places count too). A statement '..UptoSaid' is the law's where the arguments, and the package variables that the reading takes, are together of bulk at most 1048576: NARROWER than '..Said'. Prove '..Said' where nothing that the law and all that it calls make is longer than what came in: it says more and counts as full. Else prove '..UptoSaid'. A law counts once. -/
mutual
def uptoBulk {H : Type} : DataW H → Nat
  | .lit (.string bytes) => bytes.length + 1
  | .lit _ => 1
  | .nil => 1
  | .ptr d => uptoBulk d + 1
  | .slice elems spare => uptoBulkAll elems + uptoBulkAll spare + 1
  | .agg parts => uptoBulkAll parts + 1
  | .iface _ d => uptoBulk d + 1
  | .map entries => uptoBulkEntries entries + 1
  | .held _ => 1
def uptoBulkAll {H : Type} : List (DataW H) → Nat
  | [] => 0
  | d :: r => uptoBulk d + uptoBulkAll r
def uptoBulkEntries {H : Type} : List (Lit × DataW H) → Nat
  | [] => 0
  | x :: r => uptoBulkEntry x + uptoBulkEntries r
def uptoBulkEntry {H : Type} : Lit × DataW H → Nat
  | (.string bytes, d) => bytes.length + uptoBulk d + 1
  | (_, d) => uptoBulk d + 1
 end
def uptoSmall : (H : Type) → List (DataW H) → Bool := fun _ ds => decide (uptoBulkAll ds ≤ 1048576)
def OpenSpec.upto (s : _root_.Go.ChangeSpec) : _root_.Go.OpenSpec := { _root_.Go.OpenSpec.ofChange s with cond := some uptoSmall }

/-- 'laws.FnExactBestShare', WHERE WHAT IT READS IS OF BULK AT MOST 1048576: true; the input reads as it did. -/
def fnExactBestShareUptoRow : OpenClaim := { program := "ytjeaiihgedennaa", sum := "5e3a63769677963f9c07b5d706a4dc39fefef78e8acfd29e4c58d0d8a02579cf", func := "loop.example/g01401/laws.FnExactBestShare", spec := "fnExactBestShare", apart := false, narrowed := true }
def FnExactBestShareUptoSaid : Prop := fnExactBestShareUptoRow.holds Try.pinned (OpenSpec.upto fnExactBestShareSpec)

/-- 'laws.FnExactGrowthOf', WHERE WHAT IT READS IS OF BULK AT MOST 1048576: true; the input reads as it did. -/
def fnExactGrowthOfUptoRow : OpenClaim := { program := "ytjeaiihgedennaa", sum := "5e3a63769677963f9c07b5d706a4dc39fefef78e8acfd29e4c58d0d8a02579cf", func := "loop.example/g01401/laws.FnExactGrowthOf", spec := "fnExactGrowthOf", inPlace := ["math.Float64frombits", "math.Float64bits"], apart := false, narrowed := true }
def FnExactGrowthOfUptoSaid : Prop := fnExactGrowthOfUptoRow.holds Try.pinned (OpenSpec.upto fnExactGrowthOfSpec)

/-- 'laws.FnGrown', WHERE WHAT IT READS IS OF BULK AT MOST 1048576: true; the input reads as it did. -/
def fnGrownUptoRow : OpenClaim := { program := "ytjeaiihgedennaa", sum := "5e3a63769677963f9c07b5d706a4dc39fefef78e8acfd29e4c58d0d8a02579cf", func := "loop.example/g01401/laws.FnGrown", spec := "fnGrown", inPlace := ["math.Float64frombits"], apart := false, narrowed := true }
def FnGrownUptoSaid : Prop := fnGrownUptoRow.holds Try.pinned (OpenSpec.upto fnGrownSpec)

/-- 'laws.FnExactTurnSums', WHERE WHAT IT READS IS OF BULK AT MOST 1048576: true; the input reads as it did. -/
def fnExactTurnSumsUptoRow : OpenClaim := { program := "ytjeaiihgedennaa", sum := "5e3a63769677963f9c07b5d706a4dc39fefef78e8acfd29e4c58d0d8a02579cf", func := "loop.example/g01401/laws.FnExactTurnSums", spec := "fnExactTurnSums", inPlace := ["math.Float32frombits", "math.Float64frombits", "math.Float64bits", "math.archTrunc"], unfollowed := true, recurses := true, apart := false, narrowed := true }
def FnExactTurnSumsUptoSaid : Prop := fnExactTurnSumsUptoRow.holds Try.pinned (OpenSpec.upto fnExactTurnSumsSpec)

/-- 'laws.FnExactTestCounts', WHERE WHAT IT READS IS OF BULK AT MOST 1048576: true; the input reads as it did. -/
def fnExactTestCountsUptoRow : OpenClaim := { program := "ytjeaiihgedennaa", sum := "5e3a63769677963f9c07b5d706a4dc39fefef78e8acfd29e4c58d0d8a02579cf", func := "loop.example/g01401/laws.FnExactTestCounts", spec := "fnExactTestCounts", apart := false, narrowed := true }
def FnExactTestCountsUptoSaid : Prop := fnExactTestCountsUptoRow.holds Try.pinned (OpenSpec.upto fnExactTestCountsSpec)

end Rows
end Go.Proofs.Ytjeaiihgedennaa
