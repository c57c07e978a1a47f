/-
  No cell of these rows narrows 'for every input' (looked for: loops, veiled, ifaces, maps, wideKeys, modest, calm, conditions, laid).
  DERIVED. THE GIVEN ROWS OF THIS SEAT. 8 by the template 'for every input the law returns true; each argument reads behind the call as it read before'; 0 by the template 'total and deterministic' (their statements: YtkbeelbklganaaaTotals.lean).
  GIVEN WITH THE SEED: the statements are not yours to turn. If you find one false, say at which input.
  Laid BY PROGRAM, IN A SANDBOX (cutbox-rows.mjs): the forced cells as the released guide's own fill.sh prints them over the translation 2fd94cfe96af510a… (all of the seat's roots in one cut). By AI agents, Wed Nov 11 2026. No macro, syntax, notation, axiom, sorry.
-/
import Derived.Test.YtkbeelbklganaaaChecked
import GoSem.Claim
import GoSem.ClaimJoined
import GoSem.ClaimMapViews
import Derived.JoinedTies
import Derived.KernelRfl
namespace Go.Proofs.Ytkbeelbklganaaa
/- THE CELL 'sum', in the pinned program and in every row, IS THE sha256 OF THE DUMP (.gsa) THAT YtkbeelbklganaaaProg.lean LOADS. Nothing in Lean hashes anything: it is a label: what it is worth is what the hold of that sum in a sandbox is worth. -/
noncomputable def Try.pinned : Pinned := { name := "ytkbeelbklganaaa", sum := "2fd94cfe96af510a0885d6f4b31e695f9957a9bfa3ccb43c904485b202d940fa", checked := Try.checked }
namespace Rows
def none {H : Type} : Left H := { results := [], args := [] }

/-- 'laws.FnExactIsTileHand': WHATEVER THE INPUT: true; the input reads as it did. -/
def fnExactIsTileHandSpec : ChangeSpec := { name := "fnExactIsTileHand", fn := fun _ => fun
  | [d] => { results := [.lit (.bool true)], args := [d] }
  | _ => none }
def fnExactIsTileHandRow : OpenClaim := { program := "ytkbeelbklganaaa", sum := "2fd94cfe96af510a0885d6f4b31e695f9957a9bfa3ccb43c904485b202d940fa", func := "loop.example/g01401/laws.FnExactIsTileHand", spec := "fnExactIsTileHand", unfollowed := true, recurses := true, apart := false }
def FnExactIsTileHandSaid : Prop := fnExactIsTileHandRow.holds Try.pinned (OpenSpec.ofChange fnExactIsTileHandSpec)

/-- ITS FALSE NEIGHBOUR: 'it returns false'. Refute it at one input. -/
def fnExactIsTileHandWrong : ChangeSpec := { name := "fnExactIsTileHand", fn := fun _ => fun
  | [d] => { results := [.lit (.bool false)], args := [d] }
  | _ => none }
def FnExactIsTileHandWrongFalsely : Prop := fnExactIsTileHandRow.holds Try.pinned (OpenSpec.ofChange fnExactIsTileHandWrong)

/-- 'laws.FnExactSameTiles': WHATEVER THE INPUT: true; the input reads as it did. -/
def fnExactSameTilesSpec : ChangeSpec := { name := "fnExactSameTiles", fn := fun _ => fun
  | [d1, d2] => { results := [.lit (.bool true)], args := [d1, d2] }
  | _ => none }
def fnExactSameTilesRow : OpenClaim := { program := "ytkbeelbklganaaa", sum := "2fd94cfe96af510a0885d6f4b31e695f9957a9bfa3ccb43c904485b202d940fa", func := "loop.example/g01401/laws.FnExactSameTiles", spec := "fnExactSameTiles", apart := false }
def FnExactSameTilesSaid : Prop := fnExactSameTilesRow.holds Try.pinned (OpenSpec.ofChange fnExactSameTilesSpec)

/-- ITS FALSE NEIGHBOUR: 'it returns false'. Refute it at one input. -/
def fnExactSameTilesWrong : ChangeSpec := { name := "fnExactSameTiles", fn := fun _ => fun
  | [d1, d2] => { results := [.lit (.bool false)], args := [d1, d2] }
  | _ => none }
def FnExactSameTilesWrongFalsely : Prop := fnExactSameTilesRow.holds Try.pinned (OpenSpec.ofChange fnExactSameTilesWrong)

/-- 'laws.FnExactAreTiles': WHATEVER THE INPUT: true; the input reads as it did. -/
def fnExactAreTilesSpec : ChangeSpec := { name := "fnExactAreTiles", fn := fun _ => fun
  | [d] => { results := [.lit (.bool true)], args := [d] }
  | _ => none }
def fnExactAreTilesRow : OpenClaim := { program := "ytkbeelbklganaaa", sum := "2fd94cfe96af510a0885d6f4b31e695f9957a9bfa3ccb43c904485b202d940fa", func := "loop.example/g01401/laws.FnExactAreTiles", spec := "fnExactAreTiles", unfollowed := true, recurses := true, apart := false }
def FnExactAreTilesSaid : Prop := fnExactAreTilesRow.holds Try.pinned (OpenSpec.ofChange fnExactAreTilesSpec)

/-- ITS FALSE NEIGHBOUR: 'it returns false'. Refute it at one input. -/
def fnExactAreTilesWrong : ChangeSpec := { name := "fnExactAreTiles", fn := fun _ => fun
  | [d] => { results := [.lit (.bool false)], args := [d] }
  | _ => none }
def FnExactAreTilesWrongFalsely : Prop := fnExactAreTilesRow.holds Try.pinned (OpenSpec.ofChange fnExactAreTilesWrong)

/-- 'laws.FnExactAreHands': WHATEVER THE INPUT: true; the input reads as it did. -/
def fnExactAreHandsSpec : ChangeSpec := { name := "fnExactAreHands", fn := fun _ => fun
  | [d1, d2] => { results := [.lit (.bool true)], args := [d1, d2] }
  | _ => none }
def fnExactAreHandsRow : OpenClaim := { program := "ytkbeelbklganaaa", sum := "2fd94cfe96af510a0885d6f4b31e695f9957a9bfa3ccb43c904485b202d940fa", func := "loop.example/g01401/laws.FnExactAreHands", spec := "fnExactAreHands", apart := false }
def FnExactAreHandsSaid : Prop := fnExactAreHandsRow.holds Try.pinned (OpenSpec.ofChange fnExactAreHandsSpec)

/-- ITS FALSE NEIGHBOUR: 'it returns false'. Refute it at one input. -/
def fnExactAreHandsWrong : ChangeSpec := { name := "fnExactAreHands", fn := fun _ => fun
  | [d1, d2] => { results := [.lit (.bool false)], args := [d1, d2] }
  | _ => none }
def FnExactAreHandsWrongFalsely : Prop := fnExactAreHandsRow.holds Try.pinned (OpenSpec.ofChange fnExactAreHandsWrong)

/-- 'laws.FnExactClockDeal': WHATEVER THE INPUT: true; the input reads as it did. -/
def fnExactClockDealSpec : ChangeSpec := { name := "fnExactClockDeal", fn := fun _ => fun
  | [d1, d2] => { results := [.lit (.bool true)], args := [d1, d2] }
  | _ => none }
def fnExactClockDealRow : OpenClaim := { program := "ytkbeelbklganaaa", sum := "2fd94cfe96af510a0885d6f4b31e695f9957a9bfa3ccb43c904485b202d940fa", func := "loop.example/g01401/laws.FnExactClockDeal", spec := "fnExactClockDeal", apart := false }
def FnExactClockDealSaid : Prop := fnExactClockDealRow.holds Try.pinned (OpenSpec.ofChange fnExactClockDealSpec)

/-- ITS FALSE NEIGHBOUR: 'it returns false'. Refute it at one input. -/
def fnExactClockDealWrong : ChangeSpec := { name := "fnExactClockDeal", fn := fun _ => fun
  | [d1, d2] => { results := [.lit (.bool false)], args := [d1, d2] }
  | _ => none }
def FnExactClockDealWrongFalsely : Prop := fnExactClockDealRow.holds Try.pinned (OpenSpec.ofChange fnExactClockDealWrong)

/-- 'laws.FnExactPegMoves': WHATEVER THE INPUT: true; the input reads as it did. -/
def fnExactPegMovesSpec : ChangeSpec := { name := "fnExactPegMoves", fn := fun _ => fun
  | [d] => { results := [.lit (.bool true)], args := [d] }
  | _ => none }
def fnExactPegMovesRow : OpenClaim := { program := "ytkbeelbklganaaa", sum := "2fd94cfe96af510a0885d6f4b31e695f9957a9bfa3ccb43c904485b202d940fa", func := "loop.example/g01401/laws.FnExactPegMoves", spec := "fnExactPegMoves", apart := false }
def FnExactPegMovesSaid : Prop := fnExactPegMovesRow.holds Try.pinned (OpenSpec.ofChange fnExactPegMovesSpec)

/-- ITS FALSE NEIGHBOUR: 'it returns false'. Refute it at one input. -/
def fnExactPegMovesWrong : ChangeSpec := { name := "fnExactPegMoves", fn := fun _ => fun
  | [d] => { results := [.lit (.bool false)], args := [d] }
  | _ => none }
def FnExactPegMovesWrongFalsely : Prop := fnExactPegMovesRow.holds Try.pinned (OpenSpec.ofChange fnExactPegMovesWrong)

/-- 'laws.FnExactPegReach': WHATEVER THE INPUT: true; the input reads as it did. -/
def fnExactPegReachSpec : ChangeSpec := { name := "fnExactPegReach", fn := fun _ => fun
  | [d] => { results := [.lit (.bool true)], args := [d] }
  | _ => none }
def fnExactPegReachRow : OpenClaim := { program := "ytkbeelbklganaaa", sum := "2fd94cfe96af510a0885d6f4b31e695f9957a9bfa3ccb43c904485b202d940fa", func := "loop.example/g01401/laws.FnExactPegReach", spec := "fnExactPegReach", recurses := true, apart := false }
def FnExactPegReachSaid : Prop := fnExactPegReachRow.holds Try.pinned (OpenSpec.ofChange fnExactPegReachSpec)

/-- ITS FALSE NEIGHBOUR: 'it returns false'. Refute it at one input. -/
def fnExactPegReachWrong : ChangeSpec := { name := "fnExactPegReach", fn := fun _ => fun
  | [d] => { results := [.lit (.bool false)], args := [d] }
  | _ => none }
def FnExactPegReachWrongFalsely : Prop := fnExactPegReachRow.holds Try.pinned (OpenSpec.ofChange fnExactPegReachWrong)

/-- 'laws.FnExactPegLeast': WHATEVER THE INPUT: true; the input reads as it did. -/
def fnExactPegLeastSpec : ChangeSpec := { name := "fnExactPegLeast", fn := fun _ => fun
  | [d] => { results := [.lit (.bool true)], args := [d] }
  | _ => none }
def fnExactPegLeastRow : OpenClaim := { program := "ytkbeelbklganaaa", sum := "2fd94cfe96af510a0885d6f4b31e695f9957a9bfa3ccb43c904485b202d940fa", func := "loop.example/g01401/laws.FnExactPegLeast", spec := "fnExactPegLeast", recurses := true, apart := false }
def FnExactPegLeastSaid : Prop := fnExactPegLeastRow.holds Try.pinned (OpenSpec.ofChange fnExactPegLeastSpec)

/-- ITS FALSE NEIGHBOUR: 'it returns false'. Refute it at one input. -/
def fnExactPegLeastWrong : ChangeSpec := { name := "fnExactPegLeast", fn := fun _ => fun
  | [d] => { results := [.lit (.bool false)], args := [d] }
  | _ => none }
def FnExactPegLeastWrongFalsely : Prop := fnExactPegLeastRow.holds Try.pinned (OpenSpec.ofChange fnExactPegLeastWrong)

/- THE SECOND FORM. 'bulk': how many values and letters a reading holds, each counted each time it is reached (what is shared counts as often as it is met; a slice's spare places count too). A statement '..UptoSaid' is the law's where the arguments, and the package variables that the reading takes, are together of bulk at most 1048576: NARROWER than '..Said'. Prove '..Said' where nothing that the law and all that it calls make is longer than what came in: it says more and counts as full. Else prove '..UptoSaid'. A law counts once. -/
mutual
def uptoBulk {H : Type} : DataW H → Nat
  | .lit (.string bytes) => bytes.length + 1
  | .lit _ => 1
  | .nil => 1
  | .ptr d => uptoBulk d + 1
  | .slice elems spare => uptoBulkAll elems + uptoBulkAll spare + 1
  | .agg parts => uptoBulkAll parts + 1
  | .iface _ d => uptoBulk d + 1
  | .map entries => uptoBulkEntries entries + 1
  | .held _ => 1
def uptoBulkAll {H : Type} : List (DataW H) → Nat
  | [] => 0
  | d :: r => uptoBulk d + uptoBulkAll r
def uptoBulkEntries {H : Type} : List (Lit × DataW H) → Nat
  | [] => 0
  | x :: r => uptoBulkEntry x + uptoBulkEntries r
def uptoBulkEntry {H : Type} : Lit × DataW H → Nat
  | (.string bytes, d) => bytes.length + uptoBulk d + 1
  | (_, d) => uptoBulk d + 1
 end
def uptoSmall : (H : Type) → List (DataW H) → Bool := fun _ ds => decide (uptoBulkAll ds ≤ 1048576)
def OpenSpec.upto (s : _root_.Go.ChangeSpec) : _root_.Go.OpenSpec := { _root_.Go.OpenSpec.ofChange s with cond := some uptoSmall }

/-- 'laws.FnExactIsTileHand', WHERE WHAT IT READS IS OF BULK AT MOST 1048576: true; the input reads as it did. -/
def fnExactIsTileHandUptoRow : OpenClaim := { program := "ytkbeelbklganaaa", sum := "2fd94cfe96af510a0885d6f4b31e695f9957a9bfa3ccb43c904485b202d940fa", func := "loop.example/g01401/laws.FnExactIsTileHand", spec := "fnExactIsTileHand", unfollowed := true, recurses := true, apart := false, narrowed := true }
def FnExactIsTileHandUptoSaid : Prop := fnExactIsTileHandUptoRow.holds Try.pinned (OpenSpec.upto fnExactIsTileHandSpec)

/-- 'laws.FnExactSameTiles', WHERE WHAT IT READS IS OF BULK AT MOST 1048576: true; the input reads as it did. -/
def fnExactSameTilesUptoRow : OpenClaim := { program := "ytkbeelbklganaaa", sum := "2fd94cfe96af510a0885d6f4b31e695f9957a9bfa3ccb43c904485b202d940fa", func := "loop.example/g01401/laws.FnExactSameTiles", spec := "fnExactSameTiles", apart := false, narrowed := true }
def FnExactSameTilesUptoSaid : Prop := fnExactSameTilesUptoRow.holds Try.pinned (OpenSpec.upto fnExactSameTilesSpec)

/-- 'laws.FnExactAreTiles', WHERE WHAT IT READS IS OF BULK AT MOST 1048576: true; the input reads as it did. -/
def fnExactAreTilesUptoRow : OpenClaim := { program := "ytkbeelbklganaaa", sum := "2fd94cfe96af510a0885d6f4b31e695f9957a9bfa3ccb43c904485b202d940fa", func := "loop.example/g01401/laws.FnExactAreTiles", spec := "fnExactAreTiles", unfollowed := true, recurses := true, apart := false, narrowed := true }
def FnExactAreTilesUptoSaid : Prop := fnExactAreTilesUptoRow.holds Try.pinned (OpenSpec.upto fnExactAreTilesSpec)

/-- 'laws.FnExactAreHands', WHERE WHAT IT READS IS OF BULK AT MOST 1048576: true; the input reads as it did. -/
def fnExactAreHandsUptoRow : OpenClaim := { program := "ytkbeelbklganaaa", sum := "2fd94cfe96af510a0885d6f4b31e695f9957a9bfa3ccb43c904485b202d940fa", func := "loop.example/g01401/laws.FnExactAreHands", spec := "fnExactAreHands", apart := false, narrowed := true }
def FnExactAreHandsUptoSaid : Prop := fnExactAreHandsUptoRow.holds Try.pinned (OpenSpec.upto fnExactAreHandsSpec)

/-- 'laws.FnExactClockDeal', WHERE WHAT IT READS IS OF BULK AT MOST 1048576: true; the input reads as it did. -/
def fnExactClockDealUptoRow : OpenClaim := { program := "ytkbeelbklganaaa", sum := "2fd94cfe96af510a0885d6f4b31e695f9957a9bfa3ccb43c904485b202d940fa", func := "loop.example/g01401/laws.FnExactClockDeal", spec := "fnExactClockDeal", apart := false, narrowed := true }
def FnExactClockDealUptoSaid : Prop := fnExactClockDealUptoRow.holds Try.pinned (OpenSpec.upto fnExactClockDealSpec)

/-- 'laws.FnExactPegMoves', WHERE WHAT IT READS IS OF BULK AT MOST 1048576: true; the input reads as it did. -/
def fnExactPegMovesUptoRow : OpenClaim := { program := "ytkbeelbklganaaa", sum := "2fd94cfe96af510a0885d6f4b31e695f9957a9bfa3ccb43c904485b202d940fa", func := "loop.example/g01401/laws.FnExactPegMoves", spec := "fnExactPegMoves", apart := false, narrowed := true }
def FnExactPegMovesUptoSaid : Prop := fnExactPegMovesUptoRow.holds Try.pinned (OpenSpec.upto fnExactPegMovesSpec)

/-- 'laws.FnExactPegReach', WHERE WHAT IT READS IS OF BULK AT MOST 1048576: true; the input reads as it did. -/
def fnExactPegReachUptoRow : OpenClaim := { program := "ytkbeelbklganaaa", sum := "2fd94cfe96af510a0885d6f4b31e695f9957a9bfa3ccb43c904485b202d940fa", func := "loop.example/g01401/laws.FnExactPegReach", spec := "fnExactPegReach", recurses := true, apart := false, narrowed := true }
def FnExactPegReachUptoSaid : Prop := fnExactPegReachUptoRow.holds Try.pinned (OpenSpec.upto fnExactPegReachSpec)

/-- 'laws.FnExactPegLeast', WHERE WHAT IT READS IS OF BULK AT MOST 1048576: true; the input reads as it did. -/
def fnExactPegLeastUptoRow : OpenClaim := { program := "ytkbeelbklganaaa", sum := "2fd94cfe96af510a0885d6f4b31e695f9957a9bfa3ccb43c904485b202d940fa", func := "loop.example/g01401/laws.FnExactPegLeast", spec := "fnExactPegLeast", recurses := true, apart := false, narrowed := true }
def FnExactPegLeastUptoSaid : Prop := fnExactPegLeastUptoRow.holds Try.pinned (OpenSpec.upto fnExactPegLeastSpec)

end Rows
end Go.Proofs.Ytkbeelbklganaaa
