/-
  No cell of these rows narrows 'for every input' (looked for: loops, veiled, ifaces, maps, wideKeys, modest, calm, conditions, laid).
  DERIVED. THE GIVEN ROWS OF THIS SEAT. 8 by the template 'for every input the law returns true; each argument reads behind the call as it read before'; 0 by the template 'total and deterministic' (their statements: YtajpieblbijciaaTotals.lean).
  GIVEN WITH THE SEED: the statements are not yours to turn. If you find one false, say at which input.
  Laid BY PROGRAM, IN A SANDBOX (cutbox-rows.mjs): the forced cells as the released guide's own fill.sh prints them over the translation 8bd0046e7a6b02f6… (all of the seat's roots in one cut). By AI agents, Wed Nov 11 2026. No macro, syntax, notation, axiom, sorry.
-/
import Derived.Test.YtajpieblbijciaaChecked
import GoSem.Claim
import GoSem.ClaimJoined
import GoSem.ClaimMapViews
import Derived.JoinedTies
import Derived.KernelRfl
namespace Go.Proofs.Ytajpieblbijciaa
/- THE CELL 'sum', in the pinned program and in every row, IS THE sha256 OF THE DUMP (.gsa) THAT YtajpieblbijciaaProg.lean LOADS. Nothing in Lean hashes anything: it is a label: what it is worth is what the hold of that sum in a sandbox is worth. -/
noncomputable def Try.pinned : Pinned := { name := "ytajpieblbijciaa", sum := "8bd0046e7a6b02f6040603cc288c8ba70991aba79a07c3855fb236ae16d015a4", checked := Try.checked }
namespace Rows
def none {H : Type} : Left H := { results := [], args := [] }

/-- 'laws.FnExactStreakCount': WHATEVER THE INPUT: true; the input reads as it did. -/
def fnExactStreakCountSpec : ChangeSpec := { name := "fnExactStreakCount", fn := fun _ => fun
  | [d1, d2] => { results := [.lit (.bool true)], args := [d1, d2] }
  | _ => none }
def fnExactStreakCountRow : OpenClaim := { program := "ytajpieblbijciaa", sum := "8bd0046e7a6b02f6040603cc288c8ba70991aba79a07c3855fb236ae16d015a4", func := "loop.example/g01401/laws.FnExactStreakCount", spec := "fnExactStreakCount", apart := false }
def FnExactStreakCountSaid : Prop := fnExactStreakCountRow.holds Try.pinned (OpenSpec.ofChange fnExactStreakCountSpec)

/-- ITS FALSE NEIGHBOUR: 'it returns false'. Refute it at one input. -/
def fnExactStreakCountWrong : ChangeSpec := { name := "fnExactStreakCount", fn := fun _ => fun
  | [d1, d2] => { results := [.lit (.bool false)], args := [d1, d2] }
  | _ => none }
def FnExactStreakCountWrongFalsely : Prop := fnExactStreakCountRow.holds Try.pinned (OpenSpec.ofChange fnExactStreakCountWrong)

/-- 'laws.FnExactStreakCounts': WHATEVER THE INPUT: true; the input reads as it did. -/
def fnExactStreakCountsSpec : ChangeSpec := { name := "fnExactStreakCounts", fn := fun _ => fun
  | [d] => { results := [.lit (.bool true)], args := [d] }
  | _ => none }
def fnExactStreakCountsRow : OpenClaim := { program := "ytajpieblbijciaa", sum := "8bd0046e7a6b02f6040603cc288c8ba70991aba79a07c3855fb236ae16d015a4", func := "loop.example/g01401/laws.FnExactStreakCounts", spec := "fnExactStreakCounts", apart := false }
def FnExactStreakCountsSaid : Prop := fnExactStreakCountsRow.holds Try.pinned (OpenSpec.ofChange fnExactStreakCountsSpec)

/-- ITS FALSE NEIGHBOUR: 'it returns false'. Refute it at one input. -/
def fnExactStreakCountsWrong : ChangeSpec := { name := "fnExactStreakCounts", fn := fun _ => fun
  | [d] => { results := [.lit (.bool false)], args := [d] }
  | _ => none }
def FnExactStreakCountsWrongFalsely : Prop := fnExactStreakCountsRow.holds Try.pinned (OpenSpec.ofChange fnExactStreakCountsWrong)

/-- 'laws.FnExactCouponCounts': WHATEVER THE INPUT: true; the input reads as it did. -/
def fnExactCouponCountsSpec : ChangeSpec := { name := "fnExactCouponCounts", fn := fun _ => fun
  | [d1, d2] => { results := [.lit (.bool true)], args := [d1, d2] }
  | _ => none }
def fnExactCouponCountsRow : OpenClaim := { program := "ytajpieblbijciaa", sum := "8bd0046e7a6b02f6040603cc288c8ba70991aba79a07c3855fb236ae16d015a4", func := "loop.example/g01401/laws.FnExactCouponCounts", spec := "fnExactCouponCounts", apart := false }
def FnExactCouponCountsSaid : Prop := fnExactCouponCountsRow.holds Try.pinned (OpenSpec.ofChange fnExactCouponCountsSpec)

/-- ITS FALSE NEIGHBOUR: 'it returns false'. Refute it at one input. -/
def fnExactCouponCountsWrong : ChangeSpec := { name := "fnExactCouponCounts", fn := fun _ => fun
  | [d1, d2] => { results := [.lit (.bool false)], args := [d1, d2] }
  | _ => none }
def FnExactCouponCountsWrongFalsely : Prop := fnExactCouponCountsRow.holds Try.pinned (OpenSpec.ofChange fnExactCouponCountsWrong)

/-- 'laws.FnExactPurseRow': WHATEVER THE INPUT: true; the input reads as it did. -/
def fnExactPurseRowSpec : ChangeSpec := { name := "fnExactPurseRow", fn := fun _ => fun
  | [d1, d2, d3, d4, d5] => { results := [.lit (.bool true)], args := [d1, d2, d3, d4, d5] }
  | _ => none }
def fnExactPurseRowRow : OpenClaim := { program := "ytajpieblbijciaa", sum := "8bd0046e7a6b02f6040603cc288c8ba70991aba79a07c3855fb236ae16d015a4", func := "loop.example/g01401/laws.FnExactPurseRow", spec := "fnExactPurseRow", apart := false }
def FnExactPurseRowSaid : Prop := fnExactPurseRowRow.holds Try.pinned (OpenSpec.ofChange fnExactPurseRowSpec)

/-- ITS FALSE NEIGHBOUR: 'it returns false'. Refute it at one input. -/
def fnExactPurseRowWrong : ChangeSpec := { name := "fnExactPurseRow", fn := fun _ => fun
  | [d1, d2, d3, d4, d5] => { results := [.lit (.bool false)], args := [d1, d2, d3, d4, d5] }
  | _ => none }
def FnExactPurseRowWrongFalsely : Prop := fnExactPurseRowRow.holds Try.pinned (OpenSpec.ofChange fnExactPurseRowWrong)

/-- 'laws.FnExactSplitValues': WHATEVER THE INPUT: true; the input reads as it did. -/
def fnExactSplitValuesSpec : ChangeSpec := { name := "fnExactSplitValues", fn := fun _ => fun
  | [d] => { results := [.lit (.bool true)], args := [d] }
  | _ => none }
def fnExactSplitValuesRow : OpenClaim := { program := "ytajpieblbijciaa", sum := "8bd0046e7a6b02f6040603cc288c8ba70991aba79a07c3855fb236ae16d015a4", func := "loop.example/g01401/laws.FnExactSplitValues", spec := "fnExactSplitValues", apart := false }
def FnExactSplitValuesSaid : Prop := fnExactSplitValuesRow.holds Try.pinned (OpenSpec.ofChange fnExactSplitValuesSpec)

/-- ITS FALSE NEIGHBOUR: 'it returns false'. Refute it at one input. -/
def fnExactSplitValuesWrong : ChangeSpec := { name := "fnExactSplitValues", fn := fun _ => fun
  | [d] => { results := [.lit (.bool false)], args := [d] }
  | _ => none }
def FnExactSplitValuesWrongFalsely : Prop := fnExactSplitValuesRow.holds Try.pinned (OpenSpec.ofChange fnExactSplitValuesWrong)

/-- 'laws.FnExactTakeValues': WHATEVER THE INPUT: true; the input reads as it did. -/
def fnExactTakeValuesSpec : ChangeSpec := { name := "fnExactTakeValues", fn := fun _ => fun
  | [d1, d2] => { results := [.lit (.bool true)], args := [d1, d2] }
  | _ => none }
def fnExactTakeValuesRow : OpenClaim := { program := "ytajpieblbijciaa", sum := "8bd0046e7a6b02f6040603cc288c8ba70991aba79a07c3855fb236ae16d015a4", func := "loop.example/g01401/laws.FnExactTakeValues", spec := "fnExactTakeValues", apart := false }
def FnExactTakeValuesSaid : Prop := fnExactTakeValuesRow.holds Try.pinned (OpenSpec.ofChange fnExactTakeValuesSpec)

/-- ITS FALSE NEIGHBOUR: 'it returns false'. Refute it at one input. -/
def fnExactTakeValuesWrong : ChangeSpec := { name := "fnExactTakeValues", fn := fun _ => fun
  | [d1, d2] => { results := [.lit (.bool false)], args := [d1, d2] }
  | _ => none }
def FnExactTakeValuesWrongFalsely : Prop := fnExactTakeValuesRow.holds Try.pinned (OpenSpec.ofChange fnExactTakeValuesWrong)

/-- 'laws.FnExactHeapMove': WHATEVER THE INPUT: true; the input reads as it did. -/
def fnExactHeapMoveSpec : ChangeSpec := { name := "fnExactHeapMove", fn := fun _ => fun
  | [d1, d2] => { results := [.lit (.bool true)], args := [d1, d2] }
  | _ => none }
def fnExactHeapMoveRow : OpenClaim := { program := "ytajpieblbijciaa", sum := "8bd0046e7a6b02f6040603cc288c8ba70991aba79a07c3855fb236ae16d015a4", func := "loop.example/g01401/laws.FnExactHeapMove", spec := "fnExactHeapMove", unfollowed := true, recurses := true, apart := false }
def FnExactHeapMoveSaid : Prop := fnExactHeapMoveRow.holds Try.pinned (OpenSpec.ofChange fnExactHeapMoveSpec)

/-- ITS FALSE NEIGHBOUR: 'it returns false'. Refute it at one input. -/
def fnExactHeapMoveWrong : ChangeSpec := { name := "fnExactHeapMove", fn := fun _ => fun
  | [d1, d2] => { results := [.lit (.bool false)], args := [d1, d2] }
  | _ => none }
def FnExactHeapMoveWrongFalsely : Prop := fnExactHeapMoveRow.holds Try.pinned (OpenSpec.ofChange fnExactHeapMoveWrong)

/-- 'laws.FnHeaps': WHATEVER THE INPUT: true; the input reads as it did. -/
def fnHeapsSpec : ChangeSpec := { name := "fnHeaps", fn := fun _ => fun
  | [d1, d2] => { results := [.lit (.bool true)], args := [d1, d2] }
  | _ => none }
def fnHeapsRow : OpenClaim := { program := "ytajpieblbijciaa", sum := "8bd0046e7a6b02f6040603cc288c8ba70991aba79a07c3855fb236ae16d015a4", func := "loop.example/g01401/laws.FnHeaps", spec := "fnHeaps", unfollowed := true, recurses := true, apart := false }
def FnHeapsSaid : Prop := fnHeapsRow.holds Try.pinned (OpenSpec.ofChange fnHeapsSpec)

/-- ITS FALSE NEIGHBOUR: 'it returns false'. Refute it at one input. -/
def fnHeapsWrong : ChangeSpec := { name := "fnHeaps", fn := fun _ => fun
  | [d1, d2] => { results := [.lit (.bool false)], args := [d1, d2] }
  | _ => none }
def FnHeapsWrongFalsely : Prop := fnHeapsRow.holds Try.pinned (OpenSpec.ofChange fnHeapsWrong)

/- THE SECOND FORM. 'bulk': how many values and letters a reading holds, each counted each time it is reached (what is shared counts as often as it is met; a slice's spare places count too). A statement '..UptoSaid' is the law's where the arguments, and the package variables that the reading takes, are together of bulk at most 1048576: NARROWER than '..Said'. Prove '..Said' where nothing that the law and all that it calls make is longer than what came in: it says more and counts as full. Else prove '..UptoSaid'. A law counts once. -/
mutual
def uptoBulk {H : Type} : DataW H → Nat
  | .lit (.string bytes) => bytes.length + 1
  | .lit _ => 1
  | .nil => 1
  | .ptr d => uptoBulk d + 1
  | .slice elems spare => uptoBulkAll elems + uptoBulkAll spare + 1
  | .agg parts => uptoBulkAll parts + 1
  | .iface _ d => uptoBulk d + 1
  | .map entries => uptoBulkEntries entries + 1
  | .held _ => 1
def uptoBulkAll {H : Type} : List (DataW H) → Nat
  | [] => 0
  | d :: r => uptoBulk d + uptoBulkAll r
def uptoBulkEntries {H : Type} : List (Lit × DataW H) → Nat
  | [] => 0
  | x :: r => uptoBulkEntry x + uptoBulkEntries r
def uptoBulkEntry {H : Type} : Lit × DataW H → Nat
  | (.string bytes, d) => bytes.length + uptoBulk d + 1
  | (_, d) => uptoBulk d + 1
 end
def uptoSmall : (H : Type) → List (DataW H) → Bool := fun _ ds => decide (uptoBulkAll ds ≤ 1048576)
def OpenSpec.upto (s : _root_.Go.ChangeSpec) : _root_.Go.OpenSpec := { _root_.Go.OpenSpec.ofChange s with cond := some uptoSmall }

/-- 'laws.FnExactStreakCount', WHERE WHAT IT READS IS OF BULK AT MOST 1048576: true; the input reads as it did. -/
def fnExactStreakCountUptoRow : OpenClaim := { program := "ytajpieblbijciaa", sum := "8bd0046e7a6b02f6040603cc288c8ba70991aba79a07c3855fb236ae16d015a4", func := "loop.example/g01401/laws.FnExactStreakCount", spec := "fnExactStreakCount", apart := false, narrowed := true }
def FnExactStreakCountUptoSaid : Prop := fnExactStreakCountUptoRow.holds Try.pinned (OpenSpec.upto fnExactStreakCountSpec)

/-- 'laws.FnExactStreakCounts', WHERE WHAT IT READS IS OF BULK AT MOST 1048576: true; the input reads as it did. -/
def fnExactStreakCountsUptoRow : OpenClaim := { program := "ytajpieblbijciaa", sum := "8bd0046e7a6b02f6040603cc288c8ba70991aba79a07c3855fb236ae16d015a4", func := "loop.example/g01401/laws.FnExactStreakCounts", spec := "fnExactStreakCounts", apart := false, narrowed := true }
def FnExactStreakCountsUptoSaid : Prop := fnExactStreakCountsUptoRow.holds Try.pinned (OpenSpec.upto fnExactStreakCountsSpec)

/-- 'laws.FnExactCouponCounts', WHERE WHAT IT READS IS OF BULK AT MOST 1048576: true; the input reads as it did. -/
def fnExactCouponCountsUptoRow : OpenClaim := { program := "ytajpieblbijciaa", sum := "8bd0046e7a6b02f6040603cc288c8ba70991aba79a07c3855fb236ae16d015a4", func := "loop.example/g01401/laws.FnExactCouponCounts", spec := "fnExactCouponCounts", apart := false, narrowed := true }
def FnExactCouponCountsUptoSaid : Prop := fnExactCouponCountsUptoRow.holds Try.pinned (OpenSpec.upto fnExactCouponCountsSpec)

/-- 'laws.FnExactPurseRow', WHERE WHAT IT READS IS OF BULK AT MOST 1048576: true; the input reads as it did. -/
def fnExactPurseRowUptoRow : OpenClaim := { program := "ytajpieblbijciaa", sum := "8bd0046e7a6b02f6040603cc288c8ba70991aba79a07c3855fb236ae16d015a4", func := "loop.example/g01401/laws.FnExactPurseRow", spec := "fnExactPurseRow", apart := false, narrowed := true }
def FnExactPurseRowUptoSaid : Prop := fnExactPurseRowUptoRow.holds Try.pinned (OpenSpec.upto fnExactPurseRowSpec)

/-- 'laws.FnExactSplitValues', WHERE WHAT IT READS IS OF BULK AT MOST 1048576: true; the input reads as it did. -/
def fnExactSplitValuesUptoRow : OpenClaim := { program := "ytajpieblbijciaa", sum := "8bd0046e7a6b02f6040603cc288c8ba70991aba79a07c3855fb236ae16d015a4", func := "loop.example/g01401/laws.FnExactSplitValues", spec := "fnExactSplitValues", apart := false, narrowed := true }
def FnExactSplitValuesUptoSaid : Prop := fnExactSplitValuesUptoRow.holds Try.pinned (OpenSpec.upto fnExactSplitValuesSpec)

/-- 'laws.FnExactTakeValues', WHERE WHAT IT READS IS OF BULK AT MOST 1048576: true; the input reads as it did. -/
def fnExactTakeValuesUptoRow : OpenClaim := { program := "ytajpieblbijciaa", sum := "8bd0046e7a6b02f6040603cc288c8ba70991aba79a07c3855fb236ae16d015a4", func := "loop.example/g01401/laws.FnExactTakeValues", spec := "fnExactTakeValues", apart := false, narrowed := true }
def FnExactTakeValuesUptoSaid : Prop := fnExactTakeValuesUptoRow.holds Try.pinned (OpenSpec.upto fnExactTakeValuesSpec)

/-- 'laws.FnExactHeapMove', WHERE WHAT IT READS IS OF BULK AT MOST 1048576: true; the input reads as it did. -/
def fnExactHeapMoveUptoRow : OpenClaim := { program := "ytajpieblbijciaa", sum := "8bd0046e7a6b02f6040603cc288c8ba70991aba79a07c3855fb236ae16d015a4", func := "loop.example/g01401/laws.FnExactHeapMove", spec := "fnExactHeapMove", unfollowed := true, recurses := true, apart := false, narrowed := true }
def FnExactHeapMoveUptoSaid : Prop := fnExactHeapMoveUptoRow.holds Try.pinned (OpenSpec.upto fnExactHeapMoveSpec)

/-- 'laws.FnHeaps', WHERE WHAT IT READS IS OF BULK AT MOST 1048576: true; the input reads as it did. -/
def fnHeapsUptoRow : OpenClaim := { program := "ytajpieblbijciaa", sum := "8bd0046e7a6b02f6040603cc288c8ba70991aba79a07c3855fb236ae16d015a4", func := "loop.example/g01401/laws.FnHeaps", spec := "fnHeaps", unfollowed := true, recurses := true, apart := false, narrowed := true }
def FnHeapsUptoSaid : Prop := fnHeapsUptoRow.holds Try.pinned (OpenSpec.upto fnHeapsSpec)

end Rows
end Go.Proofs.Ytajpieblbijciaa
