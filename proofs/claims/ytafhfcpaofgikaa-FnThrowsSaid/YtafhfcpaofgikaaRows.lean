/-
  No cell of these rows narrows 'for every input' (looked for: loops, veiled, ifaces, maps, wideKeys, modest, calm, conditions, laid).
  DERIVED. THE GIVEN ROWS OF THIS SEAT. 6 by the template 'for every input the law returns true; each argument reads behind the call as it read before'; 0 by the template 'total and deterministic' (their statements: YtafhfcpaofgikaaTotals.lean).
  GIVEN WITH THE SEED: the statements are not yours to turn. If you find one false, say at which input.
  Laid BY PROGRAM, IN A SANDBOX (cutbox-rows.mjs): the forced cells as the released guide's own fill.sh prints them over the translation e486feeffb36f855… (all of the seat's roots in one cut). By AI agents, Wed Nov 11 2026. No macro, syntax, notation, axiom, sorry.
-/
import Derived.Test.YtafhfcpaofgikaaChecked
import GoSem.Claim
import GoSem.ClaimJoined
import GoSem.ClaimMapViews
import Derived.JoinedTies
import Derived.KernelRfl
namespace Go.Proofs.Ytafhfcpaofgikaa
/- THE CELL 'sum', in the pinned program and in every row, IS THE sha256 OF THE DUMP (.gsa) THAT YtafhfcpaofgikaaProg.lean LOADS. Nothing in Lean hashes anything: it is a label: what it is worth is what the hold of that sum in a sandbox is worth. -/
noncomputable def Try.pinned : Pinned := { name := "ytafhfcpaofgikaa", sum := "e486feeffb36f85584c1da621517da3275c27eff8183466714b58245e752ac56", checked := Try.checked }
namespace Rows
def none {H : Type} : Left H := { results := [], args := [] }

/-- 'laws.FnExactWeighCoins': WHATEVER THE INPUT: true; the input reads as it did. -/
def fnExactWeighCoinsSpec : ChangeSpec := { name := "fnExactWeighCoins", fn := fun _ => fun
  | [d1, d2, d3] => { results := [.lit (.bool true)], args := [d1, d2, d3] }
  | _ => none }
def fnExactWeighCoinsRow : OpenClaim := { program := "ytafhfcpaofgikaa", sum := "e486feeffb36f85584c1da621517da3275c27eff8183466714b58245e752ac56", func := "loop.example/g01401/laws.FnExactWeighCoins", spec := "fnExactWeighCoins", apart := false }
def FnExactWeighCoinsSaid : Prop := fnExactWeighCoinsRow.holds Try.pinned (OpenSpec.ofChange fnExactWeighCoinsSpec)

/-- ITS FALSE NEIGHBOUR: 'it returns false'. Refute it at one input. -/
def fnExactWeighCoinsWrong : ChangeSpec := { name := "fnExactWeighCoins", fn := fun _ => fun
  | [d1, d2, d3] => { results := [.lit (.bool false)], args := [d1, d2, d3] }
  | _ => none }
def FnExactWeighCoinsWrongFalsely : Prop := fnExactWeighCoinsRow.holds Try.pinned (OpenSpec.ofChange fnExactWeighCoinsWrong)

/-- 'laws.FnExactIsCoinPlan': WHATEVER THE INPUT: true; the input reads as it did. -/
def fnExactIsCoinPlanSpec : ChangeSpec := { name := "fnExactIsCoinPlan", fn := fun _ => fun
  | [d1, d2] => { results := [.lit (.bool true)], args := [d1, d2] }
  | _ => none }
def fnExactIsCoinPlanRow : OpenClaim := { program := "ytafhfcpaofgikaa", sum := "e486feeffb36f85584c1da621517da3275c27eff8183466714b58245e752ac56", func := "loop.example/g01401/laws.FnExactIsCoinPlan", spec := "fnExactIsCoinPlan", apart := false }
def FnExactIsCoinPlanSaid : Prop := fnExactIsCoinPlanRow.holds Try.pinned (OpenSpec.ofChange fnExactIsCoinPlanSpec)

/-- ITS FALSE NEIGHBOUR: 'it returns false'. Refute it at one input. -/
def fnExactIsCoinPlanWrong : ChangeSpec := { name := "fnExactIsCoinPlan", fn := fun _ => fun
  | [d1, d2] => { results := [.lit (.bool false)], args := [d1, d2] }
  | _ => none }
def FnExactIsCoinPlanWrongFalsely : Prop := fnExactIsCoinPlanRow.holds Try.pinned (OpenSpec.ofChange fnExactIsCoinPlanWrong)

/-- 'laws.FnExactCoinsLeft': WHATEVER THE INPUT: true; the input reads as it did. -/
def fnExactCoinsLeftSpec : ChangeSpec := { name := "fnExactCoinsLeft", fn := fun _ => fun
  | [d1, d2, d3] => { results := [.lit (.bool true)], args := [d1, d2, d3] }
  | _ => none }
def fnExactCoinsLeftRow : OpenClaim := { program := "ytafhfcpaofgikaa", sum := "e486feeffb36f85584c1da621517da3275c27eff8183466714b58245e752ac56", func := "loop.example/g01401/laws.FnExactCoinsLeft", spec := "fnExactCoinsLeft", unfollowed := true, recurses := true, apart := false }
def FnExactCoinsLeftSaid : Prop := fnExactCoinsLeftRow.holds Try.pinned (OpenSpec.ofChange fnExactCoinsLeftSpec)

/-- ITS FALSE NEIGHBOUR: 'it returns false'. Refute it at one input. -/
def fnExactCoinsLeftWrong : ChangeSpec := { name := "fnExactCoinsLeft", fn := fun _ => fun
  | [d1, d2, d3] => { results := [.lit (.bool false)], args := [d1, d2, d3] }
  | _ => none }
def FnExactCoinsLeftWrongFalsely : Prop := fnExactCoinsLeftRow.holds Try.pinned (OpenSpec.ofChange fnExactCoinsLeftWrong)

/-- 'laws.FnExactEvenThrows': WHATEVER THE INPUT: true; the input reads as it did. -/
def fnExactEvenThrowsSpec : ChangeSpec := { name := "fnExactEvenThrows", fn := fun _ => fun
  | [d] => { results := [.lit (.bool true)], args := [d] }
  | _ => none }
def fnExactEvenThrowsRow : OpenClaim := { program := "ytafhfcpaofgikaa", sum := "e486feeffb36f85584c1da621517da3275c27eff8183466714b58245e752ac56", func := "loop.example/g01401/laws.FnExactEvenThrows", spec := "fnExactEvenThrows", apart := false }
def FnExactEvenThrowsSaid : Prop := fnExactEvenThrowsRow.holds Try.pinned (OpenSpec.ofChange fnExactEvenThrowsSpec)

/-- ITS FALSE NEIGHBOUR: 'it returns false'. Refute it at one input. -/
def fnExactEvenThrowsWrong : ChangeSpec := { name := "fnExactEvenThrows", fn := fun _ => fun
  | [d] => { results := [.lit (.bool false)], args := [d] }
  | _ => none }
def FnExactEvenThrowsWrongFalsely : Prop := fnExactEvenThrowsRow.holds Try.pinned (OpenSpec.ofChange fnExactEvenThrowsWrong)

/-- 'laws.FnExactLearnThrows': WHATEVER THE INPUT: true; the input reads as it did. -/
def fnExactLearnThrowsSpec : ChangeSpec := { name := "fnExactLearnThrows", fn := fun _ => fun
  | [d1, d2] => { results := [.lit (.bool true)], args := [d1, d2] }
  | _ => none }
def fnExactLearnThrowsRow : OpenClaim := { program := "ytafhfcpaofgikaa", sum := "e486feeffb36f85584c1da621517da3275c27eff8183466714b58245e752ac56", func := "loop.example/g01401/laws.FnExactLearnThrows", spec := "fnExactLearnThrows", unfollowed := true, recurses := true, apart := false }
def FnExactLearnThrowsSaid : Prop := fnExactLearnThrowsRow.holds Try.pinned (OpenSpec.ofChange fnExactLearnThrowsSpec)

/-- ITS FALSE NEIGHBOUR: 'it returns false'. Refute it at one input. -/
def fnExactLearnThrowsWrong : ChangeSpec := { name := "fnExactLearnThrows", fn := fun _ => fun
  | [d1, d2] => { results := [.lit (.bool false)], args := [d1, d2] }
  | _ => none }
def FnExactLearnThrowsWrongFalsely : Prop := fnExactLearnThrowsRow.holds Try.pinned (OpenSpec.ofChange fnExactLearnThrowsWrong)

/-- 'laws.FnThrows': WHATEVER THE INPUT: true; the input reads as it did. -/
def fnThrowsSpec : ChangeSpec := { name := "fnThrows", fn := fun _ => fun
  | [d1, d2] => { results := [.lit (.bool true)], args := [d1, d2] }
  | _ => none }
def fnThrowsRow : OpenClaim := { program := "ytafhfcpaofgikaa", sum := "e486feeffb36f85584c1da621517da3275c27eff8183466714b58245e752ac56", func := "loop.example/g01401/laws.FnThrows", spec := "fnThrows", unfollowed := true, recurses := true, apart := false }
def FnThrowsSaid : Prop := fnThrowsRow.holds Try.pinned (OpenSpec.ofChange fnThrowsSpec)

/-- ITS FALSE NEIGHBOUR: 'it returns false'. Refute it at one input. -/
def fnThrowsWrong : ChangeSpec := { name := "fnThrows", fn := fun _ => fun
  | [d1, d2] => { results := [.lit (.bool false)], args := [d1, d2] }
  | _ => none }
def FnThrowsWrongFalsely : Prop := fnThrowsRow.holds Try.pinned (OpenSpec.ofChange fnThrowsWrong)

/- THE SECOND FORM. 'bulk': how many values and letters a reading holds, each counted each time it is reached (what is shared counts as often as it is met; a slice's spare places count too). A statement '..UptoSaid' is the law's where the arguments, and the package variables that the reading takes, are together of bulk at most 1048576: NARROWER than '..Said'. Prove '..Said' where nothing that the law and all that it calls make is longer than what came in: it says more and counts as full. Else prove '..UptoSaid'. A law counts once. -/
mutual
def uptoBulk {H : Type} : DataW H → Nat
  | .lit (.string bytes) => bytes.length + 1
  | .lit _ => 1
  | .nil => 1
  | .ptr d => uptoBulk d + 1
  | .slice elems spare => uptoBulkAll elems + uptoBulkAll spare + 1
  | .agg parts => uptoBulkAll parts + 1
  | .iface _ d => uptoBulk d + 1
  | .map entries => uptoBulkEntries entries + 1
  | .held _ => 1
def uptoBulkAll {H : Type} : List (DataW H) → Nat
  | [] => 0
  | d :: r => uptoBulk d + uptoBulkAll r
def uptoBulkEntries {H : Type} : List (Lit × DataW H) → Nat
  | [] => 0
  | x :: r => uptoBulkEntry x + uptoBulkEntries r
def uptoBulkEntry {H : Type} : Lit × DataW H → Nat
  | (.string bytes, d) => bytes.length + uptoBulk d + 1
  | (_, d) => uptoBulk d + 1
 end
def uptoSmall : (H : Type) → List (DataW H) → Bool := fun _ ds => decide (uptoBulkAll ds ≤ 1048576)
def OpenSpec.upto (s : _root_.Go.ChangeSpec) : _root_.Go.OpenSpec := { _root_.Go.OpenSpec.ofChange s with cond := some uptoSmall }

/-- 'laws.FnExactWeighCoins', WHERE WHAT IT READS IS OF BULK AT MOST 1048576: true; the input reads as it did. -/
def fnExactWeighCoinsUptoRow : OpenClaim := { program := "ytafhfcpaofgikaa", sum := "e486feeffb36f85584c1da621517da3275c27eff8183466714b58245e752ac56", func := "loop.example/g01401/laws.FnExactWeighCoins", spec := "fnExactWeighCoins", apart := false, narrowed := true }
def FnExactWeighCoinsUptoSaid : Prop := fnExactWeighCoinsUptoRow.holds Try.pinned (OpenSpec.upto fnExactWeighCoinsSpec)

/-- 'laws.FnExactIsCoinPlan', WHERE WHAT IT READS IS OF BULK AT MOST 1048576: true; the input reads as it did. -/
def fnExactIsCoinPlanUptoRow : OpenClaim := { program := "ytafhfcpaofgikaa", sum := "e486feeffb36f85584c1da621517da3275c27eff8183466714b58245e752ac56", func := "loop.example/g01401/laws.FnExactIsCoinPlan", spec := "fnExactIsCoinPlan", apart := false, narrowed := true }
def FnExactIsCoinPlanUptoSaid : Prop := fnExactIsCoinPlanUptoRow.holds Try.pinned (OpenSpec.upto fnExactIsCoinPlanSpec)

/-- 'laws.FnExactCoinsLeft', WHERE WHAT IT READS IS OF BULK AT MOST 1048576: true; the input reads as it did. -/
def fnExactCoinsLeftUptoRow : OpenClaim := { program := "ytafhfcpaofgikaa", sum := "e486feeffb36f85584c1da621517da3275c27eff8183466714b58245e752ac56", func := "loop.example/g01401/laws.FnExactCoinsLeft", spec := "fnExactCoinsLeft", unfollowed := true, recurses := true, apart := false, narrowed := true }
def FnExactCoinsLeftUptoSaid : Prop := fnExactCoinsLeftUptoRow.holds Try.pinned (OpenSpec.upto fnExactCoinsLeftSpec)

/-- 'laws.FnExactEvenThrows', WHERE WHAT IT READS IS OF BULK AT MOST 1048576: true; the input reads as it did. -/
def fnExactEvenThrowsUptoRow : OpenClaim := { program := "ytafhfcpaofgikaa", sum := "e486feeffb36f85584c1da621517da3275c27eff8183466714b58245e752ac56", func := "loop.example/g01401/laws.FnExactEvenThrows", spec := "fnExactEvenThrows", apart := false, narrowed := true }
def FnExactEvenThrowsUptoSaid : Prop := fnExactEvenThrowsUptoRow.holds Try.pinned (OpenSpec.upto fnExactEvenThrowsSpec)

/-- 'laws.FnExactLearnThrows', WHERE WHAT IT READS IS OF BULK AT MOST 1048576: true; the input reads as it did. -/
def fnExactLearnThrowsUptoRow : OpenClaim := { program := "ytafhfcpaofgikaa", sum := "e486feeffb36f85584c1da621517da3275c27eff8183466714b58245e752ac56", func := "loop.example/g01401/laws.FnExactLearnThrows", spec := "fnExactLearnThrows", unfollowed := true, recurses := true, apart := false, narrowed := true }
def FnExactLearnThrowsUptoSaid : Prop := fnExactLearnThrowsUptoRow.holds Try.pinned (OpenSpec.upto fnExactLearnThrowsSpec)

/-- 'laws.FnThrows', WHERE WHAT IT READS IS OF BULK AT MOST 1048576: true; the input reads as it did. -/
def fnThrowsUptoRow : OpenClaim := { program := "ytafhfcpaofgikaa", sum := "e486feeffb36f85584c1da621517da3275c27eff8183466714b58245e752ac56", func := "loop.example/g01401/laws.FnThrows", spec := "fnThrows", unfollowed := true, recurses := true, apart := false, narrowed := true }
def FnThrowsUptoSaid : Prop := fnThrowsUptoRow.holds Try.pinned (OpenSpec.upto fnThrowsSpec)

end Rows
end Go.Proofs.Ytafhfcpaofgikaa
