/-
  No cell of these rows narrows 'for every input' (looked for: loops, veiled, ifaces, maps, wideKeys, modest, calm, conditions, laid).
  DERIVED. THE GIVEN ROWS OF THIS SEAT. 12 by the template 'for every input the law returns true; each argument reads behind the call as it read before'; 0 by the template 'total and deterministic' (their statements: YthpboedpoipkcaaTotals.lean).
  GIVEN WITH THE SEED: the statements are not yours to turn. If you find one false, say at which input.
  Laid BY PROGRAM, IN A SANDBOX (cutbox-rows.mjs): the forced cells as the released guide's own fill.sh prints them over the translation 192cf77139820c35… (all of the seat's roots in one cut). By AI agents, Wed Nov 11 2026. No macro, syntax, notation, axiom, sorry.
-/
import Derived.Test.YthpboedpoipkcaaChecked
import GoSem.Claim
import GoSem.ClaimJoined
import GoSem.ClaimMapViews
import Derived.JoinedTies
import Derived.KernelRfl
namespace Go.Proofs.Ythpboedpoipkcaa
/- THE CELL 'sum', in the pinned program and in every row, IS THE sha256 OF THE DUMP (.gsa) THAT YthpboedpoipkcaaProg.lean LOADS. Nothing in Lean hashes anything: it is a label: what it is worth is what the hold of that sum in a sandbox is worth. -/
noncomputable def Try.pinned : Pinned := { name := "ythpboedpoipkcaa", sum := "192cf77139820c35870a80ec27d8c6abdc7be313765226b6a0a3ed7d276a17ff", checked := Try.checked }
namespace Rows
def none {H : Type} : Left H := { results := [], args := [] }

/-- 'laws.FnExactValidDie': WHATEVER THE INPUT: true; the input reads as it did. -/
def fnExactValidDieSpec : ChangeSpec := { name := "fnExactValidDie", fn := fun _ => fun
  | [d] => { results := [.lit (.bool true)], args := [d] }
  | _ => none }
def fnExactValidDieRow : OpenClaim := { program := "ythpboedpoipkcaa", sum := "192cf77139820c35870a80ec27d8c6abdc7be313765226b6a0a3ed7d276a17ff", func := "loop.example/g01401/laws.FnExactValidDie", spec := "fnExactValidDie", apart := false }
def FnExactValidDieSaid : Prop := fnExactValidDieRow.holds Try.pinned (OpenSpec.ofChange fnExactValidDieSpec)

/-- ITS FALSE NEIGHBOUR: 'it returns false'. Refute it at one input. -/
def fnExactValidDieWrong : ChangeSpec := { name := "fnExactValidDie", fn := fun _ => fun
  | [d] => { results := [.lit (.bool false)], args := [d] }
  | _ => none }
def FnExactValidDieWrongFalsely : Prop := fnExactValidDieRow.holds Try.pinned (OpenSpec.ofChange fnExactValidDieWrong)

/-- 'laws.FnExactSameDie': WHATEVER THE INPUT: true; the input reads as it did. -/
def fnExactSameDieSpec : ChangeSpec := { name := "fnExactSameDie", fn := fun _ => fun
  | [d1, d2] => { results := [.lit (.bool true)], args := [d1, d2] }
  | _ => none }
def fnExactSameDieRow : OpenClaim := { program := "ythpboedpoipkcaa", sum := "192cf77139820c35870a80ec27d8c6abdc7be313765226b6a0a3ed7d276a17ff", func := "loop.example/g01401/laws.FnExactSameDie", spec := "fnExactSameDie", apart := false }
def FnExactSameDieSaid : Prop := fnExactSameDieRow.holds Try.pinned (OpenSpec.ofChange fnExactSameDieSpec)

/-- ITS FALSE NEIGHBOUR: 'it returns false'. Refute it at one input. -/
def fnExactSameDieWrong : ChangeSpec := { name := "fnExactSameDie", fn := fun _ => fun
  | [d1, d2] => { results := [.lit (.bool false)], args := [d1, d2] }
  | _ => none }
def FnExactSameDieWrongFalsely : Prop := fnExactSameDieRow.holds Try.pinned (OpenSpec.ofChange fnExactSameDieWrong)

/-- 'laws.FnExactPlainDie': WHATEVER THE INPUT: true; the input reads as it did. -/
def fnExactPlainDieSpec : ChangeSpec := { name := "fnExactPlainDie", fn := fun _ => fun
  | [d] => { results := [.lit (.bool true)], args := [d] }
  | _ => none }
def fnExactPlainDieRow : OpenClaim := { program := "ythpboedpoipkcaa", sum := "192cf77139820c35870a80ec27d8c6abdc7be313765226b6a0a3ed7d276a17ff", func := "loop.example/g01401/laws.FnExactPlainDie", spec := "fnExactPlainDie", apart := false }
def FnExactPlainDieSaid : Prop := fnExactPlainDieRow.holds Try.pinned (OpenSpec.ofChange fnExactPlainDieSpec)

/-- ITS FALSE NEIGHBOUR: 'it returns false'. Refute it at one input. -/
def fnExactPlainDieWrong : ChangeSpec := { name := "fnExactPlainDie", fn := fun _ => fun
  | [d] => { results := [.lit (.bool false)], args := [d] }
  | _ => none }
def FnExactPlainDieWrongFalsely : Prop := fnExactPlainDieRow.holds Try.pinned (OpenSpec.ofChange fnExactPlainDieWrong)

/-- 'laws.FnExactBeats': WHATEVER THE INPUT: true; the input reads as it did. -/
def fnExactBeatsSpec : ChangeSpec := { name := "fnExactBeats", fn := fun _ => fun
  | [d1, d2] => { results := [.lit (.bool true)], args := [d1, d2] }
  | _ => none }
def fnExactBeatsRow : OpenClaim := { program := "ythpboedpoipkcaa", sum := "192cf77139820c35870a80ec27d8c6abdc7be313765226b6a0a3ed7d276a17ff", func := "loop.example/g01401/laws.FnExactBeats", spec := "fnExactBeats", apart := false }
def FnExactBeatsSaid : Prop := fnExactBeatsRow.holds Try.pinned (OpenSpec.ofChange fnExactBeatsSpec)

/-- ITS FALSE NEIGHBOUR: 'it returns false'. Refute it at one input. -/
def fnExactBeatsWrong : ChangeSpec := { name := "fnExactBeats", fn := fun _ => fun
  | [d1, d2] => { results := [.lit (.bool false)], args := [d1, d2] }
  | _ => none }
def FnExactBeatsWrongFalsely : Prop := fnExactBeatsRow.holds Try.pinned (OpenSpec.ofChange fnExactBeatsWrong)

/-- 'laws.FnExactIsRing': WHATEVER THE INPUT: true; the input reads as it did. -/
def fnExactIsRingSpec : ChangeSpec := { name := "fnExactIsRing", fn := fun _ => fun
  | [d] => { results := [.lit (.bool true)], args := [d] }
  | _ => none }
def fnExactIsRingRow : OpenClaim := { program := "ythpboedpoipkcaa", sum := "192cf77139820c35870a80ec27d8c6abdc7be313765226b6a0a3ed7d276a17ff", func := "loop.example/g01401/laws.FnExactIsRing", spec := "fnExactIsRing", unfollowed := true, recurses := true, apart := false }
def FnExactIsRingSaid : Prop := fnExactIsRingRow.holds Try.pinned (OpenSpec.ofChange fnExactIsRingSpec)

/-- ITS FALSE NEIGHBOUR: 'it returns false'. Refute it at one input. -/
def fnExactIsRingWrong : ChangeSpec := { name := "fnExactIsRing", fn := fun _ => fun
  | [d] => { results := [.lit (.bool false)], args := [d] }
  | _ => none }
def FnExactIsRingWrongFalsely : Prop := fnExactIsRingRow.holds Try.pinned (OpenSpec.ofChange fnExactIsRingWrong)

/-- 'laws.FnExactFindRing': WHATEVER THE INPUT: true; the input reads as it did. -/
def fnExactFindRingSpec : ChangeSpec := { name := "fnExactFindRing", fn := fun _ => fun
  | [d1, d2] => { results := [.lit (.bool true)], args := [d1, d2] }
  | _ => none }
def fnExactFindRingRow : OpenClaim := { program := "ythpboedpoipkcaa", sum := "192cf77139820c35870a80ec27d8c6abdc7be313765226b6a0a3ed7d276a17ff", func := "loop.example/g01401/laws.FnExactFindRing", spec := "fnExactFindRing", unfollowed := true, recurses := true, apart := false }
def FnExactFindRingSaid : Prop := fnExactFindRingRow.holds Try.pinned (OpenSpec.ofChange fnExactFindRingSpec)

/-- ITS FALSE NEIGHBOUR: 'it returns false'. Refute it at one input. -/
def fnExactFindRingWrong : ChangeSpec := { name := "fnExactFindRing", fn := fun _ => fun
  | [d1, d2] => { results := [.lit (.bool false)], args := [d1, d2] }
  | _ => none }
def FnExactFindRingWrongFalsely : Prop := fnExactFindRingRow.holds Try.pinned (OpenSpec.ofChange fnExactFindRingWrong)

/-- 'laws.FnExactSumCounts': WHATEVER THE INPUT: true; the input reads as it did. -/
def fnExactSumCountsSpec : ChangeSpec := { name := "fnExactSumCounts", fn := fun _ => fun
  | [d] => { results := [.lit (.bool true)], args := [d] }
  | _ => none }
def fnExactSumCountsRow : OpenClaim := { program := "ythpboedpoipkcaa", sum := "192cf77139820c35870a80ec27d8c6abdc7be313765226b6a0a3ed7d276a17ff", func := "loop.example/g01401/laws.FnExactSumCounts", spec := "fnExactSumCounts", unfollowed := true, recurses := true, apart := false }
def FnExactSumCountsSaid : Prop := fnExactSumCountsRow.holds Try.pinned (OpenSpec.ofChange fnExactSumCountsSpec)

/-- ITS FALSE NEIGHBOUR: 'it returns false'. Refute it at one input. -/
def fnExactSumCountsWrong : ChangeSpec := { name := "fnExactSumCounts", fn := fun _ => fun
  | [d] => { results := [.lit (.bool false)], args := [d] }
  | _ => none }
def FnExactSumCountsWrongFalsely : Prop := fnExactSumCountsRow.holds Try.pinned (OpenSpec.ofChange fnExactSumCountsWrong)

/-- 'laws.FnExactSameSums': WHATEVER THE INPUT: true; the input reads as it did. -/
def fnExactSameSumsSpec : ChangeSpec := { name := "fnExactSameSums", fn := fun _ => fun
  | [d1, d2] => { results := [.lit (.bool true)], args := [d1, d2] }
  | _ => none }
def fnExactSameSumsRow : OpenClaim := { program := "ythpboedpoipkcaa", sum := "192cf77139820c35870a80ec27d8c6abdc7be313765226b6a0a3ed7d276a17ff", func := "loop.example/g01401/laws.FnExactSameSums", spec := "fnExactSameSums", unfollowed := true, recurses := true, apart := false }
def FnExactSameSumsSaid : Prop := fnExactSameSumsRow.holds Try.pinned (OpenSpec.ofChange fnExactSameSumsSpec)

/-- ITS FALSE NEIGHBOUR: 'it returns false'. Refute it at one input. -/
def fnExactSameSumsWrong : ChangeSpec := { name := "fnExactSameSums", fn := fun _ => fun
  | [d1, d2] => { results := [.lit (.bool false)], args := [d1, d2] }
  | _ => none }
def FnExactSameSumsWrongFalsely : Prop := fnExactSameSumsRow.holds Try.pinned (OpenSpec.ofChange fnExactSameSumsWrong)

/-- 'laws.FnExactRollDice': WHATEVER THE INPUT: true; the input reads as it did. -/
def fnExactRollDiceSpec : ChangeSpec := { name := "fnExactRollDice", fn := fun _ => fun
  | [d1, d2, d3] => { results := [.lit (.bool true)], args := [d1, d2, d3] }
  | _ => none }
def fnExactRollDiceRow : OpenClaim := { program := "ythpboedpoipkcaa", sum := "192cf77139820c35870a80ec27d8c6abdc7be313765226b6a0a3ed7d276a17ff", func := "loop.example/g01401/laws.FnExactRollDice", spec := "fnExactRollDice", unfollowed := true, recurses := true, apart := false }
def FnExactRollDiceSaid : Prop := fnExactRollDiceRow.holds Try.pinned (OpenSpec.ofChange fnExactRollDiceSpec)

/-- ITS FALSE NEIGHBOUR: 'it returns false'. Refute it at one input. -/
def fnExactRollDiceWrong : ChangeSpec := { name := "fnExactRollDice", fn := fun _ => fun
  | [d1, d2, d3] => { results := [.lit (.bool false)], args := [d1, d2, d3] }
  | _ => none }
def FnExactRollDiceWrongFalsely : Prop := fnExactRollDiceRow.holds Try.pinned (OpenSpec.ofChange fnExactRollDiceWrong)

/-- 'laws.FnExactOtherPair': WHATEVER THE INPUT: true; the input reads as it did. -/
def fnExactOtherPairSpec : ChangeSpec := { name := "fnExactOtherPair", fn := fun _ => fun
  | [d] => { results := [.lit (.bool true)], args := [d] }
  | _ => none }
def fnExactOtherPairRow : OpenClaim := { program := "ythpboedpoipkcaa", sum := "192cf77139820c35870a80ec27d8c6abdc7be313765226b6a0a3ed7d276a17ff", func := "loop.example/g01401/laws.FnExactOtherPair", spec := "fnExactOtherPair", unfollowed := true, recurses := true, apart := false }
def FnExactOtherPairSaid : Prop := fnExactOtherPairRow.holds Try.pinned (OpenSpec.ofChange fnExactOtherPairSpec)

/-- ITS FALSE NEIGHBOUR: 'it returns false'. Refute it at one input. -/
def fnExactOtherPairWrong : ChangeSpec := { name := "fnExactOtherPair", fn := fun _ => fun
  | [d] => { results := [.lit (.bool false)], args := [d] }
  | _ => none }
def FnExactOtherPairWrongFalsely : Prop := fnExactOtherPairRow.holds Try.pinned (OpenSpec.ofChange fnExactOtherPairWrong)

/-- 'laws.FnOtherDice': WHATEVER THE INPUT: true; the input reads as it did. -/
def fnOtherDiceSpec : ChangeSpec := { name := "fnOtherDice", fn := fun _ => fun
  | [d1, d2] => { results := [.lit (.bool true)], args := [d1, d2] }
  | _ => none }
def fnOtherDiceRow : OpenClaim := { program := "ythpboedpoipkcaa", sum := "192cf77139820c35870a80ec27d8c6abdc7be313765226b6a0a3ed7d276a17ff", func := "loop.example/g01401/laws.FnOtherDice", spec := "fnOtherDice", unfollowed := true, recurses := true, apart := false }
def FnOtherDiceSaid : Prop := fnOtherDiceRow.holds Try.pinned (OpenSpec.ofChange fnOtherDiceSpec)

/-- ITS FALSE NEIGHBOUR: 'it returns false'. Refute it at one input. -/
def fnOtherDiceWrong : ChangeSpec := { name := "fnOtherDice", fn := fun _ => fun
  | [d1, d2] => { results := [.lit (.bool false)], args := [d1, d2] }
  | _ => none }
def FnOtherDiceWrongFalsely : Prop := fnOtherDiceRow.holds Try.pinned (OpenSpec.ofChange fnOtherDiceWrong)

/-- 'laws.FnExactBestOf': WHATEVER THE INPUT: true; the input reads as it did. -/
def fnExactBestOfSpec : ChangeSpec := { name := "fnExactBestOf", fn := fun _ => fun
  | [d1, d2] => { results := [.lit (.bool true)], args := [d1, d2] }
  | _ => none }
def fnExactBestOfRow : OpenClaim := { program := "ythpboedpoipkcaa", sum := "192cf77139820c35870a80ec27d8c6abdc7be313765226b6a0a3ed7d276a17ff", func := "loop.example/g01401/laws.FnExactBestOf", spec := "fnExactBestOf", unfollowed := true, recurses := true, apart := false }
def FnExactBestOfSaid : Prop := fnExactBestOfRow.holds Try.pinned (OpenSpec.ofChange fnExactBestOfSpec)

/-- ITS FALSE NEIGHBOUR: 'it returns false'. Refute it at one input. -/
def fnExactBestOfWrong : ChangeSpec := { name := "fnExactBestOf", fn := fun _ => fun
  | [d1, d2] => { results := [.lit (.bool false)], args := [d1, d2] }
  | _ => none }
def FnExactBestOfWrongFalsely : Prop := fnExactBestOfRow.holds Try.pinned (OpenSpec.ofChange fnExactBestOfWrong)

/- THE SECOND FORM. 'bulk': how many values and letters a reading holds, each counted each time it is reached (what is shared counts as often as it is met; a slice's spare places count too). A statement '..UptoSaid' is the law's where the arguments, and the package variables that the reading takes, are together of bulk at most 1048576: NARROWER than '..Said'. Prove '..Said' where nothing that the law and all that it calls make is longer than what came in: it says more and counts as full. Else prove '..UptoSaid'. A law counts once. -/
mutual
def uptoBulk {H : Type} : DataW H → Nat
  | .lit (.string bytes) => bytes.length + 1
  | .lit _ => 1
  | .nil => 1
  | .ptr d => uptoBulk d + 1
  | .slice elems spare => uptoBulkAll elems + uptoBulkAll spare + 1
  | .agg parts => uptoBulkAll parts + 1
  | .iface _ d => uptoBulk d + 1
  | .map entries => uptoBulkEntries entries + 1
  | .held _ => 1
def uptoBulkAll {H : Type} : List (DataW H) → Nat
  | [] => 0
  | d :: r => uptoBulk d + uptoBulkAll r
def uptoBulkEntries {H : Type} : List (Lit × DataW H) → Nat
  | [] => 0
  | x :: r => uptoBulkEntry x + uptoBulkEntries r
def uptoBulkEntry {H : Type} : Lit × DataW H → Nat
  | (.string bytes, d) => bytes.length + uptoBulk d + 1
  | (_, d) => uptoBulk d + 1
 end
def uptoSmall : (H : Type) → List (DataW H) → Bool := fun _ ds => decide (uptoBulkAll ds ≤ 1048576)
def OpenSpec.upto (s : _root_.Go.ChangeSpec) : _root_.Go.OpenSpec := { _root_.Go.OpenSpec.ofChange s with cond := some uptoSmall }

/-- 'laws.FnExactValidDie', WHERE WHAT IT READS IS OF BULK AT MOST 1048576: true; the input reads as it did. -/
def fnExactValidDieUptoRow : OpenClaim := { program := "ythpboedpoipkcaa", sum := "192cf77139820c35870a80ec27d8c6abdc7be313765226b6a0a3ed7d276a17ff", func := "loop.example/g01401/laws.FnExactValidDie", spec := "fnExactValidDie", apart := false, narrowed := true }
def FnExactValidDieUptoSaid : Prop := fnExactValidDieUptoRow.holds Try.pinned (OpenSpec.upto fnExactValidDieSpec)

/-- 'laws.FnExactSameDie', WHERE WHAT IT READS IS OF BULK AT MOST 1048576: true; the input reads as it did. -/
def fnExactSameDieUptoRow : OpenClaim := { program := "ythpboedpoipkcaa", sum := "192cf77139820c35870a80ec27d8c6abdc7be313765226b6a0a3ed7d276a17ff", func := "loop.example/g01401/laws.FnExactSameDie", spec := "fnExactSameDie", apart := false, narrowed := true }
def FnExactSameDieUptoSaid : Prop := fnExactSameDieUptoRow.holds Try.pinned (OpenSpec.upto fnExactSameDieSpec)

/-- 'laws.FnExactPlainDie', WHERE WHAT IT READS IS OF BULK AT MOST 1048576: true; the input reads as it did. -/
def fnExactPlainDieUptoRow : OpenClaim := { program := "ythpboedpoipkcaa", sum := "192cf77139820c35870a80ec27d8c6abdc7be313765226b6a0a3ed7d276a17ff", func := "loop.example/g01401/laws.FnExactPlainDie", spec := "fnExactPlainDie", apart := false, narrowed := true }
def FnExactPlainDieUptoSaid : Prop := fnExactPlainDieUptoRow.holds Try.pinned (OpenSpec.upto fnExactPlainDieSpec)

/-- 'laws.FnExactBeats', WHERE WHAT IT READS IS OF BULK AT MOST 1048576: true; the input reads as it did. -/
def fnExactBeatsUptoRow : OpenClaim := { program := "ythpboedpoipkcaa", sum := "192cf77139820c35870a80ec27d8c6abdc7be313765226b6a0a3ed7d276a17ff", func := "loop.example/g01401/laws.FnExactBeats", spec := "fnExactBeats", apart := false, narrowed := true }
def FnExactBeatsUptoSaid : Prop := fnExactBeatsUptoRow.holds Try.pinned (OpenSpec.upto fnExactBeatsSpec)

/-- 'laws.FnExactIsRing', WHERE WHAT IT READS IS OF BULK AT MOST 1048576: true; the input reads as it did. -/
def fnExactIsRingUptoRow : OpenClaim := { program := "ythpboedpoipkcaa", sum := "192cf77139820c35870a80ec27d8c6abdc7be313765226b6a0a3ed7d276a17ff", func := "loop.example/g01401/laws.FnExactIsRing", spec := "fnExactIsRing", unfollowed := true, recurses := true, apart := false, narrowed := true }
def FnExactIsRingUptoSaid : Prop := fnExactIsRingUptoRow.holds Try.pinned (OpenSpec.upto fnExactIsRingSpec)

/-- 'laws.FnExactFindRing', WHERE WHAT IT READS IS OF BULK AT MOST 1048576: true; the input reads as it did. -/
def fnExactFindRingUptoRow : OpenClaim := { program := "ythpboedpoipkcaa", sum := "192cf77139820c35870a80ec27d8c6abdc7be313765226b6a0a3ed7d276a17ff", func := "loop.example/g01401/laws.FnExactFindRing", spec := "fnExactFindRing", unfollowed := true, recurses := true, apart := false, narrowed := true }
def FnExactFindRingUptoSaid : Prop := fnExactFindRingUptoRow.holds Try.pinned (OpenSpec.upto fnExactFindRingSpec)

/-- 'laws.FnExactSumCounts', WHERE WHAT IT READS IS OF BULK AT MOST 1048576: true; the input reads as it did. -/
def fnExactSumCountsUptoRow : OpenClaim := { program := "ythpboedpoipkcaa", sum := "192cf77139820c35870a80ec27d8c6abdc7be313765226b6a0a3ed7d276a17ff", func := "loop.example/g01401/laws.FnExactSumCounts", spec := "fnExactSumCounts", unfollowed := true, recurses := true, apart := false, narrowed := true }
def FnExactSumCountsUptoSaid : Prop := fnExactSumCountsUptoRow.holds Try.pinned (OpenSpec.upto fnExactSumCountsSpec)

/-- 'laws.FnExactSameSums', WHERE WHAT IT READS IS OF BULK AT MOST 1048576: true; the input reads as it did. -/
def fnExactSameSumsUptoRow : OpenClaim := { program := "ythpboedpoipkcaa", sum := "192cf77139820c35870a80ec27d8c6abdc7be313765226b6a0a3ed7d276a17ff", func := "loop.example/g01401/laws.FnExactSameSums", spec := "fnExactSameSums", unfollowed := true, recurses := true, apart := false, narrowed := true }
def FnExactSameSumsUptoSaid : Prop := fnExactSameSumsUptoRow.holds Try.pinned (OpenSpec.upto fnExactSameSumsSpec)

/-- 'laws.FnExactRollDice', WHERE WHAT IT READS IS OF BULK AT MOST 1048576: true; the input reads as it did. -/
def fnExactRollDiceUptoRow : OpenClaim := { program := "ythpboedpoipkcaa", sum := "192cf77139820c35870a80ec27d8c6abdc7be313765226b6a0a3ed7d276a17ff", func := "loop.example/g01401/laws.FnExactRollDice", spec := "fnExactRollDice", unfollowed := true, recurses := true, apart := false, narrowed := true }
def FnExactRollDiceUptoSaid : Prop := fnExactRollDiceUptoRow.holds Try.pinned (OpenSpec.upto fnExactRollDiceSpec)

/-- 'laws.FnExactOtherPair', WHERE WHAT IT READS IS OF BULK AT MOST 1048576: true; the input reads as it did. -/
def fnExactOtherPairUptoRow : OpenClaim := { program := "ythpboedpoipkcaa", sum := "192cf77139820c35870a80ec27d8c6abdc7be313765226b6a0a3ed7d276a17ff", func := "loop.example/g01401/laws.FnExactOtherPair", spec := "fnExactOtherPair", unfollowed := true, recurses := true, apart := false, narrowed := true }
def FnExactOtherPairUptoSaid : Prop := fnExactOtherPairUptoRow.holds Try.pinned (OpenSpec.upto fnExactOtherPairSpec)

/-- 'laws.FnOtherDice', WHERE WHAT IT READS IS OF BULK AT MOST 1048576: true; the input reads as it did. -/
def fnOtherDiceUptoRow : OpenClaim := { program := "ythpboedpoipkcaa", sum := "192cf77139820c35870a80ec27d8c6abdc7be313765226b6a0a3ed7d276a17ff", func := "loop.example/g01401/laws.FnOtherDice", spec := "fnOtherDice", unfollowed := true, recurses := true, apart := false, narrowed := true }
def FnOtherDiceUptoSaid : Prop := fnOtherDiceUptoRow.holds Try.pinned (OpenSpec.upto fnOtherDiceSpec)

/-- 'laws.FnExactBestOf', WHERE WHAT IT READS IS OF BULK AT MOST 1048576: true; the input reads as it did. -/
def fnExactBestOfUptoRow : OpenClaim := { program := "ythpboedpoipkcaa", sum := "192cf77139820c35870a80ec27d8c6abdc7be313765226b6a0a3ed7d276a17ff", func := "loop.example/g01401/laws.FnExactBestOf", spec := "fnExactBestOf", unfollowed := true, recurses := true, apart := false, narrowed := true }
def FnExactBestOfUptoSaid : Prop := fnExactBestOfUptoRow.holds Try.pinned (OpenSpec.upto fnExactBestOfSpec)

end Rows
end Go.Proofs.Ythpboedpoipkcaa
