/-
  No cell of these rows narrows 'for every input' (looked for: loops, veiled, ifaces, maps, wideKeys, modest, calm, conditions, laid).
  DERIVED. THE GIVEN ROWS OF THIS SEAT. 8 by the template 'for every input the law returns true; each argument reads behind the call as it read before'; 0 by the template 'total and deterministic' (their statements: YtpfaefflbjpllaaTotals.lean).
  GIVEN WITH THE SEED: the statements are not yours to turn. If you find one false, say at which input.
  Laid BY PROGRAM, IN A SANDBOX (cutbox-rows.mjs): the forced cells as the released guide's own fill.sh prints them over the translation 4a864729ba02478d… (all of the seat's roots in one cut). By AI agents, Wed Nov 11 2026. No macro, syntax, notation, axiom, sorry.
-/
import Derived.Test.YtpfaefflbjpllaaChecked
import GoSem.Claim
import GoSem.ClaimJoined
import GoSem.ClaimMapViews
import Derived.JoinedTies
import Derived.KernelRfl
namespace Go.Proofs.Ytpfaefflbjpllaa
/- THE CELL 'sum', in the pinned program and in every row, IS THE sha256 OF THE DUMP (.gsa) THAT YtpfaefflbjpllaaProg.lean LOADS. Nothing in Lean hashes anything: it is a label: what it is worth is what the hold of that sum in a sandbox is worth. -/
noncomputable def Try.pinned : Pinned := { name := "ytpfaefflbjpllaa", sum := "4a864729ba02478dbaa154363b09c974347fa03accd9a0f8571e07a9694e6062", checked := Try.checked }
namespace Rows
def none {H : Type} : Left H := { results := [], args := [] }

/-- 'laws.FnExactIsWord': WHATEVER THE INPUT: true; the input reads as it did. -/
def fnExactIsWordSpec : ChangeSpec := { name := "fnExactIsWord", fn := fun _ => fun
  | [d1, d2] => { results := [.lit (.bool true)], args := [d1, d2] }
  | _ => none }
def fnExactIsWordRow : OpenClaim := { program := "ytpfaefflbjpllaa", sum := "4a864729ba02478dbaa154363b09c974347fa03accd9a0f8571e07a9694e6062", func := "loop.example/g01401/laws.FnExactIsWord", spec := "fnExactIsWord", unfollowed := true, recurses := true, apart := false }
def FnExactIsWordSaid : Prop := fnExactIsWordRow.holds Try.pinned (OpenSpec.ofChange fnExactIsWordSpec)

/-- ITS FALSE NEIGHBOUR: 'it returns false'. Refute it at one input. -/
def fnExactIsWordWrong : ChangeSpec := { name := "fnExactIsWord", fn := fun _ => fun
  | [d1, d2] => { results := [.lit (.bool false)], args := [d1, d2] }
  | _ => none }
def FnExactIsWordWrongFalsely : Prop := fnExactIsWordRow.holds Try.pinned (OpenSpec.ofChange fnExactIsWordWrong)

/-- 'laws.FnExactWordBorders': WHATEVER THE INPUT: true; the input reads as it did. -/
def fnExactWordBordersSpec : ChangeSpec := { name := "fnExactWordBorders", fn := fun _ => fun
  | [d] => { results := [.lit (.bool true)], args := [d] }
  | _ => none }
def fnExactWordBordersRow : OpenClaim := { program := "ytpfaefflbjpllaa", sum := "4a864729ba02478dbaa154363b09c974347fa03accd9a0f8571e07a9694e6062", func := "loop.example/g01401/laws.FnExactWordBorders", spec := "fnExactWordBorders", unfollowed := true, recurses := true, apart := false }
def FnExactWordBordersSaid : Prop := fnExactWordBordersRow.holds Try.pinned (OpenSpec.ofChange fnExactWordBordersSpec)

/-- ITS FALSE NEIGHBOUR: 'it returns false'. Refute it at one input. -/
def fnExactWordBordersWrong : ChangeSpec := { name := "fnExactWordBorders", fn := fun _ => fun
  | [d] => { results := [.lit (.bool false)], args := [d] }
  | _ => none }
def FnExactWordBordersWrongFalsely : Prop := fnExactWordBordersRow.holds Try.pinned (OpenSpec.ofChange fnExactWordBordersWrong)

/-- 'laws.FnExactWordWait': WHATEVER THE INPUT: true; the input reads as it did. -/
def fnExactWordWaitSpec : ChangeSpec := { name := "fnExactWordWait", fn := fun _ => fun
  | [d1, d2] => { results := [.lit (.bool true)], args := [d1, d2] }
  | _ => none }
def fnExactWordWaitRow : OpenClaim := { program := "ytpfaefflbjpllaa", sum := "4a864729ba02478dbaa154363b09c974347fa03accd9a0f8571e07a9694e6062", func := "loop.example/g01401/laws.FnExactWordWait", spec := "fnExactWordWait", unfollowed := true, recurses := true, apart := false }
def FnExactWordWaitSaid : Prop := fnExactWordWaitRow.holds Try.pinned (OpenSpec.ofChange fnExactWordWaitSpec)

/-- ITS FALSE NEIGHBOUR: 'it returns false'. Refute it at one input. -/
def fnExactWordWaitWrong : ChangeSpec := { name := "fnExactWordWait", fn := fun _ => fun
  | [d1, d2] => { results := [.lit (.bool false)], args := [d1, d2] }
  | _ => none }
def FnExactWordWaitWrongFalsely : Prop := fnExactWordWaitRow.holds Try.pinned (OpenSpec.ofChange fnExactWordWaitWrong)

/-- 'laws.FnExactWordRace': WHATEVER THE INPUT: true; the input reads as it did. -/
def fnExactWordRaceSpec : ChangeSpec := { name := "fnExactWordRace", fn := fun _ => fun
  | [d1, d2, d3] => { results := [.lit (.bool true)], args := [d1, d2, d3] }
  | _ => none }
def fnExactWordRaceRow : OpenClaim := { program := "ytpfaefflbjpllaa", sum := "4a864729ba02478dbaa154363b09c974347fa03accd9a0f8571e07a9694e6062", func := "loop.example/g01401/laws.FnExactWordRace", spec := "fnExactWordRace", unfollowed := true, recurses := true, apart := false }
def FnExactWordRaceSaid : Prop := fnExactWordRaceRow.holds Try.pinned (OpenSpec.ofChange fnExactWordRaceSpec)

/-- ITS FALSE NEIGHBOUR: 'it returns false'. Refute it at one input. -/
def fnExactWordRaceWrong : ChangeSpec := { name := "fnExactWordRace", fn := fun _ => fun
  | [d1, d2, d3] => { results := [.lit (.bool false)], args := [d1, d2, d3] }
  | _ => none }
def FnExactWordRaceWrongFalsely : Prop := fnExactWordRaceRow.holds Try.pinned (OpenSpec.ofChange fnExactWordRaceWrong)

/-- 'laws.FnExactWordFree': WHATEVER THE INPUT: true; the input reads as it did. -/
def fnExactWordFreeSpec : ChangeSpec := { name := "fnExactWordFree", fn := fun _ => fun
  | [d1, d2, d3] => { results := [.lit (.bool true)], args := [d1, d2, d3] }
  | _ => none }
def fnExactWordFreeRow : OpenClaim := { program := "ytpfaefflbjpllaa", sum := "4a864729ba02478dbaa154363b09c974347fa03accd9a0f8571e07a9694e6062", func := "loop.example/g01401/laws.FnExactWordFree", spec := "fnExactWordFree", unfollowed := true, recurses := true, apart := false }
def FnExactWordFreeSaid : Prop := fnExactWordFreeRow.holds Try.pinned (OpenSpec.ofChange fnExactWordFreeSpec)

/-- ITS FALSE NEIGHBOUR: 'it returns false'. Refute it at one input. -/
def fnExactWordFreeWrong : ChangeSpec := { name := "fnExactWordFree", fn := fun _ => fun
  | [d1, d2, d3] => { results := [.lit (.bool false)], args := [d1, d2, d3] }
  | _ => none }
def FnExactWordFreeWrongFalsely : Prop := fnExactWordFreeRow.holds Try.pinned (OpenSpec.ofChange fnExactWordFreeWrong)

/-- 'laws.FnExactBestRival': WHATEVER THE INPUT: true; the input reads as it did. -/
def fnExactBestRivalSpec : ChangeSpec := { name := "fnExactBestRival", fn := fun _ => fun
  | [d] => { results := [.lit (.bool true)], args := [d] }
  | _ => none }
def fnExactBestRivalRow : OpenClaim := { program := "ytpfaefflbjpllaa", sum := "4a864729ba02478dbaa154363b09c974347fa03accd9a0f8571e07a9694e6062", func := "loop.example/g01401/laws.FnExactBestRival", spec := "fnExactBestRival", unfollowed := true, recurses := true, apart := false }
def FnExactBestRivalSaid : Prop := fnExactBestRivalRow.holds Try.pinned (OpenSpec.ofChange fnExactBestRivalSpec)

/-- ITS FALSE NEIGHBOUR: 'it returns false'. Refute it at one input. -/
def fnExactBestRivalWrong : ChangeSpec := { name := "fnExactBestRival", fn := fun _ => fun
  | [d] => { results := [.lit (.bool false)], args := [d] }
  | _ => none }
def FnExactBestRivalWrongFalsely : Prop := fnExactBestRivalRow.holds Try.pinned (OpenSpec.ofChange fnExactBestRivalWrong)

/-- 'laws.FnExactWaitsShared': WHATEVER THE INPUT: true; the input reads as it did. -/
def fnExactWaitsSharedSpec : ChangeSpec := { name := "fnExactWaitsShared", fn := fun _ => fun
  | [d1, d2, d3] => { results := [.lit (.bool true)], args := [d1, d2, d3] }
  | _ => none }
def fnExactWaitsSharedRow : OpenClaim := { program := "ytpfaefflbjpllaa", sum := "4a864729ba02478dbaa154363b09c974347fa03accd9a0f8571e07a9694e6062", func := "loop.example/g01401/laws.FnExactWaitsShared", spec := "fnExactWaitsShared", unfollowed := true, recurses := true, apart := false }
def FnExactWaitsSharedSaid : Prop := fnExactWaitsSharedRow.holds Try.pinned (OpenSpec.ofChange fnExactWaitsSharedSpec)

/-- ITS FALSE NEIGHBOUR: 'it returns false'. Refute it at one input. -/
def fnExactWaitsSharedWrong : ChangeSpec := { name := "fnExactWaitsShared", fn := fun _ => fun
  | [d1, d2, d3] => { results := [.lit (.bool false)], args := [d1, d2, d3] }
  | _ => none }
def FnExactWaitsSharedWrongFalsely : Prop := fnExactWaitsSharedRow.holds Try.pinned (OpenSpec.ofChange fnExactWaitsSharedWrong)

/-- 'laws.FnWordsAwaited': WHATEVER THE INPUT: true; the input reads as it did. -/
def fnWordsAwaitedSpec : ChangeSpec := { name := "fnWordsAwaited", fn := fun _ => fun
  | [d1, d2] => { results := [.lit (.bool true)], args := [d1, d2] }
  | _ => none }
def fnWordsAwaitedRow : OpenClaim := { program := "ytpfaefflbjpllaa", sum := "4a864729ba02478dbaa154363b09c974347fa03accd9a0f8571e07a9694e6062", func := "loop.example/g01401/laws.FnWordsAwaited", spec := "fnWordsAwaited", unfollowed := true, recurses := true, apart := false }
def FnWordsAwaitedSaid : Prop := fnWordsAwaitedRow.holds Try.pinned (OpenSpec.ofChange fnWordsAwaitedSpec)

/-- ITS FALSE NEIGHBOUR: 'it returns false'. Refute it at one input. -/
def fnWordsAwaitedWrong : ChangeSpec := { name := "fnWordsAwaited", fn := fun _ => fun
  | [d1, d2] => { results := [.lit (.bool false)], args := [d1, d2] }
  | _ => none }
def FnWordsAwaitedWrongFalsely : Prop := fnWordsAwaitedRow.holds Try.pinned (OpenSpec.ofChange fnWordsAwaitedWrong)

/- THE SECOND FORM. 'bulk': how many values and letters a reading holds, each counted each time it is reached (what is shared counts as often as it is met; a slice's spare places count too). A statement '..UptoSaid' is the law's where the arguments, and the package variables that the reading takes, are together of bulk at most 1048576: NARROWER than '..Said'. Prove '..Said' where nothing that the law and all that it calls make is longer than what came in: it says more and counts as full. Else prove '..UptoSaid'. A law counts once. -/
mutual
def uptoBulk {H : Type} : DataW H → Nat
  | .lit (.string bytes) => bytes.length + 1
  | .lit _ => 1
  | .nil => 1
  | .ptr d => uptoBulk d + 1
  | .slice elems spare => uptoBulkAll elems + uptoBulkAll spare + 1
  | .agg parts => uptoBulkAll parts + 1
  | .iface _ d => uptoBulk d + 1
  | .map entries => uptoBulkEntries entries + 1
  | .held _ => 1
def uptoBulkAll {H : Type} : List (DataW H) → Nat
  | [] => 0
  | d :: r => uptoBulk d + uptoBulkAll r
def uptoBulkEntries {H : Type} : List (Lit × DataW H) → Nat
  | [] => 0
  | x :: r => uptoBulkEntry x + uptoBulkEntries r
def uptoBulkEntry {H : Type} : Lit × DataW H → Nat
  | (.string bytes, d) => bytes.length + uptoBulk d + 1
  | (_, d) => uptoBulk d + 1
 end
def uptoSmall : (H : Type) → List (DataW H) → Bool := fun _ ds => decide (uptoBulkAll ds ≤ 1048576)
def OpenSpec.upto (s : _root_.Go.ChangeSpec) : _root_.Go.OpenSpec := { _root_.Go.OpenSpec.ofChange s with cond := some uptoSmall }

/-- 'laws.FnExactIsWord', WHERE WHAT IT READS IS OF BULK AT MOST 1048576: true; the input reads as it did. -/
def fnExactIsWordUptoRow : OpenClaim := { program := "ytpfaefflbjpllaa", sum := "4a864729ba02478dbaa154363b09c974347fa03accd9a0f8571e07a9694e6062", func := "loop.example/g01401/laws.FnExactIsWord", spec := "fnExactIsWord", unfollowed := true, recurses := true, apart := false, narrowed := true }
def FnExactIsWordUptoSaid : Prop := fnExactIsWordUptoRow.holds Try.pinned (OpenSpec.upto fnExactIsWordSpec)

/-- 'laws.FnExactWordBorders', WHERE WHAT IT READS IS OF BULK AT MOST 1048576: true; the input reads as it did. -/
def fnExactWordBordersUptoRow : OpenClaim := { program := "ytpfaefflbjpllaa", sum := "4a864729ba02478dbaa154363b09c974347fa03accd9a0f8571e07a9694e6062", func := "loop.example/g01401/laws.FnExactWordBorders", spec := "fnExactWordBorders", unfollowed := true, recurses := true, apart := false, narrowed := true }
def FnExactWordBordersUptoSaid : Prop := fnExactWordBordersUptoRow.holds Try.pinned (OpenSpec.upto fnExactWordBordersSpec)

/-- 'laws.FnExactWordWait', WHERE WHAT IT READS IS OF BULK AT MOST 1048576: true; the input reads as it did. -/
def fnExactWordWaitUptoRow : OpenClaim := { program := "ytpfaefflbjpllaa", sum := "4a864729ba02478dbaa154363b09c974347fa03accd9a0f8571e07a9694e6062", func := "loop.example/g01401/laws.FnExactWordWait", spec := "fnExactWordWait", unfollowed := true, recurses := true, apart := false, narrowed := true }
def FnExactWordWaitUptoSaid : Prop := fnExactWordWaitUptoRow.holds Try.pinned (OpenSpec.upto fnExactWordWaitSpec)

/-- 'laws.FnExactWordRace', WHERE WHAT IT READS IS OF BULK AT MOST 1048576: true; the input reads as it did. -/
def fnExactWordRaceUptoRow : OpenClaim := { program := "ytpfaefflbjpllaa", sum := "4a864729ba02478dbaa154363b09c974347fa03accd9a0f8571e07a9694e6062", func := "loop.example/g01401/laws.FnExactWordRace", spec := "fnExactWordRace", unfollowed := true, recurses := true, apart := false, narrowed := true }
def FnExactWordRaceUptoSaid : Prop := fnExactWordRaceUptoRow.holds Try.pinned (OpenSpec.upto fnExactWordRaceSpec)

/-- 'laws.FnExactWordFree', WHERE WHAT IT READS IS OF BULK AT MOST 1048576: true; the input reads as it did. -/
def fnExactWordFreeUptoRow : OpenClaim := { program := "ytpfaefflbjpllaa", sum := "4a864729ba02478dbaa154363b09c974347fa03accd9a0f8571e07a9694e6062", func := "loop.example/g01401/laws.FnExactWordFree", spec := "fnExactWordFree", unfollowed := true, recurses := true, apart := false, narrowed := true }
def FnExactWordFreeUptoSaid : Prop := fnExactWordFreeUptoRow.holds Try.pinned (OpenSpec.upto fnExactWordFreeSpec)

/-- 'laws.FnExactBestRival', WHERE WHAT IT READS IS OF BULK AT MOST 1048576: true; the input reads as it did. -/
def fnExactBestRivalUptoRow : OpenClaim := { program := "ytpfaefflbjpllaa", sum := "4a864729ba02478dbaa154363b09c974347fa03accd9a0f8571e07a9694e6062", func := "loop.example/g01401/laws.FnExactBestRival", spec := "fnExactBestRival", unfollowed := true, recurses := true, apart := false, narrowed := true }
def FnExactBestRivalUptoSaid : Prop := fnExactBestRivalUptoRow.holds Try.pinned (OpenSpec.upto fnExactBestRivalSpec)

/-- 'laws.FnExactWaitsShared', WHERE WHAT IT READS IS OF BULK AT MOST 1048576: true; the input reads as it did. -/
def fnExactWaitsSharedUptoRow : OpenClaim := { program := "ytpfaefflbjpllaa", sum := "4a864729ba02478dbaa154363b09c974347fa03accd9a0f8571e07a9694e6062", func := "loop.example/g01401/laws.FnExactWaitsShared", spec := "fnExactWaitsShared", unfollowed := true, recurses := true, apart := false, narrowed := true }
def FnExactWaitsSharedUptoSaid : Prop := fnExactWaitsSharedUptoRow.holds Try.pinned (OpenSpec.upto fnExactWaitsSharedSpec)

/-- 'laws.FnWordsAwaited', WHERE WHAT IT READS IS OF BULK AT MOST 1048576: true; the input reads as it did. -/
def fnWordsAwaitedUptoRow : OpenClaim := { program := "ytpfaefflbjpllaa", sum := "4a864729ba02478dbaa154363b09c974347fa03accd9a0f8571e07a9694e6062", func := "loop.example/g01401/laws.FnWordsAwaited", spec := "fnWordsAwaited", unfollowed := true, recurses := true, apart := false, narrowed := true }
def FnWordsAwaitedUptoSaid : Prop := fnWordsAwaitedUptoRow.holds Try.pinned (OpenSpec.upto fnWordsAwaitedSpec)

end Rows
end Go.Proofs.Ytpfaefflbjpllaa
