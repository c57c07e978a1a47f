/- The walk of the law FnExactBallotWays. Conditions: none. -/
import Derived.Test.YtbganjcnhnkakaaBalI
namespace Go.Proofs.Ytbganjcnhnkakaa
open Go.ChangeShapes Go.WideShapes Go.ChangeAt Go.RowKit

set_option maxHeartbeats 800000 in
theorem lawBallotWays (a0 : Int) (a1 : Int) (a2 : Bool) (w : World)  (wf0 : (Lit.int .i64 a0).wf = true) (wf1 : (Lit.int .i64 a1).wf = true) :
    Calls Try.prog 5 #[.int .i64 a0, .int .i64 a1, .bool a2] w fun e w' => e = .returned (.bool true) ∧ Below w.heap.size w w' := by
  have Hs := (fun  (W : World)  => sBallotWays a0 a1 a2 W wf0 wf1)
  have Hi := (fun  (W : World)  => iBallotWays a0 a1 a2 W wf0 wf1)
  generalize (RBallotWays a0 a1 a2).1 = ri0 at *
  generalize (RBallotWays a0 a1 a2).2 = rb1 at *
  have HS := Lib.hid Hs
  have HI := Lib.hid Hi
  clear Hs Hi wf0 wf1
  go_enter Try.func5, Try.ntmps5
  go_wp2_with fail
  refine (HS.out  _ ).mono ?_
  rintro e w1 ⟨rfl, hb_1⟩
  have Z1 := hb_1.size
  have A1_ : Below w.heap.size w w1 := ((Below.refl w.heap.size w)).trans (hb_1.mono ((Below.refl w.heap.size w)).size)
  go_wp2_with fail
  refine (HI.out  _ ).mono ?_
  rintro e w2 ⟨rfl, hb_2⟩
  have Z2 := hb_2.size
  have A2_ : Below w.heap.size w w2 := (A1_).trans (hb_2.mono (A1_).size)
  go_wp2
  all_goals go_ret
  all_goals exact ⟨rfl, A2_⟩
end Go.Proofs.Ytbganjcnhnkakaa
