/- The walk of the law FnExactSplitValues. Conditions: none. -/
import Derived.Test.YtajpieblbijciaaSplit
import Derived.Test.YtajpieblbijciaaVal
namespace Go.Proofs.Ytajpieblbijciaa
open Go.ChangeShapes Go.WideShapes Go.ChangeAt Go.RowKit

set_option maxHeartbeats 800000 in
theorem lawSplitValues (a0 : Int) (w : World)  (wf0 : (Lit.int .i64 a0).wf = true) :
    Calls Try.prog 7 #[.int .i64 a0] w fun e w' => e = .returned (.bool true) ∧ Below w.heap.size w w' := by
  have Hs := (fun  (W : World)  => sSplitValues a0 W wf0)
  have Hi := (fun  (W : World)  => iSplitValues a0 W wf0)
  have hl0 := RSplitValues_len0 a0
  generalize (RSplitValues a0).1 = rs0 at *
  generalize (RSplitValues a0).2 = rb1 at *
  have HS := Lib.hid Hs
  have HI := Lib.hid Hi
  clear Hs Hi wf0
  go_enter Try.func7, Try.ntmps7
  go_wp2_with fail
  refine (HS.out  _ ).mono ?_
  rintro e w1 ⟨w_0, rfl, Fw_0_0, hb_1⟩
  have Z1 := hb_1.size
  have A1_ : Below w.heap.size w w1 := ((Below.refl w.heap.size w)).trans (hb_1.mono ((Below.refl w.heap.size w)).size)
  go_wp2_with fail
  refine (HI.out  _ ).mono ?_
  rintro e w2 ⟨g0, rfl, Fg0_0, hb_2⟩
  have Z2 := hb_2.size
  have A2_ : Below w.heap.size w w2 := (A1_).trans (hb_2.mono (A1_).size)
  have Fw_0_1 := (Fw_0_0).below hb_2
  go_wp2_with fail
  refine (eqV _ _ rs0 _ (Fg0_0).rv (Fw_0_1).rv hl0).mono ?_
  rintro e w3 ⟨rfl, hb_3⟩
  have Z3 := hb_3.size
  have A3_ : Below w.heap.size w w3 := (A2_).trans (hb_3.mono (A2_).size)
  have Fw_0_2 := (Fw_0_1).below hb_3
  have Fg0_1 := (Fg0_0).below hb_3
  go_wp2_with fail
  refine (markV _ _ _ rs0 _ 1 _ (by simp) (Fg0_1) hl0 (by omega)).mono ?_
  rintro e w4 ⟨rfl, Mg0_0, G4⟩
  have A4_ : Below w.heap.size w w4 := Below.marked (A3_) (by omega) (by omega) (Fg0_1) G4
  have Fw_0_3 := (Fw_0_2).marked (Fg0_1) G4 (by omega)
  have Z4 := G4.size
  go_wp2_with fail
  refine (heldV _ rs0.length _ 1 _ (by simp) (Mg0_0).rv hl0 (by omega)).mono ?_
  rintro e w' ⟨rfl, rfl⟩
  go_wp2_with fail
  refine (HI.out  _ ).mono ?_
  rintro e w5 ⟨h0, rfl, Fh0_0, hb_5⟩
  have Z5 := hb_5.size
  have A5_ : Below w.heap.size w w5 := (A4_).trans (hb_5.mono (A4_).size)
  have Fw_0_4 := (Fw_0_3).below hb_5
  have Fg0_1 := (Mg0_0).below hb_5
  go_wp2_with fail
  refine (eqV _ _ rs0 _ (Fh0_0).rv (Fw_0_4).rv hl0).mono ?_
  rintro e w6 ⟨rfl, hb_6⟩
  have Z6 := hb_6.size
  have A6_ : Below w.heap.size w w6 := (A5_).trans (hb_6.mono (A5_).size)
  have Fw_0_5 := (Fw_0_4).below hb_6
  have Fg0_2 := (Fg0_1).below hb_6
  have Fh0_1 := (Fh0_0).below hb_6
  go_wp2_with fail
  refine (heldV _ rs0.length _ 1 _ (by simp) (Fg0_2).rv hl0 (by omega)).mono ?_
  rintro e w' ⟨rfl, rfl⟩
  go_wp2
  all_goals go_ret
  all_goals exact ⟨rfl, A6_⟩
end Go.Proofs.Ytajpieblbijciaa
