/- The walk of the law FnExactIsCoinPlan. Conditions: none. -/
import Derived.Test.YtafhfcpaofgikaaVal
import Derived.Test.YtafhfcpaofgikaaCoins
namespace Go.Proofs.Ytafhfcpaofgikaa
open Go.ChangeShapes Go.WideShapes Go.ChangeAt Go.RowKit

set_option maxHeartbeats 800000 in
theorem lawIsCoinPlan (a0 : Int) (A1 : Option Addr) (c1 : Nat) (x1 : List Int) (w : World) (hr1 : Rd w A1 x1.length (iv x1)) (hc1 : x1.length ≤ c1) (hb1 : x1.length ≤ 9223372036854775807) (wf0 : (Lit.int .i64 a0).wf = true) :
    Calls Try.prog 4 #[.int .i64 a0, .slice A1 x1.length c1] w fun e w' => e = .returned (.bool true) ∧ Below w.heap.size w w' := by
  by_cases hn1 : 1048576 < x1.length
  · go_enter Try.func4, Try.ntmps4
    go_wp2
    go_ret
    exact ⟨rfl, Below.refl _ _⟩
  have hm1 : x1.length ≤ 1048576 := by omega
  have Hs := (fun (v1 : Value) (W : World) (h1 : RV W v1 x1) => sIsCoinPlan a0 v1 x1 W h1 hm1 wf0)
  have Hi := (fun (v1 : Value) (W : World) (h1 : RV W v1 x1) => iIsCoinPlan a0 v1 x1 W h1 hm1 wf0)
  generalize (RIsCoinPlan a0 x1).1 = rb0 at *
  generalize (RIsCoinPlan a0 x1).2 = rb1 at *
  have HS := Lib.hid Hs
  have HI := Lib.hid Hi
  clear Hs Hi wf0
  have hv1 : RV w (.slice A1 x1.length c1) x1 := RV.mk hr1 hc1
  have HV1 := hide hv1
  clear hv1 hr1
  go_enter Try.func4, Try.ntmps4
  go_wp2_with fail
  refine (toV _ x1 _ (HV1.out.below ((Below.refl w.heap.size w))) hm1).mono ?_
  rintro e w1 ⟨tu1, rfl, Fu1_0, hb_1⟩
  have Z1 := hb_1.size
  have A1_ : Below w.heap.size w w1 := ((Below.refl w.heap.size w)).trans (hb_1.mono ((Below.refl w.heap.size w)).size)
  go_wp2_with fail
  refine (HS.out _ _ (Fu1_0).rv).mono ?_
  rintro e w2 ⟨rfl, hb_2⟩
  have Z2 := hb_2.size
  have A2_ : Below w.heap.size w w2 := (A1_).trans (hb_2.mono (A1_).size)
  have Fu1_1 := (Fu1_0).below hb_2
  go_wp2_with fail
  refine (toV _ x1 _ (HV1.out.below (A2_)) hm1).mono ?_
  rintro e w3 ⟨tx1, rfl, Fx1_0, hb_3⟩
  have Z3 := hb_3.size
  have A3_ : Below w.heap.size w w3 := (A2_).trans (hb_3.mono (A2_).size)
  go_wp2_with fail
  refine (HI.out _ _ (Fx1_0).rv).mono ?_
  rintro e w4 ⟨rfl, hb_4⟩
  have Z4 := hb_4.size
  have A4_ : Below w.heap.size w w4 := (A3_).trans (hb_4.mono (A3_).size)
  have Fx1_1 := (Fx1_0).below hb_4
  go_wp2_with fail
  refine (toV _ x1 _ (HV1.out.below (A4_)) hm1).mono ?_
  rintro e w5 ⟨ty1, rfl, Fy1_0, hb_5⟩
  have Z5 := hb_5.size
  have A5_ : Below w.heap.size w w5 := (A4_).trans (hb_5.mono (A4_).size)
  have Fx1_2 := (Fx1_1).below hb_5
  go_wp2_with fail
  refine (eqV _ _ x1 _ (Fx1_2).rv (Fy1_0).rv hm1).mono ?_
  rintro e w6 ⟨rfl, hb_6⟩
  have Z6 := hb_6.size
  have A6_ : Below w.heap.size w w6 := (A5_).trans (hb_6.mono (A5_).size)
  have Fx1_3 := (Fx1_2).below hb_6
  have Fy1_1 := (Fy1_0).below hb_6
  go_wp2
  all_goals go_ret
  all_goals exact ⟨rfl, A6_⟩
end Go.Proofs.Ytafhfcpaofgikaa
