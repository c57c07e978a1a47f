/- The walk of the law FnExactTestCounts. Conditions: none. -/
import Derived.Test.YtjeaiihgedennaaTest
import Derived.Test.YtjeaiihgedennaaConv
namespace Go.Proofs.Ytjeaiihgedennaa
open Go.ChangeShapes Go.WideShapes Go.ChangeAt Go.RowKit

set_option maxHeartbeats 800000 in
theorem lawTestCounts (A0 : Option Addr) (c0 : Nat) (x0 : List Int) (A1 : Option Addr) (c1 : Nat) (x1 : List Int) (w : World) (hr0 : Rd w A0 x0.length (iv x0)) (hc0 : x0.length ≤ c0) (hb0 : x0.length ≤ 9223372036854775807) (hr1 : Rd w A1 x1.length (iv x1)) (hc1 : x1.length ≤ c1) (hb1 : x1.length ≤ 9223372036854775807)  :
    Calls Try.prog 7 #[.slice A0 x0.length c0, .slice A1 x1.length c1] w fun e w' => e = .returned (.bool true) ∧ Below w.heap.size w w' := by
  by_cases hn0 : 1048576 < x0.length
  · go_enter Try.func7, Try.ntmps7
    go_wp2
    go_ret
    exact ⟨rfl, Below.refl _ _⟩
  have hm0 : x0.length ≤ 1048576 := by omega
  by_cases hn1 : 1048576 < x1.length
  · go_enter Try.func7, Try.ntmps7
    go_wp2
    go_ret
    exact ⟨rfl, Below.refl _ _⟩
  have hm1 : x1.length ≤ 1048576 := by omega
  have Hs := (fun (v0 : Value) (v1 : Value) (W : World) (h0 : RV W v0 x0) (h1 : RV W v1 x1) => sTestCounts v0 x0 v1 x1 W h0 h1 hm0 hm1)
  have Hi := (fun (v0 : Value) (v1 : Value) (W : World) (h0 : RV W v0 x0) (h1 : RV W v1 x1) => iTestCounts v0 x0 v1 x1 W h0 h1 hm0 hm1)
  obtain ⟨d0, hd0⟩ := conv_ok (RTestCounts_fin x0 x1)
  have hcv0 : ∀ W : World, (convert 22 26 (.float .f32 (RTestCounts x0 x1).1)).run Try.prog W = .ok (.float .f64 d0) W := fun W =>
    run_convert_float_float W 22 26 .f32 .f64 _ d0 (by kernel_rfl) Try.underlying26 hd0
  have HF0 := Lib.hid (fun W => sameF d0 W)
  clear hd0
  generalize (RTestCounts x0 x1).1 = rf0 at *
  generalize (RTestCounts x0 x1).2 = rb1 at *
  have HS := Lib.hid Hs
  have HI := Lib.hid Hi
  clear Hs Hi 
  have hv0 : RV w (.slice A0 x0.length c0) x0 := RV.mk hr0 hc0
  have HV0 := hide hv0
  clear hv0 hr0
  have hv1 : RV w (.slice A1 x1.length c1) x1 := RV.mk hr1 hc1
  have HV1 := hide hv1
  clear hv1 hr1
  go_enter Try.func7, Try.ntmps7
  go_wp2_with fail
  refine (toV _ x0 _ (HV0.out.below ((Below.refl w.heap.size w))) hm0).mono ?_
  rintro e w1 ⟨tu0, rfl, Fu0_0, hb_1⟩
  have Z1 := hb_1.size
  have A1_ : Below w.heap.size w w1 := ((Below.refl w.heap.size w)).trans (hb_1.mono ((Below.refl w.heap.size w)).size)
  go_wp2_with fail
  refine (toV _ x1 _ (HV1.out.below (A1_)) hm1).mono ?_
  rintro e w2 ⟨tu1, rfl, Fu1_0, hb_2⟩
  have Z2 := hb_2.size
  have A2_ : Below w.heap.size w w2 := (A1_).trans (hb_2.mono (A1_).size)
  have Fu0_1 := (Fu0_0).below hb_2
  go_wp2_with fail
  refine (HS.out _ _ _ (Fu0_1).rv (Fu1_0).rv).mono ?_
  rintro e w3 ⟨rfl, hb_3⟩
  have Z3 := hb_3.size
  have A3_ : Below w.heap.size w w3 := (A2_).trans (hb_3.mono (A2_).size)
  have Fu0_2 := (Fu0_1).below hb_3
  have Fu1_1 := (Fu1_0).below hb_3
  go_wp2_with fail
  refine (toV _ x0 _ (HV0.out.below (A3_)) hm0).mono ?_
  rintro e w4 ⟨tx0, rfl, Fx0_0, hb_4⟩
  have Z4 := hb_4.size
  have A4_ : Below w.heap.size w w4 := (A3_).trans (hb_4.mono (A3_).size)
  go_wp2_with fail
  refine (toV _ x1 _ (HV1.out.below (A4_)) hm1).mono ?_
  rintro e w5 ⟨tx1, rfl, Fx1_0, hb_5⟩
  have Z5 := hb_5.size
  have A5_ : Below w.heap.size w w5 := (A4_).trans (hb_5.mono (A4_).size)
  have Fx0_1 := (Fx0_0).below hb_5
  go_wp2_with fail
  refine (HI.out _ _ _ (Fx0_1).rv (Fx1_0).rv).mono ?_
  rintro e w6 ⟨rfl, hb_6⟩
  have Z6 := hb_6.size
  have A6_ : Below w.heap.size w w6 := (A5_).trans (hb_6.mono (A5_).size)
  have Fx0_2 := (Fx0_1).below hb_6
  have Fx1_1 := (Fx1_0).below hb_6
  go_wp2_with fail
  refine (HF0.out _).mono ?_
  rintro e w7 ⟨rfl, hq_7⟩
  have hb_7 := below_of_drew hq_7
  have Z7 := hb_7.size
  have A7_ : Below w.heap.size w w7 := (A6_).trans (hb_7.mono (A6_).size)
  have Fx0_3 := (Fx0_2).below hb_7
  have Fx1_2 := (Fx1_1).below hb_7
  go_wp2_with fail
  refine (toV _ x0 _ (HV0.out.below (A7_)) hm0).mono ?_
  rintro e w8 ⟨ty0, rfl, Fy0_0, hb_8⟩
  have Z8 := hb_8.size
  have A8_ : Below w.heap.size w w8 := (A7_).trans (hb_8.mono (A7_).size)
  have Fx0_4 := (Fx0_3).below hb_8
  have Fx1_3 := (Fx1_2).below hb_8
  go_wp2_with fail
  refine (eqV _ _ x0 _ (Fx0_4).rv (Fy0_0).rv hm0).mono ?_
  rintro e w9 ⟨rfl, hb_9⟩
  have Z9 := hb_9.size
  have A9_ : Below w.heap.size w w9 := (A8_).trans (hb_9.mono (A8_).size)
  have Fx0_5 := (Fx0_4).below hb_9
  have Fx1_4 := (Fx1_3).below hb_9
  have Fy0_1 := (Fy0_0).below hb_9
  go_wp2_with fail
  refine (toV _ x1 _ (HV1.out.below (A9_)) hm1).mono ?_
  rintro e w10 ⟨ty1, rfl, Fy1_0, hb_10⟩
  have Z10 := hb_10.size
  have A10_ : Below w.heap.size w w10 := (A9_).trans (hb_10.mono (A9_).size)
  have Fx0_6 := (Fx0_5).below hb_10
  have Fx1_5 := (Fx1_4).below hb_10
  go_wp2_with fail
  refine (eqV _ _ x1 _ (Fx1_5).rv (Fy1_0).rv hm1).mono ?_
  rintro e w11 ⟨rfl, hb_11⟩
  have Z11 := hb_11.size
  have A11_ : Below w.heap.size w w11 := (A10_).trans (hb_11.mono (A10_).size)
  have Fx0_7 := (Fx0_6).below hb_11
  have Fx1_6 := (Fx1_5).below hb_11
  have Fy1_1 := (Fy1_0).below hb_11
  go_wp2
  all_goals go_ret
  all_goals exact ⟨rfl, A11_⟩
end Go.Proofs.Ytjeaiihgedennaa
