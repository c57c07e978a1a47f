/- The walk of the law FnExactCoinsLeft. Conditions: none. -/
import Derived.Test.YtafhfcpaofgikaaVal
import Derived.Test.YtafhfcpaofgikaaLeft
namespace Go.Proofs.Ytafhfcpaofgikaa
open Go.ChangeShapes Go.WideShapes Go.ChangeAt Go.RowKit

set_option maxHeartbeats 800000 in
theorem lawCoinsLeft (a0 : Int) (A1 : Option Addr) (c1 : Nat) (x1 : List Int) (A2 : Option Addr) (c2 : Nat) (x2 : List Int) (w : World) (hr1 : Rd w A1 x1.length (iv x1)) (hc1 : x1.length ≤ c1) (hb1 : x1.length ≤ 9223372036854775807) (hr2 : Rd w A2 x2.length (iv x2)) (hc2 : x2.length ≤ c2) (hb2 : x2.length ≤ 9223372036854775807) (wf0 : (Lit.int .i64 a0).wf = true) :
    Calls Try.prog 5 #[.int .i64 a0, .slice A1 x1.length c1, .slice A2 x2.length c2] w fun e w' => e = .returned (.bool true) ∧ Below w.heap.size w w' := by
  by_cases hn1 : 1048576 < x1.length
  · go_enter Try.func5, Try.ntmps5
    go_wp2
    go_ret
    exact ⟨rfl, Below.refl _ _⟩
  have hm1 : x1.length ≤ 1048576 := by omega
  by_cases hn2 : 1048576 < x2.length
  · go_enter Try.func5, Try.ntmps5
    go_wp2
    go_ret
    exact ⟨rfl, Below.refl _ _⟩
  have hm2 : x2.length ≤ 1048576 := by omega
  have Hs := (fun (v1 : Value) (v2 : Value) (W : World) (h1 : RV W v1 x1) (h2 : RV W v2 x2) => sCoinsLeft a0 v1 x1 v2 x2 W h1 h2 hm1 hm2 wf0)
  have Hi := (fun (v1 : Value) (v2 : Value) (W : World) (h1 : RV W v1 x1) (h2 : RV W v2 x2) => iCoinsLeft a0 v1 x1 v2 x2 W h1 h2 hm1 hm2 wf0)
  have hl0 := RCoinsLeft_len0 a0 x1 x2
  generalize (RCoinsLeft a0 x1 x2).1 = rs0 at *
  generalize (RCoinsLeft a0 x1 x2).2 = rb1 at *
  have HS := Lib.hid Hs
  have HI := Lib.hid Hi
  clear Hs Hi wf0
  have hv1 : RV w (.slice A1 x1.length c1) x1 := RV.mk hr1 hc1
  have HV1 := hide hv1
  clear hv1 hr1
  have hv2 : RV w (.slice A2 x2.length c2) x2 := RV.mk hr2 hc2
  have HV2 := hide hv2
  clear hv2 hr2
  go_enter Try.func5, Try.ntmps5
  go_wp2_with fail
  refine (toV _ x1 _ (HV1.out.below ((Below.refl w.heap.size w))) hm1).mono ?_
  rintro e w1 ⟨tu1, rfl, Fu1_0, hb_1⟩
  have Z1 := hb_1.size
  have A1_ : Below w.heap.size w w1 := ((Below.refl w.heap.size w)).trans (hb_1.mono ((Below.refl w.heap.size w)).size)
  go_wp2_with fail
  refine (toV _ x2 _ (HV2.out.below (A1_)) hm2).mono ?_
  rintro e w2 ⟨tu2, rfl, Fu2_0, hb_2⟩
  have Z2 := hb_2.size
  have A2_ : Below w.heap.size w w2 := (A1_).trans (hb_2.mono (A1_).size)
  have Fu1_1 := (Fu1_0).below hb_2
  go_wp2_with fail
  refine (HS.out _ _ _ (Fu1_1).rv (Fu2_0).rv).mono ?_
  rintro e w3 ⟨w_0, rfl, Fw_0_0, hb_3⟩
  have Z3 := hb_3.size
  have A3_ : Below w.heap.size w w3 := (A2_).trans (hb_3.mono (A2_).size)
  have Fu1_2 := (Fu1_1).below hb_3
  have Fu2_1 := (Fu2_0).below hb_3
  go_wp2_with fail
  refine (toV _ x1 _ (HV1.out.below (A3_)) hm1).mono ?_
  rintro e w4 ⟨tx1, rfl, Fx1_0, hb_4⟩
  have Z4 := hb_4.size
  have A4_ : Below w.heap.size w w4 := (A3_).trans (hb_4.mono (A3_).size)
  have Fw_0_1 := (Fw_0_0).below hb_4
  go_wp2_with fail
  refine (toV _ x2 _ (HV2.out.below (A4_)) hm2).mono ?_
  rintro e w5 ⟨tx2, rfl, Fx2_0, hb_5⟩
  have Z5 := hb_5.size
  have A5_ : Below w.heap.size w w5 := (A4_).trans (hb_5.mono (A4_).size)
  have Fw_0_2 := (Fw_0_1).below hb_5
  have Fx1_1 := (Fx1_0).below hb_5
  go_wp2_with fail
  refine (HI.out _ _ _ (Fx1_1).rv (Fx2_0).rv).mono ?_
  rintro e w6 ⟨g0, rfl, Fg0_0, hb_6⟩
  have Z6 := hb_6.size
  have A6_ : Below w.heap.size w w6 := (A5_).trans (hb_6.mono (A5_).size)
  have Fw_0_3 := (Fw_0_2).below hb_6
  have Fx1_2 := (Fx1_1).below hb_6
  have Fx2_1 := (Fx2_0).below hb_6
  go_wp2_with fail
  refine (eqV _ _ rs0 _ (Fg0_0).rv (Fw_0_3).rv hl0).mono ?_
  rintro e w7 ⟨rfl, hb_7⟩
  have Z7 := hb_7.size
  have A7_ : Below w.heap.size w w7 := (A6_).trans (hb_7.mono (A6_).size)
  have Fw_0_4 := (Fw_0_3).below hb_7
  have Fx1_3 := (Fx1_2).below hb_7
  have Fx2_2 := (Fx2_1).below hb_7
  have Fg0_1 := (Fg0_0).below hb_7
  go_wp2_with fail
  refine (toV _ x1 _ (HV1.out.below (A7_)) hm1).mono ?_
  rintro e w8 ⟨ty1, rfl, Fy1_0, hb_8⟩
  have Z8 := hb_8.size
  have A8_ : Below w.heap.size w w8 := (A7_).trans (hb_8.mono (A7_).size)
  have Fw_0_5 := (Fw_0_4).below hb_8
  have Fx1_4 := (Fx1_3).below hb_8
  have Fx2_3 := (Fx2_2).below hb_8
  have Fg0_2 := (Fg0_1).below hb_8
  go_wp2_with fail
  refine (eqV _ _ x1 _ (Fx1_4).rv (Fy1_0).rv hm1).mono ?_
  rintro e w9 ⟨rfl, hb_9⟩
  have Z9 := hb_9.size
  have A9_ : Below w.heap.size w w9 := (A8_).trans (hb_9.mono (A8_).size)
  have Fw_0_6 := (Fw_0_5).below hb_9
  have Fx1_5 := (Fx1_4).below hb_9
  have Fx2_4 := (Fx2_3).below hb_9
  have Fg0_3 := (Fg0_2).below hb_9
  have Fy1_1 := (Fy1_0).below hb_9
  go_wp2_with fail
  refine (toV _ x2 _ (HV2.out.below (A9_)) hm2).mono ?_
  rintro e w10 ⟨ty2, rfl, Fy2_0, hb_10⟩
  have Z10 := hb_10.size
  have A10_ : Below w.heap.size w w10 := (A9_).trans (hb_10.mono (A9_).size)
  have Fw_0_7 := (Fw_0_6).below hb_10
  have Fx1_6 := (Fx1_5).below hb_10
  have Fx2_5 := (Fx2_4).below hb_10
  have Fg0_4 := (Fg0_3).below hb_10
  go_wp2_with fail
  refine (eqV _ _ x2 _ (Fx2_5).rv (Fy2_0).rv hm2).mono ?_
  rintro e w11 ⟨rfl, hb_11⟩
  have Z11 := hb_11.size
  have A11_ : Below w.heap.size w w11 := (A10_).trans (hb_11.mono (A10_).size)
  have Fw_0_8 := (Fw_0_7).below hb_11
  have Fx1_7 := (Fx1_6).below hb_11
  have Fx2_6 := (Fx2_5).below hb_11
  have Fg0_5 := (Fg0_4).below hb_11
  have Fy2_1 := (Fy2_0).below hb_11
  go_wp2_with fail
  refine (markV _ _ _ x1 _ 1 _ (by simp) (Fx1_7) hm1 (by omega)).mono ?_
  rintro e w12 ⟨rfl, Mx1_0, G12⟩
  have A12_ : Below w.heap.size w w12 := Below.marked (A11_) (by omega) (by omega) (Fx1_7) G12
  have Fw_0_9 := (Fw_0_8).marked (Fx1_7) G12 (by omega)
  have Fx2_7 := (Fx2_6).marked (Fx1_7) G12 (by omega)
  have Fg0_6 := (Fg0_5).marked (Fx1_7) G12 (by omega)
  have Z12 := G12.size
  go_wp2_with fail
  refine (markV _ _ _ x2 _ (1 + x1.length) _ (by simp) (Fx2_7) hm2 (by omega)).mono ?_
  rintro e w13 ⟨rfl, Mx2_0, G13⟩
  have A13_ : Below w.heap.size w w13 := Below.marked (A12_) (by omega) (by omega) (Fx2_7) G13
  have Fw_0_10 := (Fw_0_9).marked (Fx2_7) G13 (by omega)
  have Fx1_1 := (Mx1_0).marked (Fx2_7) G13 (by omega)
  have Fg0_7 := (Fg0_6).marked (Fx2_7) G13 (by omega)
  have Z13 := G13.size
  go_wp2_with fail
  refine (eqV _ _ rs0 _ (Fg0_7).rv (Fw_0_10).rv hl0).mono ?_
  rintro e w14 ⟨rfl, hb_14⟩
  have Z14 := hb_14.size
  have A14_ : Below w.heap.size w w14 := (A13_).trans (hb_14.mono (A13_).size)
  have Fw_0_11 := (Fw_0_10).below hb_14
  have Fg0_8 := (Fg0_7).below hb_14
  go_wp2_with fail
  refine (markV _ _ _ rs0 _ 1 _ (by simp) (Fg0_8) hl0 (by omega)).mono ?_
  rintro e w15 ⟨rfl, Mg0_0, G15⟩
  have A15_ : Below w.heap.size w w15 := Below.marked (A14_) (by omega) (by omega) (Fg0_8) G15
  have Fw_0_12 := (Fw_0_11).marked (Fg0_8) G15 (by omega)
  have Z15 := G15.size
  go_wp2_with fail
  refine (heldV _ rs0.length _ 1 _ (by simp) (Mg0_0).rv hl0 (by omega)).mono ?_
  rintro e w' ⟨rfl, rfl⟩
  go_wp2_with fail
  refine (toV _ x1 _ (HV1.out.below (A15_)) hm1).mono ?_
  rintro e w16 ⟨tz1, rfl, Fz1_0, hb_16⟩
  have Z16 := hb_16.size
  have A16_ : Below w.heap.size w w16 := (A15_).trans (hb_16.mono (A15_).size)
  have Fw_0_13 := (Fw_0_12).below hb_16
  have Fg0_1 := (Mg0_0).below hb_16
  go_wp2_with fail
  refine (toV _ x2 _ (HV2.out.below (A16_)) hm2).mono ?_
  rintro e w17 ⟨tz2, rfl, Fz2_0, hb_17⟩
  have Z17 := hb_17.size
  have A17_ : Below w.heap.size w w17 := (A16_).trans (hb_17.mono (A16_).size)
  have Fw_0_14 := (Fw_0_13).below hb_17
  have Fg0_2 := (Fg0_1).below hb_17
  have Fz1_1 := (Fz1_0).below hb_17
  go_wp2_with fail
  refine (HI.out _ _ _ (Fz1_1).rv (Fz2_0).rv).mono ?_
  rintro e w18 ⟨h0, rfl, Fh0_0, hb_18⟩
  have Z18 := hb_18.size
  have A18_ : Below w.heap.size w w18 := (A17_).trans (hb_18.mono (A17_).size)
  have Fw_0_15 := (Fw_0_14).below hb_18
  have Fg0_3 := (Fg0_2).below hb_18
  have Fz1_2 := (Fz1_1).below hb_18
  have Fz2_1 := (Fz2_0).below hb_18
  go_wp2_with fail
  refine (eqV _ _ rs0 _ (Fh0_0).rv (Fw_0_15).rv hl0).mono ?_
  rintro e w19 ⟨rfl, hb_19⟩
  have Z19 := hb_19.size
  have A19_ : Below w.heap.size w w19 := (A18_).trans (hb_19.mono (A18_).size)
  have Fw_0_16 := (Fw_0_15).below hb_19
  have Fg0_4 := (Fg0_3).below hb_19
  have Fh0_1 := (Fh0_0).below hb_19
  go_wp2_with fail
  refine (heldV _ rs0.length _ 1 _ (by simp) (Fg0_4).rv hl0 (by omega)).mono ?_
  rintro e w' ⟨rfl, rfl⟩
  go_wp2
  all_goals go_ret
  all_goals exact ⟨rfl, A19_⟩
end Go.Proofs.Ytafhfcpaofgikaa
