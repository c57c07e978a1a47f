/- The walk of the law FnExactLearnThrows. Conditions: none. -/
import Derived.Test.YtafhfcpaofgikaaLearn
import Derived.Test.YtafhfcpaofgikaaVal
namespace Go.Proofs.Ytafhfcpaofgikaa
open Go.ChangeShapes Go.WideShapes Go.ChangeAt Go.RowKit

set_option maxHeartbeats 800000 in
theorem lawLearnThrows (A0 : Option Addr) (c0 : Nat) (x0 : List Int) (a1 : Int) (w : World) (hr0 : Rd w A0 x0.length (iv x0)) (hc0 : x0.length ≤ c0) (hb0 : x0.length ≤ 9223372036854775807) (wf1 : (Lit.int .i64 a1).wf = true) :
    Calls Try.prog 7 #[.slice A0 x0.length c0, .int .i64 a1] w fun e w' => e = .returned (.bool true) ∧ Below w.heap.size w w' := by
  by_cases hn0 : 1048576 < x0.length
  · go_enter Try.func7, Try.ntmps7
    go_wp2
    go_ret
    exact ⟨rfl, Below.refl _ _⟩
  have hm0 : x0.length ≤ 1048576 := by omega
  have Hs := (fun (v0 : Value) (W : World) (h0 : RV W v0 x0) => sLearnThrows v0 x0 a1 W h0 hm0 wf1)
  have Hi := (fun (v0 : Value) (W : World) (h0 : RV W v0 x0) => iLearnThrows v0 x0 a1 W h0 hm0 wf1)
  have hl0 := RLearnThrows_len0 x0 a1
  have hl1 := RLearnThrows_len1 x0 a1
  generalize (RLearnThrows x0 a1).1 = rs0 at *
  generalize (RLearnThrows x0 a1).2.1 = rs1 at *
  generalize (RLearnThrows x0 a1).2.2 = rb2 at *
  have HS := Lib.hid Hs
  have HI := Lib.hid Hi
  clear Hs Hi wf1
  have hv0 : RV w (.slice A0 x0.length c0) x0 := RV.mk hr0 hc0
  have HV0 := hide hv0
  clear hv0 hr0
  go_enter Try.func7, Try.ntmps7
  go_wp2_with fail
  refine (toV _ x0 _ (HV0.out.below ((Below.refl w.heap.size w))) hm0).mono ?_
  rintro e w1 ⟨tu0, rfl, Fu0_0, hb_1⟩
  have Z1 := hb_1.size
  have A1_ : Below w.heap.size w w1 := ((Below.refl w.heap.size w)).trans (hb_1.mono ((Below.refl w.heap.size w)).size)
  go_wp2_with fail
  refine (HS.out _ _ (Fu0_0).rv).mono ?_
  rintro e w2 ⟨w_0, w_1, ⟨lo2a, hi2a, lo2b, hi2b, tw2a, tw2b, tw2c, tw2d, tw2e, Fw_0_0, Fw_1_0⟩, rfl, hb_2⟩
  have Z2 := hb_2.size
  have A2_ : Below w.heap.size w w2 := (A1_).trans (hb_2.mono (A1_).size)
  have Fu0_1 := (Fu0_0).below hb_2
  go_wp2_with fail
  refine (toV _ x0 _ (HV0.out.below (A2_)) hm0).mono ?_
  rintro e w3 ⟨tx0, rfl, Fx0_0, hb_3⟩
  have Z3 := hb_3.size
  have A3_ : Below w.heap.size w w3 := (A2_).trans (hb_3.mono (A2_).size)
  have Fw_0_1 := (Fw_0_0).below hb_3
  have Fw_1_1 := (Fw_1_0).below hb_3
  go_wp2_with fail
  refine (HI.out _ _ (Fx0_0).rv).mono ?_
  rintro e w4 ⟨g0, g1, ⟨lo4a, hi4a, lo4b, hi4b, tw4a, tw4b, tw4c, tw4d, tw4e, Fg0_0, Fg1_0⟩, rfl, hb_4⟩
  have Z4 := hb_4.size
  have A4_ : Below w.heap.size w w4 := (A3_).trans (hb_4.mono (A3_).size)
  have Fw_0_2 := (Fw_0_1).below hb_4
  have Fw_1_2 := (Fw_1_1).below hb_4
  have Fx0_1 := (Fx0_0).below hb_4
  go_wp2_with fail
  refine (eqV _ _ rs0 _ (Fg0_0).rv (Fw_0_2).rv hl0).mono ?_
  rintro e w5 ⟨rfl, hb_5⟩
  have Z5 := hb_5.size
  have A5_ : Below w.heap.size w w5 := (A4_).trans (hb_5.mono (A4_).size)
  have Fw_0_3 := (Fw_0_2).below hb_5
  have Fw_1_3 := (Fw_1_2).below hb_5
  have Fx0_2 := (Fx0_1).below hb_5
  have Fg0_1 := (Fg0_0).below hb_5
  have Fg1_1 := (Fg1_0).below hb_5
  go_wp2_with fail
  refine (eqV _ _ rs1 _ (Fg1_1).rv (Fw_1_3).rv hl1).mono ?_
  rintro e w6 ⟨rfl, hb_6⟩
  have Z6 := hb_6.size
  have A6_ : Below w.heap.size w w6 := (A5_).trans (hb_6.mono (A5_).size)
  have Fw_0_4 := (Fw_0_3).below hb_6
  have Fw_1_4 := (Fw_1_3).below hb_6
  have Fx0_3 := (Fx0_2).below hb_6
  have Fg0_2 := (Fg0_1).below hb_6
  have Fg1_2 := (Fg1_1).below hb_6
  go_wp2_with fail
  refine (toV _ x0 _ (HV0.out.below (A6_)) hm0).mono ?_
  rintro e w7 ⟨ty0, rfl, Fy0_0, hb_7⟩
  have Z7 := hb_7.size
  have A7_ : Below w.heap.size w w7 := (A6_).trans (hb_7.mono (A6_).size)
  have Fw_0_5 := (Fw_0_4).below hb_7
  have Fw_1_5 := (Fw_1_4).below hb_7
  have Fx0_4 := (Fx0_3).below hb_7
  have Fg0_3 := (Fg0_2).below hb_7
  have Fg1_3 := (Fg1_2).below hb_7
  go_wp2_with fail
  refine (eqV _ _ x0 _ (Fx0_4).rv (Fy0_0).rv hm0).mono ?_
  rintro e w8 ⟨rfl, hb_8⟩
  have Z8 := hb_8.size
  have A8_ : Below w.heap.size w w8 := (A7_).trans (hb_8.mono (A7_).size)
  have Fw_0_6 := (Fw_0_5).below hb_8
  have Fw_1_6 := (Fw_1_5).below hb_8
  have Fx0_5 := (Fx0_4).below hb_8
  have Fg0_4 := (Fg0_3).below hb_8
  have Fg1_4 := (Fg1_3).below hb_8
  have Fy0_1 := (Fy0_0).below hb_8
  go_wp2_with fail
  refine (markV _ _ _ x0 _ 1 _ (by simp) (Fx0_5) hm0 (by omega)).mono ?_
  rintro e w9 ⟨rfl, Mx0_0, G9⟩
  have A9_ : Below w.heap.size w w9 := Below.marked (A8_) (by omega) (by omega) (Fx0_5) G9
  have Fw_0_7 := (Fw_0_6).marked (Fx0_5) G9 (by omega)
  have Fw_1_7 := (Fw_1_6).marked (Fx0_5) G9 (by omega)
  have Fg0_5 := (Fg0_4).marked (Fx0_5) G9 (by omega)
  have Fg1_5 := (Fg1_4).marked (Fx0_5) G9 (by omega)
  have Z9 := G9.size
  go_wp2_with fail
  refine (eqV _ _ rs0 _ (Fg0_5).rv (Fw_0_7).rv hl0).mono ?_
  rintro e w10 ⟨rfl, hb_10⟩
  have Z10 := hb_10.size
  have A10_ : Below w.heap.size w w10 := (A9_).trans (hb_10.mono (A9_).size)
  have Fw_0_8 := (Fw_0_7).below hb_10
  have Fw_1_8 := (Fw_1_7).below hb_10
  have Fg0_6 := (Fg0_5).below hb_10
  have Fg1_6 := (Fg1_5).below hb_10
  go_wp2_with fail
  refine (eqV _ _ rs1 _ (Fg1_6).rv (Fw_1_8).rv hl1).mono ?_
  rintro e w11 ⟨rfl, hb_11⟩
  have Z11 := hb_11.size
  have A11_ : Below w.heap.size w w11 := (A10_).trans (hb_11.mono (A10_).size)
  have Fw_0_9 := (Fw_0_8).below hb_11
  have Fw_1_9 := (Fw_1_8).below hb_11
  have Fg0_7 := (Fg0_6).below hb_11
  have Fg1_7 := (Fg1_6).below hb_11
  go_wp2_with fail
  refine (markV _ _ _ rs0 _ 1 _ (by simp) (Fg0_7) hl0 (by omega)).mono ?_
  rintro e w12 ⟨rfl, Mg0_0, G12⟩
  have A12_ : Below w.heap.size w w12 := Below.marked (A11_) (by omega) (by omega) (Fg0_7) G12
  have Fw_0_10 := (Fw_0_9).marked (Fg0_7) G12 (by omega)
  have Fw_1_10 := (Fw_1_9).marked (Fg0_7) G12 (by omega)
  have Fg1_8 := (Fg1_7).marked (Fg0_7) G12 (by omega)
  have Z12 := G12.size
  go_wp2_with fail
  refine (markV _ _ _ rs1 _ (1 + rs0.length) _ (by simp) (Fg1_8) hl1 (by omega)).mono ?_
  rintro e w13 ⟨rfl, Mg1_0, G13⟩
  have A13_ : Below w.heap.size w w13 := Below.marked (A12_) (by omega) (by omega) (Fg1_8) G13
  have Fw_0_11 := (Fw_0_10).marked (Fg1_8) G13 (by omega)
  have Fw_1_11 := (Fw_1_10).marked (Fg1_8) G13 (by omega)
  have Fg0_1 := (Mg0_0).marked (Fg1_8) G13 (by omega)
  have Z13 := G13.size
  go_wp2_with fail
  refine (heldV _ rs0.length _ 1 _ (by simp) (Fg0_1).rv hl0 (by omega)).mono ?_
  rintro e w' ⟨rfl, rfl⟩
  go_wp2_with fail
  refine (heldV _ rs1.length _ (1 + rs0.length) _ (by simp) (Mg1_0).rv hl1 (by omega)).mono ?_
  rintro e w' ⟨rfl, rfl⟩
  go_wp2_with fail
  refine (toV _ x0 _ (HV0.out.below (A13_)) hm0).mono ?_
  rintro e w14 ⟨tz0, rfl, Fz0_0, hb_14⟩
  have Z14 := hb_14.size
  have A14_ : Below w.heap.size w w14 := (A13_).trans (hb_14.mono (A13_).size)
  have Fw_0_12 := (Fw_0_11).below hb_14
  have Fw_1_12 := (Fw_1_11).below hb_14
  have Fg0_2 := (Fg0_1).below hb_14
  have Fg1_1 := (Mg1_0).below hb_14
  go_wp2_with fail
  refine (HI.out _ _ (Fz0_0).rv).mono ?_
  rintro e w15 ⟨h0, h1, ⟨lo15a, hi15a, lo15b, hi15b, tw15a, tw15b, tw15c, tw15d, tw15e, Fh0_0, Fh1_0⟩, rfl, hb_15⟩
  have Z15 := hb_15.size
  have A15_ : Below w.heap.size w w15 := (A14_).trans (hb_15.mono (A14_).size)
  have Fw_0_13 := (Fw_0_12).below hb_15
  have Fw_1_13 := (Fw_1_12).below hb_15
  have Fg0_3 := (Fg0_2).below hb_15
  have Fg1_2 := (Fg1_1).below hb_15
  have Fz0_1 := (Fz0_0).below hb_15
  go_wp2_with fail
  refine (eqV _ _ rs0 _ (Fh0_0).rv (Fw_0_13).rv hl0).mono ?_
  rintro e w16 ⟨rfl, hb_16⟩
  have Z16 := hb_16.size
  have A16_ : Below w.heap.size w w16 := (A15_).trans (hb_16.mono (A15_).size)
  have Fw_0_14 := (Fw_0_13).below hb_16
  have Fw_1_14 := (Fw_1_13).below hb_16
  have Fg0_4 := (Fg0_3).below hb_16
  have Fg1_3 := (Fg1_2).below hb_16
  have Fh0_1 := (Fh0_0).below hb_16
  have Fh1_1 := (Fh1_0).below hb_16
  go_wp2_with fail
  refine (eqV _ _ rs1 _ (Fh1_1).rv (Fw_1_14).rv hl1).mono ?_
  rintro e w17 ⟨rfl, hb_17⟩
  have Z17 := hb_17.size
  have A17_ : Below w.heap.size w w17 := (A16_).trans (hb_17.mono (A16_).size)
  have Fw_0_15 := (Fw_0_14).below hb_17
  have Fw_1_15 := (Fw_1_14).below hb_17
  have Fg0_5 := (Fg0_4).below hb_17
  have Fg1_4 := (Fg1_3).below hb_17
  have Fh0_2 := (Fh0_1).below hb_17
  have Fh1_2 := (Fh1_1).below hb_17
  go_wp2_with fail
  refine (heldV _ rs0.length _ 1 _ (by simp) (Fg0_5).rv hl0 (by omega)).mono ?_
  rintro e w' ⟨rfl, rfl⟩
  go_wp2_with fail
  refine (heldV _ rs1.length _ (1 + rs0.length) _ (by simp) (Fg1_4).rv hl1 (by omega)).mono ?_
  rintro e w' ⟨rfl, rfl⟩
  go_wp2
  all_goals go_ret
  all_goals exact ⟨rfl, A17_⟩
end Go.Proofs.Ytafhfcpaofgikaa
