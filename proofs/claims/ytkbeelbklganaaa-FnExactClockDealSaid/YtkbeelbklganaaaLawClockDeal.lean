/- The walk of the law FnExactClockDeal. Conditions: none. -/
import Derived.Test.YtkbeelbklganaaaClockS
import Derived.Test.YtkbeelbklganaaaClockW
namespace Go.Proofs.Ytkbeelbklganaaa
open Go.ChangeShapes Go.WideShapes Go.ChangeAt Go.RowKit

set_option maxHeartbeats 800000 in
theorem lawClockDeal (A0 : Option Addr) (c0 : Nat) (x0 : List Int) (a1 : Int) (w : World) (hr0 : Rd w A0 x0.length (iv x0)) (hc0 : x0.length ≤ c0) (hb0 : x0.length ≤ 9223372036854775807) (wf1 : (Lit.int .i64 a1).wf = true) :
    Calls Try.prog 7 #[.slice A0 x0.length c0, .int .i64 a1] w fun e w' => e = .returned (.bool true) ∧ Below w.heap.size w w' := by
  by_cases hn0 : 1048576 < x0.length
  · go_enter Try.func7, Try.ntmps7
    go_wp2
    go_ret
    exact ⟨rfl, Below.refl _ _⟩
  have hm0 : x0.length ≤ 1048576 := by omega
  have Hs := (fun (v0 : Value) (W : World) (h0 : RV W v0 x0) => sClockDeal v0 x0 a1 W h0 hm0 wf1)
  have Hi := (fun (v0 : Value) (W : World) (h0 : RV W v0 x0) => iClockDeal v0 x0 a1 W h0 hm0 wf1)
  generalize (RClockDeal x0 a1).1 = ri0 at *
  generalize (RClockDeal x0 a1).2.1 = rb1 at *
  generalize (RClockDeal x0 a1).2.2 = rb2 at *
  have HS := Lib.hid Hs
  have HI := Lib.hid Hi
  clear Hs Hi wf1
  have hv0 : RV w (.slice A0 x0.length c0) x0 := RV.mk hr0 hc0
  have HV0 := hide hv0
  clear hv0 hr0
  go_enter Try.func7, Try.ntmps7
  go_wp2_with fail
  refine (toV _ x0 _ (HV0.out.below ((Below.refl w.heap.size w))) hm0).mono ?_
  rintro e w1 ⟨tu0, rfl, Fu0_0, hb_1⟩
  have Z1 := hb_1.size
  have A1_ : Below w.heap.size w w1 := ((Below.refl w.heap.size w)).trans (hb_1.mono ((Below.refl w.heap.size w)).size)
  go_wp2_with fail
  refine (HS.out _ _ (Fu0_0).rv).mono ?_
  rintro e w2 ⟨rfl, hb_2⟩
  have Z2 := hb_2.size
  have A2_ : Below w.heap.size w w2 := (A1_).trans (hb_2.mono (A1_).size)
  have Fu0_1 := (Fu0_0).below hb_2
  go_wp2_with fail
  refine (toV _ x0 _ (HV0.out.below (A2_)) hm0).mono ?_
  rintro e w3 ⟨tx0, rfl, Fx0_0, hb_3⟩
  have Z3 := hb_3.size
  have A3_ : Below w.heap.size w w3 := (A2_).trans (hb_3.mono (A2_).size)
  go_wp2_with fail
  refine (HI.out _ _ (Fx0_0).rv).mono ?_
  rintro e w4 ⟨rfl, hb_4⟩
  have Z4 := hb_4.size
  have A4_ : Below w.heap.size w w4 := (A3_).trans (hb_4.mono (A3_).size)
  have Fx0_1 := (Fx0_0).below hb_4
  go_wp2_with fail
  refine (toV _ x0 _ (HV0.out.below (A4_)) hm0).mono ?_
  rintro e w5 ⟨ty0, rfl, Fy0_0, hb_5⟩
  have Z5 := hb_5.size
  have A5_ : Below w.heap.size w w5 := (A4_).trans (hb_5.mono (A4_).size)
  have Fx0_2 := (Fx0_1).below hb_5
  go_wp2_with fail
  refine (eqV _ _ x0 _ (Fx0_2).rv (Fy0_0).rv hm0).mono ?_
  rintro e w6 ⟨rfl, hb_6⟩
  have Z6 := hb_6.size
  have A6_ : Below w.heap.size w w6 := (A5_).trans (hb_6.mono (A5_).size)
  have Fx0_3 := (Fx0_2).below hb_6
  have Fy0_1 := (Fy0_0).below hb_6
  go_wp2
  all_goals go_ret
  all_goals exact ⟨rfl, A6_⟩
end Go.Proofs.Ytkbeelbklganaaa
