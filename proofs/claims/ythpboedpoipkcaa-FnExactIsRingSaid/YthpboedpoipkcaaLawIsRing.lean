/- The walk of the law FnExactIsRing. Conditions: none. -/
import Derived.Test.YthpboedpoipkcaaRing2
namespace Go.Proofs.Ythpboedpoipkcaa
open Go.ChangeShapes Go.WideShapes Go.ChangeAt Go.RowKit

set_option maxHeartbeats 800000 in
theorem lawIsRing (A0 : Option Addr) (c0 : Nat) (x0 : List (List Int)) (w : World) (hr0 : RdR w A0 x0.length x0) (hc0 : x0.length ≤ c0) (hb0 : x0.length ≤ 9223372036854775807) (hrw0 : ∀ k, k < x0.length → (x0.getD k []).length ≤ 9223372036854775807)  :
    Calls Try.prog 7 #[.slice A0 x0.length c0] w fun e w' => e = .returned (.bool true) ∧ Below w.heap.size w w' := by
  have HZ := Lib.hid (szDS A0 x0.length c0 x0 w hr0 hb0 hrw0)
  by_cases hn0 : ¬ tot x0 ≤ 1048576
  · rw [show szRes x0 = -1 from by rw [szRes, if_neg hn0]] at HZ
    clear hr0 hrw0
    generalize x0.length = n at *
    go_enter Try.func7, Try.ntmps7
    go_wp2_with (go_at_call 28; refine HZ.out.mono ?_; rintro e w' ⟨rfl, hbz⟩)
    go_ret
    exact ⟨rfl, hbz⟩
  have hm0 : tot x0 ≤ 1048576 := by omega
  have hlx : x0.length ≤ 1048576 := Nat.le_trans (tot_len x0) hm0
  rw [show szRes x0 = 1048576 - (tot x0 : Int) from by rw [szRes, if_pos hm0]] at HZ
  have Hs := (fun (v0 : Value) (W : World) (h0 : RVR W v0 x0) => sIsRing v0 x0 W h0 hm0)
  have Hi := (fun (v0 : Value) (W : World) (h0 : RVR W v0 x0) => iIsRing v0 x0 W h0 hm0)
  generalize (RIsRing x0).1 = rb0 at *
  generalize (RIsRing x0).2 = rb1 at *
  have HS := Lib.hid Hs
  have HI := Lib.hid Hi
  clear Hs Hi 
  have hv0 : RVR w (.slice A0 x0.length c0) x0 := RVR.mk hr0 hc0
  have HV0 := hide hv0
  clear hv0 hr0 hrw0 hn0
  generalize htx : tot x0 = tx at HZ
  have htx2 : tx ≤ 1048576 := by omega
  clear htx
  go_enter Try.func7, Try.ntmps7
  go_wp2_with (go_at_call 28; refine HZ.out.mono ?_; rintro e wz ⟨rfl, hbz⟩; have Zz := hbz.size)
  go_wp2_with fail
  refine (toRV _ x0 _ (HV0.out.below ((hbz))) hm0).mono ?_
  rintro e w1 ⟨tu0, rfl, Fu0_0, hb_1⟩
  have Z1 := hb_1.size
  have A1_ : Below w.heap.size w w1 := ((hbz)).trans (hb_1.mono ((hbz)).size)
  go_wp2_with fail
  refine (HS.out _ _ (Fu0_0).rv).mono ?_
  rintro e w2 ⟨rfl, hb_2⟩
  have Z2 := hb_2.size
  have A2_ : Below w.heap.size w w2 := (A1_).trans (hb_2.mono (A1_).size)
  have Fu0_1 := (Fu0_0).below hb_2
  go_wp2_with fail
  refine (toRV _ x0 _ (HV0.out.below (A2_)) hm0).mono ?_
  rintro e w3 ⟨tx0, rfl, Fx0_0, hb_3⟩
  have Z3 := hb_3.size
  have A3_ : Below w.heap.size w w3 := (A2_).trans (hb_3.mono (A2_).size)
  go_wp2_with fail
  refine (HI.out _ _ (Fx0_0).rv).mono ?_
  rintro e w4 ⟨rfl, hb_4⟩
  have Z4 := hb_4.size
  have A4_ : Below w.heap.size w w4 := (A3_).trans (hb_4.mono (A3_).size)
  have Fx0_1 := (Fx0_0).below hb_4
  go_wp2_with fail
  refine (toRV _ x0 _ (HV0.out.below (A4_)) hm0).mono ?_
  rintro e w5 ⟨ty0, rfl, Fy0_0, hb_5⟩
  have Z5 := hb_5.size
  have A5_ : Below w.heap.size w w5 := (A4_).trans (hb_5.mono (A4_).size)
  have Fx0_2 := (Fx0_1).below hb_5
  go_wp2_with fail
  refine (eqRV _ _ x0 _ (Fx0_2).rv (Fy0_0).rv hm0).mono ?_
  rintro e w6 ⟨rfl, hb_6⟩
  have Z6 := hb_6.size
  have A6_ : Below w.heap.size w w6 := (A5_).trans (hb_6.mono (A5_).size)
  have Fx0_3 := (Fx0_2).below hb_6
  have Fy0_1 := (Fy0_0).below hb_6
  go_wp2
  all_goals go_ret
  all_goals exact ⟨rfl, A6_⟩
end Go.Proofs.Ythpboedpoipkcaa
