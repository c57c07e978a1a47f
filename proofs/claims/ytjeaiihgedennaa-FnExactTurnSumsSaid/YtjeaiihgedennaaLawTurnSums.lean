/- The walk of the law FnExactTurnSums. Conditions: none. -/
import Derived.Test.YtjeaiihgedennaaTurnI
import Derived.Test.YtjeaiihgedennaaTurnS
namespace Go.Proofs.Ytjeaiihgedennaa
open Go.ChangeShapes Go.WideShapes Go.ChangeAt Go.RowKit

set_option maxHeartbeats 800000 in
theorem lawTurnSums (A0 : Option Addr) (c0 : Nat) (x0 : List (List Int)) (w : World) (hr0 : RdR w A0 x0.length x0) (hc0 : x0.length ≤ c0) (hb0 : x0.length ≤ 9223372036854775807) (hrw0 : ∀ k, k < x0.length → (x0.getD k []).length ≤ 9223372036854775807)  :
    Calls Try.prog 6 #[.slice A0 x0.length c0] w fun e w' => e = .returned (.bool true) ∧ Below w.heap.size w w' := by
  have HZ := Lib.hid (szDS A0 x0.length c0 x0 w hr0 hb0 hrw0)
  by_cases hn0 : ¬ tot x0 ≤ 1048576
  · rw [show szRes x0 = -1 from by rw [szRes, if_neg hn0]] at HZ
    clear hr0 hrw0
    generalize x0.length = n at *
    go_enter Try.func6, Try.ntmps6
    go_wp2_with (go_at_call 15; refine HZ.out.mono ?_; rintro e w' ⟨rfl, hbz⟩)
    go_ret
    exact ⟨rfl, hbz⟩
  have hm0 : tot x0 ≤ 1048576 := by omega
  have hlx : x0.length ≤ 1048576 := Nat.le_trans (tot_len x0) hm0
  rw [show szRes x0 = 1048576 - (tot x0 : Int) from by rw [szRes, if_pos hm0]] at HZ
  have Hs := (fun (v0 : Value) (W : World) (h0 : RVR W v0 x0) => sTurnSums v0 x0 W h0 hm0)
  have Hi := (fun (v0 : Value) (W : World) (h0 : RVR W v0 x0) => iTurnSums v0 x0 W h0 hm0)
  have hl00 := RTurnSums_len0 x0
  have hl0 : (RTurnSums x0).1.length ≤ 1048576 := Nat.le_trans hl00 (by decide)
  have HFin := hide (RTurnSums_fin x0)
  clear hl00
  generalize (RTurnSums x0).1 = rs0 at *
  generalize (RTurnSums x0).2 = rb1 at *
  have HS := Lib.hid Hs
  have HI := Lib.hid Hi
  clear Hs Hi 
  have hv0 : RVR w (.slice A0 x0.length c0) x0 := RVR.mk hr0 hc0
  have HV0 := hide hv0
  clear hv0 hr0 hrw0 hn0
  generalize htx : tot x0 = tx at HZ
  have htx2 : tx ≤ 1048576 := by omega
  clear htx
  go_enter Try.func6, Try.ntmps6
  go_wp2_with (go_at_call 15; refine HZ.out.mono ?_; rintro e wz ⟨rfl, hbz⟩; have Zz := hbz.size)
  go_wp2_with fail
  refine (toRV _ x0 _ (HV0.out.below ((hbz))) hm0).mono ?_
  rintro e w1 ⟨tu0, rfl, Fu0_0, hb_1⟩
  have Z1 := hb_1.size
  have A1_ : Below w.heap.size w w1 := ((hbz)).trans (hb_1.mono ((hbz)).size)
  go_wp2_with fail
  refine (HS.out _ _ (Fu0_0).rv).mono ?_
  rintro e w2 ⟨w_0, rfl, Fw_0_0, hb_2⟩
  have Z2 := hb_2.size
  have A2_ : Below w.heap.size w w2 := (A1_).trans (hb_2.mono (A1_).size)
  have Fu0_1 := (Fu0_0).below hb_2
  go_wp2_with fail
  refine (toRV _ x0 _ (HV0.out.below (A2_)) hm0).mono ?_
  rintro e w3 ⟨tx0, rfl, Fx0_0, hb_3⟩
  have Z3 := hb_3.size
  have A3_ : Below w.heap.size w w3 := (A2_).trans (hb_3.mono (A2_).size)
  have Fw_0_1 := (Fw_0_0).below hb_3
  go_wp2_with fail
  refine (HI.out _ _ (Fx0_0).rv).mono ?_
  rintro e w4 ⟨g0, rfl, Fg0_0, hb_4⟩
  have Z4 := hb_4.size
  have A4_ : Below w.heap.size w w4 := (A3_).trans (hb_4.mono (A3_).size)
  have Fw_0_2 := (Fw_0_1).below hb_4
  have Fx0_1 := (Fx0_0).below hb_4
  go_wp2_with fail
  refine (eqC _ _ rs0 _ HFin.out (Fg0_0).rv (Fw_0_2).rv hl0).mono ?_
  rintro e w5 ⟨rfl, hb_5⟩
  have Z5 := hb_5.size
  have A5_ : Below w.heap.size w w5 := (A4_).trans (hb_5.mono (A4_).size)
  have Fw_0_3 := (Fw_0_2).below hb_5
  have Fx0_2 := (Fx0_1).below hb_5
  have Fg0_1 := (Fg0_0).below hb_5
  go_wp2_with fail
  refine (toRV _ x0 _ (HV0.out.below (A5_)) hm0).mono ?_
  rintro e w6 ⟨ty0, rfl, Fy0_0, hb_6⟩
  have Z6 := hb_6.size
  have A6_ : Below w.heap.size w w6 := (A5_).trans (hb_6.mono (A5_).size)
  have Fw_0_4 := (Fw_0_3).below hb_6
  have Fx0_3 := (Fx0_2).below hb_6
  have Fg0_2 := (Fg0_1).below hb_6
  go_wp2_with fail
  refine (eqRV _ _ x0 _ (Fx0_3).rv (Fy0_0).rv hm0).mono ?_
  rintro e w7 ⟨rfl, hb_7⟩
  have Z7 := hb_7.size
  have A7_ : Below w.heap.size w w7 := (A6_).trans (hb_7.mono (A6_).size)
  have Fw_0_5 := (Fw_0_4).below hb_7
  have Fx0_4 := (Fx0_3).below hb_7
  have Fg0_3 := (Fg0_2).below hb_7
  have Fy0_1 := (Fy0_0).below hb_7
  go_wp2_with fail
  refine (markRV _ _ _ x0 _ (Fx0_4) hm0).mono ?_
  rintro e w8 ⟨rfl, G8⟩
  have A8_ : Below w.heap.size w w8 := Kept.to_below (A7_) G8 (by omega) (by omega)
  have Fw_0_6 := (Fw_0_5).kept G8 (by omega)
  have Fg0_4 := (Fg0_3).kept G8 (by omega)
  have Z8 := G8.size
  go_wp2_with fail
  refine (eqC _ _ rs0 _ HFin.out (Fg0_4).rv (Fw_0_6).rv hl0).mono ?_
  rintro e w9 ⟨rfl, hb_9⟩
  have Z9 := hb_9.size
  have A9_ : Below w.heap.size w w9 := (A8_).trans (hb_9.mono (A8_).size)
  have Fw_0_7 := (Fw_0_6).below hb_9
  have Fg0_5 := (Fg0_4).below hb_9
  go_wp2_with fail
  refine (markC _ _ _ rs0 _ 1 _ (by simp) (Fg0_5) hl0 (by omega)).mono ?_
  rintro e w10 ⟨rfl, Mg0_0, G10⟩
  have A10_ : Below w.heap.size w w10 := Below.markedC (A9_) (by omega) (by omega) (Fg0_5) G10
  have Fw_0_8 := (Fw_0_7).marked (Fg0_5) G10 (by omega)
  have Z10 := G10.size
  go_wp2_with fail
  refine (heldC _ rs0.length _ 1 _ (by simp) (Mg0_0).rv hl0 (by omega)).mono ?_
  rintro e w' ⟨rfl, rfl⟩
  go_wp2_with fail
  refine (toRV _ x0 _ (HV0.out.below (A10_)) hm0).mono ?_
  rintro e w11 ⟨tz0, rfl, Fz0_0, hb_11⟩
  have Z11 := hb_11.size
  have A11_ : Below w.heap.size w w11 := (A10_).trans (hb_11.mono (A10_).size)
  have Fw_0_9 := (Fw_0_8).below hb_11
  have Fg0_1 := (Mg0_0).below hb_11
  go_wp2_with fail
  refine (HI.out _ _ (Fz0_0).rv).mono ?_
  rintro e w12 ⟨h0, rfl, Fh0_0, hb_12⟩
  have Z12 := hb_12.size
  have A12_ : Below w.heap.size w w12 := (A11_).trans (hb_12.mono (A11_).size)
  have Fw_0_10 := (Fw_0_9).below hb_12
  have Fg0_2 := (Fg0_1).below hb_12
  have Fz0_1 := (Fz0_0).below hb_12
  go_wp2_with fail
  refine (eqC _ _ rs0 _ HFin.out (Fh0_0).rv (Fw_0_10).rv hl0).mono ?_
  rintro e w13 ⟨rfl, hb_13⟩
  have Z13 := hb_13.size
  have A13_ : Below w.heap.size w w13 := (A12_).trans (hb_13.mono (A12_).size)
  have Fw_0_11 := (Fw_0_10).below hb_13
  have Fg0_3 := (Fg0_2).below hb_13
  have Fh0_1 := (Fh0_0).below hb_13
  go_wp2_with fail
  refine (heldC _ rs0.length _ 1 _ (by simp) (Fg0_3).rv hl0 (by omega)).mono ?_
  rintro e w' ⟨rfl, rfl⟩
  go_wp2
  all_goals go_ret
  all_goals exact ⟨rfl, A13_⟩
end Go.Proofs.Ytjeaiihgedennaa
