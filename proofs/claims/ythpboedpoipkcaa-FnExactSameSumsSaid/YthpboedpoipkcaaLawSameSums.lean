/- The walk of the law FnExactSameSums. Conditions: none. -/
import Derived.Test.YthpboedpoipkcaaSameS
namespace Go.Proofs.Ythpboedpoipkcaa
open Go.ChangeShapes Go.WideShapes Go.ChangeAt Go.RowKit

set_option maxHeartbeats 800000 in
theorem lawSameSums (A0 : Option Addr) (c0 : Nat) (x0 : List (List Int)) (A1 : Option Addr) (c1 : Nat) (x1 : List (List Int)) (w : World) (hr0 : RdR w A0 x0.length x0) (hc0 : x0.length ≤ c0) (hb0 : x0.length ≤ 9223372036854775807) (hrw0 : ∀ k, k < x0.length → (x0.getD k []).length ≤ 9223372036854775807) (hr1 : RdR w A1 x1.length x1) (hc1 : x1.length ≤ c1) (hb1 : x1.length ≤ 9223372036854775807) (hrw1 : ∀ k, k < x1.length → (x1.getD k []).length ≤ 9223372036854775807)  :
    Calls Try.prog 10 #[.slice A0 x0.length c0, .slice A1 x1.length c1] w fun e w' => e = .returned (.bool true) ∧ Below w.heap.size w w' := by
  have HZ := Lib.hid (szDS A0 x0.length c0 x0 w hr0 hb0 hrw0)
  by_cases hn0 : ¬ tot x0 ≤ 1048576
  · rw [show szRes x0 = -1 from by rw [szRes, if_neg hn0]] at HZ
    clear hr0 hrw0 hr1 hrw1
    generalize x0.length = n at *
    generalize x1.length = m at *
    go_enter Try.func10, Try.ntmps10
    go_wp2_with (go_at_call 28; with_reducible refine HZ.out.mono ?_; rintro e wy ⟨rfl, hby⟩)
    go_ret
    exact ⟨rfl, hby⟩
  have hm0 : tot x0 ≤ 1048576 := by omega
  obtain ⟨l, hl⟩ : ∃ l : Nat, l + tot x0 = 1048576 := ⟨1048576 - tot x0, by omega⟩
  rw [show szRes x0 = (l : Int) from by rw [szRes, if_pos hm0]; omega] at HZ
  have HY := Lib.hid (fun (W : World) (hb : Below w.heap.size w W) => szDL A1 x1.length c1 x1 l W (by omega) (hr1.below hb) hb1 hrw1)
  by_cases hn1 : ¬ tot x1 ≤ l
  · rw [show szResL l x1 = -1 from by rw [szResL, if_neg hn1]] at HY
    clear hr0 hrw0 hr1 hrw1 hm0 hn0 hn1
    have hl2 : l ≤ 1048576 := by omega
    clear hl
    generalize x0.length = n at *
    generalize x1.length = m at *
    go_enter Try.func10, Try.ntmps10
    go_wp2_with (first | (go_at_call 28; with_reducible refine HZ.out.mono ?_; rintro e wy ⟨rfl, hby⟩) | (go_at_call 28; with_reducible refine (HY.out _ hby).mono ?_; rintro e wz ⟨rfl, hbz0⟩; have hbz := hby.trans (hbz0.mono hby.size); have Zz := hbz.size))
    go_ret
    exact ⟨rfl, hbz⟩
  have hm1 : tot x1 ≤ 1048576 := by omega
  obtain ⟨l2, hl2⟩ : ∃ l2 : Nat, l2 + tot x1 = l := ⟨l - tot x1, by omega⟩
  rw [show szResL l x1 = (l2 : Int) from by rw [szResL, if_pos (by omega)]; omega] at HY
  have hll : l ≤ 1048576 := by omega
  have hll2 : l2 ≤ 1048576 := by omega
  have hlx0 : x0.length ≤ 1048576 := Nat.le_trans (tot_len x0) hm0
  have hlx1 : x1.length ≤ 1048576 := Nat.le_trans (tot_len x1) hm1
  clear hl hl2 hn0 hn1
  have Hs := (fun (v0 : Value) (v1 : Value) (W : World) (h0 : RVR W v0 x0) (h1 : RVR W v1 x1) => sSameSums v0 x0 v1 x1 W h0 h1 hm0 hm1)
  have Hi := (fun (v0 : Value) (v1 : Value) (W : World) (h0 : RVR W v0 x0) (h1 : RVR W v1 x1) => iSameSums v0 x0 v1 x1 W h0 h1 hm0 hm1)
  generalize (RSameSums x0 x1).1 = rb0 at *
  generalize (RSameSums x0 x1).2 = rb1 at *
  have HS := Lib.hid Hs
  have HI := Lib.hid Hi
  clear Hs Hi 
  have hv0 : RVR w (.slice A0 x0.length c0) x0 := RVR.mk hr0 hc0
  have HV0 := hide hv0
  clear hv0 hr0 hrw0
  have hv1 : RVR w (.slice A1 x1.length c1) x1 := RVR.mk hr1 hc1
  have HV1 := hide hv1
  clear hv1 hr1 hrw1
  go_enter Try.func10, Try.ntmps10
  go_wp2_with (first | (go_at_call 28; with_reducible refine HZ.out.mono ?_; rintro e wy ⟨rfl, hby⟩) | (go_at_call 28; with_reducible refine (HY.out _ hby).mono ?_; rintro e wz ⟨rfl, hbz0⟩; have hbz := hby.trans (hbz0.mono hby.size); have Zz := hbz.size))
  refine (toRV _ x0 _ (HV0.out.below ((hbz))) hm0).mono ?_
  rintro e w1 ⟨tu0, rfl, Fu0_0, hb_1⟩
  have Z1 := hb_1.size
  have A1_ : Below w.heap.size w w1 := ((hbz)).trans (hb_1.mono ((hbz)).size)
  go_wp2_with fail
  refine (toRV _ x1 _ (HV1.out.below (A1_)) hm1).mono ?_
  rintro e w2 ⟨tu1, rfl, Fu1_0, hb_2⟩
  have Z2 := hb_2.size
  have A2_ : Below w.heap.size w w2 := (A1_).trans (hb_2.mono (A1_).size)
  have Fu0_1 := (Fu0_0).below hb_2
  go_wp2_with fail
  refine (HS.out _ _ _ (Fu0_1).rv (Fu1_0).rv).mono ?_
  rintro e w3 ⟨rfl, hb_3⟩
  have Z3 := hb_3.size
  have A3_ : Below w.heap.size w w3 := (A2_).trans (hb_3.mono (A2_).size)
  have Fu0_2 := (Fu0_1).below hb_3
  have Fu1_1 := (Fu1_0).below hb_3
  go_wp2_with fail
  refine (toRV _ x0 _ (HV0.out.below (A3_)) hm0).mono ?_
  rintro e w4 ⟨tx0, rfl, Fx0_0, hb_4⟩
  have Z4 := hb_4.size
  have A4_ : Below w.heap.size w w4 := (A3_).trans (hb_4.mono (A3_).size)
  go_wp2_with fail
  refine (toRV _ x1 _ (HV1.out.below (A4_)) hm1).mono ?_
  rintro e w5 ⟨tx1, rfl, Fx1_0, hb_5⟩
  have Z5 := hb_5.size
  have A5_ : Below w.heap.size w w5 := (A4_).trans (hb_5.mono (A4_).size)
  have Fx0_1 := (Fx0_0).below hb_5
  go_wp2_with fail
  refine (HI.out _ _ _ (Fx0_1).rv (Fx1_0).rv).mono ?_
  rintro e w6 ⟨rfl, hb_6⟩
  have Z6 := hb_6.size
  have A6_ : Below w.heap.size w w6 := (A5_).trans (hb_6.mono (A5_).size)
  have Fx0_2 := (Fx0_1).below hb_6
  have Fx1_1 := (Fx1_0).below hb_6
  go_wp2_with fail
  refine (toRV _ x0 _ (HV0.out.below (A6_)) hm0).mono ?_
  rintro e w7 ⟨ty0, rfl, Fy0_0, hb_7⟩
  have Z7 := hb_7.size
  have A7_ : Below w.heap.size w w7 := (A6_).trans (hb_7.mono (A6_).size)
  have Fx0_3 := (Fx0_2).below hb_7
  have Fx1_2 := (Fx1_1).below hb_7
  go_wp2_with fail
  refine (eqRV _ _ x0 _ (Fx0_3).rv (Fy0_0).rv hm0).mono ?_
  rintro e w8 ⟨rfl, hb_8⟩
  have Z8 := hb_8.size
  have A8_ : Below w.heap.size w w8 := (A7_).trans (hb_8.mono (A7_).size)
  have Fx0_4 := (Fx0_3).below hb_8
  have Fx1_3 := (Fx1_2).below hb_8
  have Fy0_1 := (Fy0_0).below hb_8
  go_wp2_with fail
  refine (toRV _ x1 _ (HV1.out.below (A8_)) hm1).mono ?_
  rintro e w9 ⟨ty1, rfl, Fy1_0, hb_9⟩
  have Z9 := hb_9.size
  have A9_ : Below w.heap.size w w9 := (A8_).trans (hb_9.mono (A8_).size)
  have Fx0_5 := (Fx0_4).below hb_9
  have Fx1_4 := (Fx1_3).below hb_9
  go_wp2_with fail
  refine (eqRV _ _ x1 _ (Fx1_4).rv (Fy1_0).rv hm1).mono ?_
  rintro e w10 ⟨rfl, hb_10⟩
  have Z10 := hb_10.size
  have A10_ : Below w.heap.size w w10 := (A9_).trans (hb_10.mono (A9_).size)
  have Fx0_6 := (Fx0_5).below hb_10
  have Fx1_5 := (Fx1_4).below hb_10
  have Fy1_1 := (Fy1_0).below hb_10
  go_wp2
  all_goals go_ret
  all_goals exact ⟨rfl, A10_⟩
end Go.Proofs.Ythpboedpoipkcaa
