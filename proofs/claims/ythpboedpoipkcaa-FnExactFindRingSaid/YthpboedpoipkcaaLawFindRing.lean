/- The walk of the law FnExactFindRing. Conditions: none. -/
import Derived.Test.YthpboedpoipkcaaRingR
namespace Go.Proofs.Ythpboedpoipkcaa
open Go.ChangeShapes Go.WideShapes Go.ChangeAt Go.RowKit

set_option maxRecDepth 100000 in
set_option maxHeartbeats 1600000 in
theorem lawFindRing (a0 a1 : Int) (w : World) :
    Calls Try.prog 8 #[.int .i64 a0, .int .i64 a1] w fun e w' => e = .returned (.bool true) ∧ Below w.heap.size w w' := by
  obtain ⟨xss, b, -, htot, hi, hs⟩ := ring_both a0 a1
  have HI := hide hi
  have HS := hide hs
  have HT := hide htot
  obtain ⟨m, HM⟩ : ∃ m, Hid (mkTo xss xss.length = m) := ⟨_, hide rfl⟩
  have hm : m ≤ 1048577 := by have := mkTo_le xss xss.length; rw [HM.out] at this; unfold tot at htot; omega
  clear hi hs htot
  go_enter Try.func8, Try.ntmps8
  go_wp2_with fail
  refine (HS.out _).mono ?_
  rintro e w1 ⟨rs, rfl, hb1, Fs1⟩
  go_wp2_with fail
  refine (HI.out _).mono ?_
  rintro e w2 ⟨rg, rfl, hb2, Fg2⟩
  have Z1 := hb1.size
  have Z2 := hb2.size
  have A2 := hb1.trans (hb2.mono Z1)
  have Fs2 := Fs1.below hb2
  go_wp2_with fail
  refine (eqRV _ _ xss _ Fg2.rv Fs2 HT.out).mono ?_
  rintro e w3 ⟨rfl, hb3⟩
  have Z3 := hb3.size
  have A3 := A2.trans (hb3.mono A2.size)
  have Fs3 := Fs2.below hb3
  have Fg3 := Fg2.below hb3
  have S3 := hb2.trans (hb3.mono Z2)
  go_wp2_with fail
  refine (markDY _ _ _ xss _ Fg3 HT.out).mono ?_
  rintro e w4 ⟨rfl, hk4, Fm4⟩
  rw [HM.out]
  have Z4 := hk4.size
  have A4 := hk4.to_below A3 (by omega) (by omega)
  have S4 := hk4.to_below S3 (Nat.le_refl _) (by omega)
  have HH := Lib.hid (fun W h => heldDX rg xss W h HT.out)
  rw [HM.out] at HH
  clear hk4
  go_wp2_with fail
  refine (HH.out _ Fm4).mono ?_
  rintro e w5 ⟨rfl, hb5⟩
  have Z5 := hb5.size
  have A5 := A4.trans (hb5.mono A4.size)
  have S5 := S4.trans (hb5.mono S4.size)
  have Fm5 := Fm4.below hb5
  go_wp2_with fail
  refine (HI.out _).mono ?_
  rintro e w6 ⟨rh, rfl, hb6, Fh6⟩
  have Z6 := hb6.size
  have A6 := A5.trans (hb6.mono A5.size)
  have S6 := S5.trans (hb6.mono S5.size)
  have Fm6 := Fm5.below hb6
  go_wp2_with fail
  refine (eqRV _ _ xss _ Fh6.rv (Fs1.below S6) HT.out).mono ?_
  rintro e w7 ⟨rfl, hb7⟩
  have Z7 := hb7.size
  have A7 := A6.trans (hb7.mono A6.size)
  have Fm7 := Fm6.below hb7
  go_wp2_with fail
  refine (HH.out _ Fm7).mono ?_
  rintro e w8 ⟨rfl, hb8⟩
  have Z8 := hb8.size
  have A8 := A7.trans (hb8.mono A7.size)
  go_wp2
  all_goals go_ret
  all_goals exact ⟨rfl, A8⟩
end Go.Proofs.Ythpboedpoipkcaa
