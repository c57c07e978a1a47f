/- The walk of the law FnExactPegReach. Conditions: none. -/
import Derived.Test.YtkbeelbklganaaaPegB
namespace Go.Proofs.Ytkbeelbklganaaa
open Go.ChangeShapes Go.WideShapes Go.ChangeAt Go.RowKit

set_option maxHeartbeats 1600000 in
theorem lawPegReach (A0 : Option Addr) (c0 : Nat) (x0 : List Bool) (w : World) (hr0 : Rd w A0 x0.length (bv x0)) :
    Calls Try.prog 9 #[.slice A0 x0.length c0] w fun e w' => e = .returned (.bool true) ∧ Below w.heap.size w w' := by
  by_cases hn0 : 1048576 < x0.length
  · go_enter Try.func9, Try.ntmps9
    go_wp2
    go_ret
    exact ⟨rfl, Below.refl _ _⟩
  have hm0 : x0.length ≤ 1048576 := by omega
  obtain ⟨S, hS⟩ := reach_set x0.length (toNk x0 x0.length)
  have Hs := fun (A : Option Addr) (c : Nat) (W : World) (h : Rd W A x0.length (bv x0)) => sPegReach A x0.length c x0 S W h hm0 hS
  have Hi := fun (A : Option Addr) (c : Nat) (W : World) (h : Rd W A x0.length (bv x0)) => iPegReach A x0.length c x0 S W h hm0 hS
  clear hS
  generalize pegI x0 (cntT S (2 ^ x0.length)) = L at *
  generalize boardB x0.length = rb at *
  have HS := Lib.hid Hs
  have HI := Lib.hid Hi
  have HT := Lib.hid (fun A c W (h : Rd W A x0.length (bv x0)) => toB A x0.length c x0 W h hm0)
  have HE := Lib.hid (fun A B c d W (h : Rd W A x0.length (bv x0)) (h2 : Rd W B x0.length (bv x0)) => eqB A B x0.length c d x0 W h h2 hm0)
  have HV := hide hr0
  have Hrd : Hid (∀ W g, Bk W g 4 (bv x0) → Rd W (some ⟨g, 0, none⟩) x0.length (bv x0)) := hide fun W g h => h.rdb rfl
  clear Hs Hi hr0
  generalize x0.length = n at *
  go_enter Try.func9, Try.ntmps9
  go_wp2_with fail
  refine (HT.out _ _ _ HV.out).mono ?_
  rintro e w1 ⟨gu, rfl, Bu, _, b1⟩
  have z1 := b1.size
  go_wp2_with fail
  refine (HS.out _ _ _ (Hrd.out _ _ Bu)).mono ?_
  rintro e w2 ⟨rfl, b2⟩
  have z2 := b2.size
  have a2 := b1.trans (b2.mono z1)
  go_wp2_with fail
  refine (HT.out _ _ _ (HV.out.below a2)).mono ?_
  rintro e w3 ⟨gx, rfl, Bx, lx, b3⟩
  have z3 := b3.size
  have a3 := a2.trans (b3.mono a2.size)
  have ltx := Bx.lt
  go_wp2_with fail
  refine (HI.out _ _ _ (Hrd.out _ _ Bx)).mono ?_
  rintro e w4 ⟨rfl, b4⟩
  have z4 := b4.size
  have a4 := a3.trans (b4.mono a3.size)
  have Bx := Bx.below b4 ltx
  go_wp2_with fail
  refine (HT.out _ _ _ (HV.out.below a4)).mono ?_
  rintro e w6 ⟨gy, rfl, By, _, b6⟩
  have z6 := b6.size
  have a6 := a4.trans (b6.mono a4.size)
  have Bx := Bx.below b6 (by omega)
  go_wp2_with fail
  refine (HE.out _ _ _ _ _ (Hrd.out _ _ Bx) (Hrd.out _ _ By)).mono ?_
  rintro e w7 ⟨rfl, b7⟩
  have a7 := a6.trans (b7.mono a6.size)
  go_wp2
  all_goals go_ret
  all_goals exact ⟨rfl, a7⟩
end Go.Proofs.Ytkbeelbklganaaa
