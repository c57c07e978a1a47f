/- The walk of the law FnExactPegMoves. Conditions: none. -/
import Derived.Test.YtkbeelbklganaaaPegL
namespace Go.Proofs.Ytkbeelbklganaaa
open Go.ChangeShapes Go.WideShapes Go.ChangeAt Go.RowKit

set_option maxHeartbeats 1600000 in
theorem lawPegMoves (A0 : Option Addr) (c0 : Nat) (x0 : List Bool) (w : World) (hr0 : Rd w A0 x0.length (bv x0)) :
    Calls Try.prog 8 #[.slice A0 x0.length c0] w fun e w' => e = .returned (.bool true) ∧ Below w.heap.size w w' := by
  by_cases hn0 : 1048576 < x0.length
  · go_enter Try.func8, Try.ntmps8
    go_wp2
    go_ret
    exact ⟨rfl, Below.refl _ _⟩
  have hm0 : x0.length ≤ 1048576 := by omega
  have Hs := fun (A : Option Addr) (c : Nat) (W : World) (h : Rd W A x0.length (bv x0)) => sPegMoves A x0.length c x0 W h hm0
  have Hi := fun (A : Option Addr) (c : Nat) (W : World) (h : Rd W A x0.length (bv x0)) => iPegMoves A x0.length c x0 W h hm0
  have hl0 := RPegMoves_len x0
  generalize (RPegMoves x0).1 = L at *
  generalize (RPegMoves x0).2 = rb at *
  have HS := Lib.hid Hs
  have HI := Lib.hid Hi
  have HT := Lib.hid (fun A c W (h : Rd W A x0.length (bv x0)) => toB A x0.length c x0 W h hm0)
  have HE := Lib.hid (fun A B c d W (h : Rd W A x0.length (bv x0)) (h2 : Rd W B x0.length (bv x0)) => eqB A B x0.length c d x0 W h h2 hm0)
  have HM := Lib.hid (fun g W (h : Bk W g 4 (bv x0)) => markB g x0.length x0 W h rfl hm0)
  have HV := hide hr0
  have Hrd : Hid (∀ W g, Bk W g 4 (bv x0) → Rd W (some ⟨g, 0, none⟩) x0.length (bv x0)) := hide fun W g h => h.rdb rfl
  clear Hs Hi hr0
  generalize x0.length = n at *
  go_enter Try.func8, Try.ntmps8
  go_wp2_with fail
  refine (HT.out _ _ _ HV.out).mono ?_
  rintro e w1 ⟨gu, rfl, Bu, _, b1⟩
  have z1 := b1.size
  go_wp2_with fail
  refine (HS.out _ _ _ (Hrd.out _ _ Bu)).mono ?_
  rintro e w2 ⟨r0, rfl, F0, b2⟩
  have z2 := b2.size
  have a2 := b1.trans (b2.mono z1)
  go_wp2_with fail
  refine (HT.out _ _ _ (HV.out.below a2)).mono ?_
  rintro e w3 ⟨gx, rfl, Bx, lx, b3⟩
  have z3 := b3.size
  have a3 := a2.trans (b3.mono a2.size)
  have F0 := F0.below b3
  have ltx := Bx.lt
  go_wp2_with fail
  refine (HI.out _ _ _ (Hrd.out _ _ Bx)).mono ?_
  rintro e w4 ⟨r1, rfl, F1, b4⟩
  have z4 := b4.size
  have a4 := a3.trans (b4.mono a3.size)
  have F0 := F0.below b4
  have Bx := Bx.below b4 ltx
  go_wp2_with fail
  refine (eqV _ _ L _ F1.rv F0.rv hl0).mono ?_
  rintro e w5 ⟨rfl, b5⟩
  have z5 := b5.size
  have a5 := a4.trans (b5.mono a4.size)
  have F0 := F0.below b5
  have F1 := F1.below b5
  have Bx := Bx.below b5 (by omega)
  go_wp2_with fail
  refine (HT.out _ _ _ (HV.out.below a5)).mono ?_
  rintro e w6 ⟨gy, rfl, By, _, b6⟩
  have z6 := b6.size
  have a6 := a5.trans (b6.mono a5.size)
  have F0 := F0.below b6
  have F1 := F1.below b6
  have Bx := Bx.below b6 (by omega)
  go_wp2_with fail
  refine (HE.out _ _ _ _ _ (Hrd.out _ _ Bx) (Hrd.out _ _ By)).mono ?_
  rintro e w7 ⟨rfl, b7⟩
  have z7 := b7.size
  have a7 := a6.trans (b7.mono a6.size)
  have F0 := F0.below b7
  have F1 := F1.below b7
  have Bx := Bx.below b7 (by omega)
  go_wp2_with fail
  refine (HM.out _ _ Bx).mono ?_
  rintro e w8 ⟨rfl, g8⟩
  have z8 := g8.size
  have a8 : Below w.heap.size w w8 := a7.grown g8 (by omega) (fun k hk => by injection hk with hk; omega)
  have F0 := F0.grown g8 (fun k hk => by injection hk with hk; omega)
  have F1 := F1.grown g8 (fun k hk => by injection hk with hk; omega)
  go_wp2_with fail
  refine (eqV _ _ L _ F1.rv F0.rv hl0).mono ?_
  rintro e w9 ⟨rfl, b9⟩
  have z9 := b9.size
  have a9 := a8.trans (b9.mono a8.size)
  have F0 := F0.below b9
  have F1 := F1.below b9
  go_wp2_with fail
  refine (markV _ _ _ L _ 1 _ (by simp) F1 hl0 (by omega)).mono ?_
  rintro e w10 ⟨rfl, M1, g10⟩
  have z10 := g10.size
  have a10 : Below w.heap.size w w10 := Below.marked a9 (by omega) (by omega) F1 g10
  have F0 := F0.marked F1 g10 (by omega)
  go_wp2_with fail
  refine (heldV _ L.length _ 1 _ (by simp) M1.rv hl0 (by omega)).mono ?_
  rintro e w' ⟨rfl, rfl⟩
  go_wp2_with fail
  refine (HT.out _ _ _ (HV.out.below a10)).mono ?_
  rintro e w11 ⟨gz, rfl, Bz, _, b11⟩
  have z11 := b11.size
  have a11 := a10.trans (b11.mono a10.size)
  have F0 := F0.below b11
  have M1 := M1.below b11
  go_wp2_with fail
  refine (HI.out _ _ _ (Hrd.out _ _ Bz)).mono ?_
  rintro e w12 ⟨r2, rfl, F2, b12⟩
  have z12 := b12.size
  have a12 := a11.trans (b12.mono a11.size)
  have F0 := F0.below b12
  have M1 := M1.below b12
  go_wp2_with fail
  refine (eqV _ _ L _ F2.rv F0.rv hl0).mono ?_
  rintro e w13 ⟨rfl, b13⟩
  have z13 := b13.size
  have a13 := a12.trans (b13.mono a12.size)
  have M1 := M1.below b13
  go_wp2_with fail
  refine (heldV _ L.length _ 1 _ (by simp) M1.rv hl0 (by omega)).mono ?_
  rintro e w' ⟨rfl, rfl⟩
  go_wp2
  all_goals go_ret
  all_goals exact ⟨rfl, a13⟩
end Go.Proofs.Ytkbeelbklganaaa
