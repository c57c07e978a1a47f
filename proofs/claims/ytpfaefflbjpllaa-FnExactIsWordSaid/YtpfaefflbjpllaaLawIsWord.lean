/- The walk of the law FnExactIsWord. Conditions: none. -/
import Derived.Test.YtpfaefflbjpllaaWord
import Derived.Test.YtpfaefflbjpllaaIs
namespace Go.Proofs.Ytpfaefflbjpllaa
open Go.ChangeShapes Go.WideShapes Go.ChangeAt Go.RowKit

set_option maxHeartbeats 800000 in
theorem lawIsWord (A : Option Addr) (n c : Nat) (xs : List Int) (s : Int) (w : World) (hr : Rd w A n (iv xs)) (hbig : n ≤ 9223372036854775807) :
    Calls Try.prog 3 #[.slice A n c, .int .i64 s] w fun e w' => e = .returned (.bool true) ∧ Below w.heap.size w w' := by
  by_cases hn : 1048576 < n
  · go_enter Try.func3, Try.ntmps3
    go_wp2
    go_ret
    exact ⟨rfl, Below.refl _ _⟩
  · have hn' : n ≤ 1048576 := by omega
    have Hlen := hide hr.len
    go_enter Try.func3, Try.ntmps3
    go_wp2_with fail
    refine (toI A n c xs w hr hn').mono ?_
    rintro e w1 ⟨g1, rfl, hB1, hg1, hb1⟩
    have hr1 := hB1.rdi Hlen.out
    go_wp2_with fail
    refine (sIsWord _ _ _ _ s _ hr1 hn').mono ?_
    rintro e w' ⟨rfl, rfl⟩
    go_wp2_with fail
    refine (toI A n c xs w1 (hr.below hb1) hn').mono ?_
    rintro e w2 ⟨g2, rfl, hB2, hg2, hb2⟩
    have hr2 := hB2.rdi Hlen.out
    go_wp2_with fail
    refine (iIsWord _ _ _ _ s _ hr2 hn').mono ?_
    rintro e w3 ⟨rfl, hb3⟩
    have hb13 := (hb1.trans (hb2.mono hb1.size)).trans (hb3.mono (Nat.le_trans hb1.size hb2.size))
    go_wp2_with fail
    refine (toI A n c xs w3 (hr.below hb13) hn').mono ?_
    rintro e w4 ⟨g4, rfl, hB4, hg4, hb4⟩
    have hr4 := hB4.rdi Hlen.out
    have hr24 := (hr2.below hb3).below hb4
    go_wp2_with fail
    refine (eqI _ _ n _ _ xs _ hr24 hr4 hn').mono ?_
    rintro e w5 ⟨rfl, q, rfl⟩
    go_wp2
    go_ret
    exact ⟨rfl, below_drewN (hb13.trans (hb4.mono hb13.size)) _⟩
end Go.Proofs.Ytpfaefflbjpllaa
