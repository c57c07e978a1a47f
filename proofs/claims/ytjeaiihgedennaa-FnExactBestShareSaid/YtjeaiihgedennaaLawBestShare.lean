/- The walk of the law FnExactBestShare. Conditions: none. -/
import Derived.Test.YtjeaiihgedennaaShare
import Derived.Test.YtjeaiihgedennaaConv
namespace Go.Proofs.Ytjeaiihgedennaa
open Go.ChangeShapes Go.WideShapes Go.ChangeAt Go.RowKit

theorem fin_zero : finO (some 0) = true := by decide +kernel
theorem chk_fin (o : Option Nat) : finO (some (chkO o).1) = true := by
  unfold chkO
  split
  · rename_i h
    obtain ⟨r, rfl⟩ := fin_some h
    exact h
  · exact fin_zero
theorem bs_fin (c o : Nat) : finO (some (RBestShare c o).1) = true := by
  unfold RBestShare
  split
  · split
    · exact fin_zero
    · exact chk_fin _
  · exact fin_zero

set_option maxHeartbeats 800000 in
theorem lawBestShare (c o : Nat) (w : World) :
    Calls Try.prog 3 #[.float .f32 c, .float .f32 o] w fun e w' => e = .returned (.bool true) ∧ Below w.heap.size w w' := by
  have HS := Lib.hid (fun W => sBestShare c o W)
  have HI := Lib.hid (fun W => iBestShare c o W)
  obtain ⟨d, hd⟩ := conv_ok (bs_fin c o)
  generalize (RBestShare c o).1 = r at *
  generalize (RBestShare c o).2 = b at *
  have hcv : ∀ W : World, (convert 22 26 (.float .f32 r)).run Try.prog W = .ok (.float .f64 d) W := fun W =>
    run_convert_float_float W 22 26 .f32 .f64 r d (by kernel_rfl) Try.underlying26 hd
  have HF := Lib.hid (fun W => sameF d W)
  have Hd := hide hd
  clear hd
  cases b <;> (
    go_enter Try.func3, Try.ntmps3
    go_wp2_with (first | (go_at_call 8; refine (HS.out _).mono ?_; rintro e w' ⟨rfl, q1, rfl⟩) | (go_at_call 9; refine (HI.out _).mono ?_; rintro e w' ⟨rfl, q2, rfl⟩) | (go_at_call 10; refine (HF.out _).mono ?_; rintro e w' ⟨rfl, q3, rfl⟩))
    go_ret
    exact ⟨rfl, below_drewN (Below.refl _ _) _⟩)
end Go.Proofs.Ytjeaiihgedennaa
