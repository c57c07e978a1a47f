/- The walk of the law FnExactGrowthOf. Conditions: none. -/
import Derived.Test.YtjeaiihgedennaaGrowth2
namespace Go.Proofs.Ytjeaiihgedennaa
open Go.ChangeShapes Go.WideShapes Go.ChangeAt Go.RowKit

set_option maxHeartbeats 800000 in
theorem lawGrowthOf (c o s : Nat) (w : World) :
    Calls Try.prog 4 #[.float .f32 c, .float .f32 o, .float .f32 s] w fun e w' => e = .returned (.bool true) ∧ Below w.heap.size w w' := by
  have HS := Lib.hid (fun W => sGrowthOf c o s W)
  have HI := Lib.hid (fun W => iGrowthOf c o s W)
  obtain ⟨d, hd⟩ := conv_ok (RGrowthOf_fin c o s)
  generalize (RGrowthOf c o s).1 = r at *
  generalize (RGrowthOf c o s).2 = b at *
  have hcv : ∀ W : World, (convert 22 26 (.float .f32 r)).run Try.prog W = .ok (.float .f64 d) W := fun W =>
    run_convert_float_float W 22 26 .f32 .f64 r d (by kernel_rfl) Try.underlying26 hd
  have HF := Lib.hid (fun W => sameF d W)
  have Hd := hide hd
  clear hd
  cases b <;> (
    go_enter Try.func4, Try.ntmps4
    go_wp2_with (first | (go_at_call 11; refine (HS.out _).mono ?_; rintro e w' ⟨rfl, q1, rfl⟩) | (go_at_call 12; refine (HI.out _).mono ?_; rintro e w' ⟨rfl, q2, rfl⟩) | (go_at_call 10; refine (HF.out _).mono ?_; rintro e w' ⟨rfl, q3, rfl⟩))
    go_ret
    exact ⟨rfl, below_drewN (Below.refl _ _) _⟩)
end Go.Proofs.Ytjeaiihgedennaa
