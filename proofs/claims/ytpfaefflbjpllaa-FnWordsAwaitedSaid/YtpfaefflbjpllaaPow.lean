/- Contract of the program's power. Conditions: the power is at most 2^62. -/
import Derived.Test.YtpfaefflbjpllaaPowS
namespace Go.Proofs.Ytpfaefflbjpllaa
open Go.ChangeShapes Go.WideShapes Go.ChangeAt Go.RowKit

set_option maxHeartbeats 400000 in
theorem iPow (x n : Nat) (w : World) (hx : 1 ≤ x) (hx2 : x ≤ 4611686018427387904) (hn : n ≤ 1048576) (h : x ^ n ≤ 4611686018427387904) :
    Calls Try.prog 46 #[.int .i64 x, .int .i64 n] w fun e w' => e = .returned (.int .i64 ((x ^ n : Nat) : Int)) ∧ w = w' := by
  have Hs : Hid (∀ k, k < n → x ^ k * x ≤ 4611686018427387904 ∧ x ^ (k + 1) = x ^ k * x) := hide fun k hk => pow_step hx hk h
  clear h
  go_enter Try.func46, Try.ntmps46
  go_wp2
  go_loop [5, 7] (fun r i => ∃ k : Nat, k ≤ n ∧ i = .int .i64 k ∧ r = .int .i64 ((x ^ k : Nat) : Int)) (fun _ i => n - (intOf i).toNat)
  case atStart => exact ⟨0, by omega, rfl, rfl⟩
  case round =>
    obtain ⟨k, hk, rfl, rfl⟩ := hrel
    by_cases h0 : k < n
    · obtain ⟨hb, he⟩ := Hs.out k h0
      have He := hide he
      clear he
      generalize x ^ k = p at *
      have hb2 : (p : Int) * (x : Int) ≤ 4611686018427387904 := by rw [← Int.natCast_mul]; omega
      have hb3 : (0 : Int) ≤ (p : Int) * (x : Int) := by rw [← Int.natCast_mul]; omega
      go_wp2
      go_round
      case rel => exact ⟨k + 1, by omega, by go_num, by rw [He.out, Int.natCast_mul]⟩
      case measure => simp [intOf]; omega
    · have hkn : k = n := by omega
      subst hkn
      go_wp2
      go_ret
      exact ⟨rfl, rfl⟩
end Go.Proofs.Ytpfaefflbjpllaa
