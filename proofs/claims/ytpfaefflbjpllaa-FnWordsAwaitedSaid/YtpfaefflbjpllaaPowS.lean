/- Contract of the specification's power. Conditions: the power is at most 2^62. -/
import Derived.Test.YtpfaefflbjpllaaNum
namespace Go.Proofs.Ytpfaefflbjpllaa
open Go.ChangeShapes Go.WideShapes Go.ChangeAt Go.RowKit

theorem pow_step {x k n : Nat} (hx : 1 ≤ x) (hk : k < n) (h : x ^ n ≤ 4611686018427387904) : x ^ k * x ≤ 4611686018427387904 ∧ x ^ (k + 1) = x ^ k * x :=
  ⟨by rw [← Nat.pow_succ]; exact Nat.le_trans (Nat.pow_le_pow_right hx hk) h, Nat.pow_succ ..⟩

set_option maxHeartbeats 400000 in
theorem sPow (x n : Nat) (w : World) (hx : 1 ≤ x) (hx2 : x ≤ 4611686018427387904) (hn : n ≤ 1048576) (h : x ^ n ≤ 4611686018427387904) :
    Calls Try.prog 62 #[.int .i64 x, .int .i64 n] w fun e w' => e = .returned (.int .i64 ((x ^ n : Nat) : Int)) ∧ w = w' := by
  have Hs : Hid (∀ k, k < n → x ^ k * x ≤ 4611686018427387904 ∧ x ^ (k + 1) = x ^ k * x) := hide fun k hk => pow_step hx hk h
  clear h
  go_enter Try.func62, Try.ntmps62
  go_wp2
  go_loop [1, 5] (fun i r => ∃ k m : Nat, k + m = n ∧ i = .int .i64 m ∧ r = .int .i64 ((x ^ k : Nat) : Int)) (fun i _ => (intOf i).toNat)
  case atStart => exact ⟨0, n, by omega, rfl, rfl⟩
  case round =>
    obtain ⟨k, m, hkm, rfl, rfl⟩ := hrel
    have hm : m ≤ 1048576 := by omega
    have Hkm := hide hkm
    clear hkm hn
    by_cases h0 : 0 < m
    · obtain ⟨hb, he⟩ := Hs.out k (by have := Hkm.out; omega)
      have He := hide he
      clear he
      generalize x ^ k = p at *
      have hb2 : (p : Int) * (x : Int) ≤ 4611686018427387904 := by rw [← Int.natCast_mul]; omega
      have hb3 : (0 : Int) ≤ (p : Int) * (x : Int) := by rw [← Int.natCast_mul]; omega
      go_wp2
      go_round
      case rel => exact ⟨k + 1, m - 1, by have := Hkm.out; omega, by go_num, by rw [He.out, Int.natCast_mul]⟩
      case measure => simp [intOf]; omega
    · have hkn : k = n := by have := Hkm.out; omega
      subst hkn
      go_wp2
      go_ret
      exact ⟨rfl, rfl⟩

end Go.Proofs.Ytpfaefflbjpllaa
