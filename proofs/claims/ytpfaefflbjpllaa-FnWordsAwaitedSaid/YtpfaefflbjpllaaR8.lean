/- Contracts of the finite laws' helpers on bytes: r8Long, r8At. Conditions: what is stated. -/
import Derived.Test.YtpfaefflbjpllaaBytes
namespace Go.Proofs.Ytpfaefflbjpllaa
open Go.ChangeShapes Go.WideShapes Go.ChangeAt Go.RowKit

set_option maxHeartbeats 400000 in
theorem rLong (A B : Option Addr) (n m c d : Nat) (w : World) :
    Calls Try.prog 33 #[.slice A n c, .slice B m d] w fun e w' => e = .returned (.bool (decide (48 < n) || decide (48 < m))) ∧ w = w' := by
  by_cases h : 48 < n
  · go_enter Try.func33, Try.ntmps33
    go_wp2
    go_ret
    exact ⟨ret_bool (by simp [h]), rfl⟩
  · have d1 : decide ((48 : Int) < (n : Int)) = false := decide_eq_false (by omega)
    by_cases h2 : 48 < m
    · go_enter Try.func33, Try.ntmps33
      go_wp2
      go_ret
      exact ⟨ret_bool (by first | (simp [h2]; done) | (simp [h2]; omega)), rfl⟩
    · go_enter Try.func33, Try.ntmps33
      go_wp2
      go_ret
      exact ⟨ret_bool (by first | (simp [h, h2]; done) | (simp [h, h2]; omega)), rfl⟩
set_option maxHeartbeats 800000 in
theorem rAt (A : Option Addr) (n c : Nat) (xs : List Int) (i k : Int) (w : World) (hr : RdU w A n xs) (hn : n ≤ 48) (hi : 0 ≤ i) (hk : 1 ≤ k) (hk2 : k ≤ 1000) (hi2 : i ≤ 1000) :
    Calls Try.prog 34 #[.slice A n c, .int .i64 i, .int .i64 k] w fun e w' => (∃ v : Nat, e = .returned (.int .i64 (v : Int)) ∧ (v : Int) < k) ∧ w = w' := by
  obtain ⟨i, rfl⟩ := Int.eq_ofNat_of_zero_le hi
  obtain ⟨k, rfl⟩ := Int.eq_ofNat_of_zero_le (show 0 ≤ k by omega)
  have f5 : ¬ k = 0 := by omega
  by_cases hk1 : k = 1
  · subst hk1
    clear f5 hr
    go_enter Try.func34, Try.ntmps34
    go_wp2
    go_ret
    exact ⟨⟨0, rfl, by omega⟩, rfl⟩
  have hk3 : ¬ (k : Int) ≤ 1 := by omega
  by_cases h : i < n
  · obtain ⟨ad, rfl, hbl, hc, h0, h1⟩ := hr.at h
    generalize xs.getD i 0 = y at *
    obtain ⟨b, rfl⟩ : ∃ b : Nat, y = (b : Int) := ⟨y.toNat, by omega⟩
    have e1 : IntKind.i64.wrap (b : Int) = (b : Int) := IntWalk.i64_in _ (by omega)
    obtain ⟨r, hrr⟩ : ∃ r, r = b % k := ⟨_, rfl⟩
    have e2 : Int.tmod (b : Int) (k : Int) = (r : Int) := by rw [hrr]; exact (Int.ofNat_tmod _ _).symm
    have hlt : r < k := by rw [hrr]; exact Nat.mod_lt _ (by omega)
    have e3 : (b : Int) % (k : Int) = (r : Int) := by rw [hrr]; simp
    clear hrr
    go_enter Try.func34, Try.ntmps34
    go_wp2
    go_ret
    exact ⟨⟨r, rfl, by omega⟩, rfl⟩
  · go_enter Try.func34, Try.ntmps34
    go_wp2
    go_ret
    exact ⟨⟨0, rfl, by omega⟩, rfl⟩
end Go.Proofs.Ytpfaefflbjpllaa
