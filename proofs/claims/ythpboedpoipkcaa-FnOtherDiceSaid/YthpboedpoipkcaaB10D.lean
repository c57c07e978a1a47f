/- Contracts of the finite law's helpers on bytes and lists: b10Long, b10At, b10Ints, b10Sum. Conditions: lengths at most 2^20 where stated. -/
import Derived.Test.YthpboedpoipkcaaBytes
import Derived.Test.YthpboedpoipkcaaVal
namespace Go.Proofs.Ythpboedpoipkcaa
open Go.ChangeShapes Go.WideShapes Go.ChangeAt Go.RowKit

set_option maxHeartbeats 400000 in
theorem lLong (A B : Option Addr) (n m c d : Nat) (w : World) :
    Calls Try.prog 48 #[.slice A n c, .slice B m d] w fun e w' => e = .returned (.bool (decide (1048576 < n) || decide (1048576 < m))) ∧ w = w' := by
  by_cases h : 1048576 < n
  · have d1 : decide (1048576 < (n : Int)) = true := decide_eq_true (by omega)
    have d1' : decide (1048576 < n) = true := decide_eq_true h
    go_enter Try.func48, Try.ntmps48
    go_wp2
    go_ret
    exact ⟨ret_bool (by simp [h]), rfl⟩
  · have d1 : decide (1048576 < (n : Int)) = false := decide_eq_false (by omega)
    by_cases h2 : 1048576 < m
    · have d2 : decide (1048576 < (m : Int)) = true := decide_eq_true (by omega)
      go_enter Try.func48, Try.ntmps48
      go_wp2
      go_ret
      exact ⟨ret_bool (by simp [h2]), rfl⟩
    · have d2 : decide (1048576 < (m : Int)) = false := decide_eq_false (by omega)
      go_enter Try.func48, Try.ntmps48
      go_wp2
      go_ret
      exact ⟨ret_bool (by simp [h, h2]), rfl⟩
set_option maxHeartbeats 800000 in
theorem lAt (A : Option Addr) (n c i k : Nat) (xs : List Int) (w : World) (hr : RdU w A n xs) (hi : i ≤ 100) (hk : 2 ≤ k) (hk2 : k ≤ 1000) :
    Calls Try.prog 49 #[.slice A n c, .int .i64 (i : Int), .int .i64 (k : Int)] w fun e w' => (∃ v : Nat, e = .returned (.int .i64 (v : Int)) ∧ v < k) ∧ w = w' := by
  have f5 : ¬ k = 0 := by omega
  by_cases h : i < n
  · obtain ⟨ad, rfl, hbl, hc, h0, h1⟩ := hr.at h
    generalize xs.getD i 0 = y at *
    obtain ⟨b, rfl⟩ : ∃ b : Nat, y = (b : Int) := ⟨y.toNat, by omega⟩
    have e1 : IntKind.i64.wrap (b : Int) = (b : Int) := IntWalk.i64_in _ (by omega)
    obtain ⟨r, hrr⟩ : ∃ r, r = b % k := ⟨_, rfl⟩
    have e2 : Int.tmod (b : Int) (k : Int) = (r : Int) := by rw [hrr]; exact (Int.ofNat_tmod _ _).symm
    have hlt : r < k := by rw [hrr]; exact Nat.mod_lt _ (by omega)
    have e3 : (b : Int) % (k : Int) = (r : Int) := by rw [hrr]; simp
    clear hrr
    go_enter Try.func49, Try.ntmps49
    go_wp2
    go_ret
    exact ⟨⟨r, rfl, hlt⟩, rfl⟩
  · obtain ⟨r, hrr⟩ : ∃ r, r = (i * 37 + 11) % k := ⟨_, rfl⟩
    have hlt : r < k := by rw [hrr]; exact Nat.mod_lt _ (by omega)
    have e2 : Int.tmod ((i : Int) * 37 + 11) (k : Int) = (r : Int) := by
      rw [show (i : Int) * 37 + 11 = ((i * 37 + 11 : Nat) : Int) from by simp, hrr]
      exact (Int.ofNat_tmod _ _).symm
    have e3 : ((i : Int) * 37 + 11) % (k : Int) = (r : Int) := by rw [hrr]; simp
    clear hrr
    go_enter Try.func49, Try.ntmps49
    go_wp2
    go_ret
    exact ⟨⟨r, rfl, hlt⟩, rfl⟩
set_option maxHeartbeats 400000 in
theorem lInts (A B : Option Addr) (n c d : Nat) (xs : List Int) (w : World) (hr : Rd w A n (iv xs)) (hr2 : Rd w B n (iv xs)) (hn : n ≤ 1048576) :
    Calls Try.prog 50 #[.slice A n c, .slice B n d] w fun e w' => e = .returned (.bool true) ∧ ∃ q, w' = w.drewN q := by
  go_enter Try.func50, Try.ntmps50
  go_wp2
  go_loopw [5, 13] (fun _ i wr => ∃ k : Nat, k ≤ n ∧ i = .int .i64 k ∧ Hid (∃ q, wr = w.drewN q)) (fun _ i _ => n - (intOf i).toNat)
  case atStart => exact ⟨0, Nat.zero_le _, rfl, 0, rfl⟩
  case round =>
    obtain ⟨k, hk, rfl, hq⟩ := hrel
    obtain ⟨q, rfl⟩ := hq.out
    by_cases hlt : k < n
    · obtain ⟨ad, rfl, hbl, hc⟩ := hr.int hlt
      obtain ⟨ad2, rfl, hbl2, hc2⟩ := hr2.int hlt
      have f1 : (0 : Int) ≤ (k : Int) := by omega
      have f2 : (k : Int) < (n : Int) := by omega
      go_wp2
      go_quiet (fail)
      go_wp2
      go_roundw
      case rel => exact ⟨k + 1, by omega, by go_num, _, rfl⟩
      case measure => simp [intOf]; omega
    · go_wp2
      go_ret
      exact ⟨rfl, _, rfl⟩
end Go.Proofs.Ythpboedpoipkcaa
