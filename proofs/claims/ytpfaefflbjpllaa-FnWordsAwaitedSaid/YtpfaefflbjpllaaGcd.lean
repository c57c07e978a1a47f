/- Contracts of the greatest common divisor and of lowest terms, both sides. Conditions: numbers from 0 to 2^62. -/
import Derived.Test.YtpfaefflbjpllaaNum
namespace Go.Proofs.Ytpfaefflbjpllaa
open Go.ChangeShapes Go.WideShapes Go.ChangeAt Go.RowKit

set_option maxHeartbeats 400000 in
theorem sGcd (a b : Nat) (w : World) (ha : a ≤ 4611686018427387904) (hb : b ≤ 4611686018427387904) :
    Calls Try.prog 68 #[.int .i64 a, .int .i64 b] w fun e w' => e = .returned (.int .i64 (Nat.gcd a b)) ∧ w = w' := by
  generalize hG : Nat.gcd a b = G
  have HG := hide hG
  clear hG
  go_enter Try.func68, Try.ntmps68
  go_wp2
  go_loop [0, 1] (fun x y => ∃ p q : Nat, p ≤ 4611686018427387904 ∧ q ≤ 4611686018427387904 ∧ x = .int .i64 p ∧ y = .int .i64 q ∧ Hid (Nat.gcd p q = G)) (fun _ y => (intOf y).toNat)
  case atStart => exact ⟨a, b, ha, hb, rfl, rfl, HG⟩
  case round =>
    obtain ⟨p, q, hp, hq, rfl, rfl, hg⟩ := hrel
    by_cases h0 : q = 0
    · subst h0
      go_wp2
      go_ret
      have := hg.out
      rw [Nat.gcd_zero_right] at this
      subst this
      exact ⟨rfl, rfl⟩
    · have hlt : p % q < q := Nat.mod_lt _ (by omega)
      go_wp2
      go_round
      case rel => exact ⟨q, p % q, hq, by omega, rfl, by go_num, hide (by rw [← hg.out, Nat.gcd_comm q, ← Nat.gcd_rec, Nat.gcd_comm])⟩
      case measure => simp [intOf]; omega

set_option maxHeartbeats 400000 in
theorem iGcd (a b : Nat) (w : World) (ha : a ≤ 4611686018427387904) (hb : b ≤ 4611686018427387904) :
    Calls Try.prog 69 #[.int .i64 a, .int .i64 b] w fun e w' => e = .returned (.int .i64 (Nat.gcd a b)) ∧ ∃ n, w' = w.drewN n := by
  generalize hG : Nat.gcd a b = G
  have HG := hide hG
  clear hG
  go_enter Try.func69, Try.ntmps69
  go_wp2
  go_loopw [0, 1] (fun x y wr => ∃ p q : Nat, p ≤ 4611686018427387904 ∧ q ≤ 4611686018427387904 ∧ x = .int .i64 p ∧ y = .int .i64 q ∧ Hid (Nat.gcd p q = G) ∧ Hid (∃ n, wr = w.drewN n)) (fun _ y _ => (intOf y).toNat)
  case atStart => exact ⟨a, b, ha, hb, rfl, rfl, HG, 0, rfl⟩
  case round =>
    obtain ⟨p, q, hp, hq, rfl, rfl, hg, hw⟩ := hrel
    obtain ⟨n, rfl⟩ := hw.out
    by_cases h0 : q = 0
    · subst h0
      go_wp2
      go_ret
      have := hg.out
      rw [Nat.gcd_zero_right] at this
      subst this
      exact ⟨rfl, _, rfl⟩
    · have hlt : p % q < q := Nat.mod_lt _ (by omega)
      go_wp2
      go_quiet (fail)
      go_wp2
      go_roundw
      case rel => exact ⟨q, p % q, hq, by omega, rfl, by first | go_num | rfl | simp, hide (by rw [← hg.out, Nat.gcd_comm q, ← Nat.gcd_rec, Nat.gcd_comm]), drew2 _ _ _⟩
      case measure => simp [intOf]; omega

theorem gcd_pos_of {a b : Nat} (h : a ≠ 0 ∨ b ≠ 0) : 0 < Nat.gcd a b := by
  rcases h with h | h
  · exact Nat.gcd_pos_of_pos_left _ (by omega)
  · exact Nat.gcd_pos_of_pos_right _ (by omega)

set_option maxHeartbeats 400000 in
theorem sLeast (a b : Nat) (w : World) (ha : a ≤ 4611686018427387904) (hb : b ≤ 4611686018427387904) (hz : a ≠ 0 ∨ b ≠ 0) :
    Calls Try.prog 64 #[.int .i64 a, .int .i64 b] w fun e w' => e = .returned (.tuple #[.int .i64 ((a / Nat.gcd a b : Nat) : Int), .int .i64 ((b / Nat.gcd a b : Nat) : Int)]) ∧ ∃ n, w' = w.drewN n := by
  have hp := gcd_pos_of hz
  have H := Lib.hid (sGcd a b w ha hb)
  generalize Nat.gcd a b = G at *
  clear hz
  go_enter Try.func64, Try.ntmps64
  go_wp2_with (go_at_call 68; refine H.out.mono ?_; rintro e w' ⟨rfl, rfl⟩)
  go_quiet (fail)
  go_wp2
  go_ret2
  exact ⟨by rw [wrap_div a G ha, wrap_div b G hb]; rfl, _, rfl⟩

set_option maxHeartbeats 400000 in
theorem iLeast (a b : Nat) (w : World) (ha : a ≤ 4611686018427387904) (hb : b ≤ 4611686018427387904) (hz : a ≠ 0 ∨ b ≠ 0) :
    Calls Try.prog 66 #[.int .i64 a, .int .i64 b] w fun e w' => e = .returned (.tuple #[.int .i64 ((a / Nat.gcd a b : Nat) : Int), .int .i64 ((b / Nat.gcd a b : Nat) : Int)]) ∧ ∃ n, w' = w.drewN n := by
  have hp := gcd_pos_of hz
  have H := Lib.hid (iGcd a b w ha hb)
  generalize Nat.gcd a b = G at *
  clear hz
  go_enter Try.func66, Try.ntmps66
  go_wp2_with (go_at_call 69; refine H.out.mono ?_; rintro e w' ⟨rfl, n, rfl⟩)
  go_quiet (fail)
  go_wp2
  go_ret2
  exact ⟨by rw [wrap_div a G ha, wrap_div b G hb]; rfl, drew2 _ _ _⟩
end Go.Proofs.Ytpfaefflbjpllaa
