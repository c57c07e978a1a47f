/- Contract of the finite laws' look for a number in a list. Conditions: lengths at most 2^20. -/
import Derived.Test.YtajpieblbijciaaMex
namespace Go.Proofs.Ytajpieblbijciaa
open Go.ChangeShapes Go.WideShapes Go.ChangeAt Go.RowKit

set_option maxHeartbeats 800000 in
theorem rHas (A : Option Addr) (n c : Nat) (xs : List Int) (v : Int) (w : World) (hr : Rd w A n (iv xs)) (hn : n ≤ 1048576) :
    Calls Try.prog 31 #[.slice A n c, .int .i64 v] w fun e w' => e = .returned (.bool (hasI xs v)) ∧ w = w' := by
  have hlen := hr.len
  have Hyes : Hid (∀ k, k < n → xs.getD k 0 = v → hasI xs v = true) := hide fun k hk h => hasI_at (by omega) h
  have Hno : Hid ((∀ k, k < n → xs.getD k 0 ≠ v) → hasI xs v = false) := hide fun h => hasI_none (by rw [hlen]; exact h)
  generalize hasI xs v = R at *
  clear hlen
  go_enter Try.func31, Try.ntmps31
  go_wp2
  go_loop [5] (fun i => ∃ k : Nat, k ≤ n ∧ i = .int .i64 k ∧ Hid (∀ j, j < k → xs.getD j 0 ≠ v)) (fun i => n - (intOf i).toNat)
  case atStart => exact ⟨0, Nat.zero_le _, rfl, hide fun j hj => absurd hj (by omega)⟩
  case round =>
    obtain ⟨k, hk, rfl, hfa⟩ := hrel
    by_cases hlt : k < n
    · obtain ⟨ad, rfl, hbl, hc⟩ := hr.int hlt
      generalize hy : xs.getD k 0 = y at *
      have HY := hide hy
      clear hy
      cases hq : (y == v) with
      | true =>
        have hR := Hyes.out k hlt (by rw [HY.out]; simpa using hq)
        have HR := hide hR
        clear hR
        go_wp2
        go_ret
        exact ⟨ret_bool HR.out.symm, rfl⟩
      | false =>
        have Hne : Hid (y ≠ v) := hide (by simpa using hq)
        go_wp2
        go_round
        case rel =>
          refine ⟨k + 1, by omega, by go_num, hide fun j hj => ?_⟩
          by_cases e : j = k
          · subst e
            rw [HY.out]; exact Hne.out
          · exact hfa.out j (by omega)
        case measure => simp [intOf]; omega
    · have hkn : k = n := by omega
      have hR := Hno.out (by rw [← hkn]; exact hfa.out)
      have HR := hide hR
      clear hR hkn
      go_wp2
      go_ret
      exact ⟨ret_bool HR.out.symm, rfl⟩

end Go.Proofs.Ytajpieblbijciaa
