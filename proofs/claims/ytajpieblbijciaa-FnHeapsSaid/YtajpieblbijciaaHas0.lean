/- Contracts of slices.Index, Contains at []int64. Conditions: lengths at most 2^20. -/
import Derived.Test.YtajpieblbijciaaNum
namespace Go.Proofs.Ytajpieblbijciaa
open Go.ChangeShapes Go.WideShapes Go.ChangeAt Go.RowKit

/-- the place of the first element that is v, or -1 -/
def idxV (xs : List Int) (v : Int) : Int := if (xs.any (v == ·)) then ((xs.findIdx (v == ·) : Nat) : Int) else -1

theorem hit_of (p : Int → Bool) (xs : List Int) (k : Nat) (hk : k < xs.length) (h : ∀ j, j < k → p (xs.getD j 0) = false) (hp : p (xs.getD k 0) = true) : xs.any p = true ∧ xs.findIdx p = k := by
  have e : xs.getD k 0 = xs[k] := by simp [List.getD, hk]
  refine ⟨List.any_eq_true.2 ⟨xs[k], List.getElem_mem _, by rw [← e]; exact hp⟩, ?_⟩
  rw [List.findIdx_eq hk]
  refine ⟨by rw [← e]; exact hp, fun j hj => ?_⟩
  have := h j hj
  simpa [List.getD, show j < xs.length by omega] using this
theorem miss_of (p : Int → Bool) (xs : List Int) (h : ∀ j, j < xs.length → p (xs.getD j 0) = false) : xs.any p = false := by
  rw [List.any_eq_false]
  intro x hx
  obtain ⟨j, hj, rfl⟩ := List.getElem_of_mem hx
  have := h j hj
  simpa [List.getD, hj] using this

set_option maxHeartbeats 800000 in
theorem libIndex (A : Option Addr) (n c : Nat) (xs : List Int) (v : Int) (w : World) (hr : Rd w A n (iv xs)) (hn : n ≤ 1048576) :
    Calls Try.prog 50 #[.slice A n c, .int .i64 v] w fun e w' => e = .returned (.int .i64 (idxV xs v)) ∧ w = w' := by
  have hlen := hr.len
  have Hlen := hide hlen
  clear hlen
  go_enter Try.func50, Try.ntmps50
  go_wp2
  go_loop [5, 8] (fun _ i => ∃ k : Nat, k ≤ n ∧ i = .int .i64 k ∧ Hid (∀ j, j < k → (v == xs.getD j 0) = false)) (fun _ i => n - (intOf i).toNat)
  case atStart => exact ⟨0, Nat.zero_le _, rfl, hide fun j hj => absurd hj (by omega)⟩
  case round =>
    obtain ⟨k, hk, rfl, hfa⟩ := hrel
    by_cases hlt : k < n
    · obtain ⟨ad, rfl, hbl, hc⟩ := hr.int hlt
      generalize hy : xs.getD k 0 = y at *
      have HY := hide hy
      clear hy
      cases hq : (v == y) with
      | true =>
        have HQ := hide hq
        go_wp2
        go_ret
        refine ⟨ret_int ?_, rfl⟩
        obtain ⟨h1, h2⟩ := hit_of (v == ·) xs k (by rw [Hlen.out]; exact hlt) hfa.out (by rw [HY.out]; exact HQ.out)
        rw [idxV, if_pos h1, h2]
      | false =>
        have HQ := hide hq
        go_wp2
        go_round
        case measure => simp [intOf]; omega
        case rel =>
          refine ⟨k + 1, by omega, by go_num, hide fun j hj => ?_⟩
          by_cases e : j = k
          · subst e
            rw [HY.out]; exact HQ.out
          · exact hfa.out j (by omega)
    · have hkn : k = n := by omega
      subst hkn
      go_wp2
      go_ret
      refine ⟨ret_int ?_, rfl⟩
      have h := miss_of (v == ·) xs (by rw [Hlen.out]; exact hfa.out)
      rw [idxV, if_neg (by rw [h]; simp)]

set_option maxHeartbeats 400000 in
theorem libHas (A : Option Addr) (n c : Nat) (xs : List Int) (v : Int) (w : World) (hr : Rd w A n (iv xs)) (hn : n ≤ 1048576) :
    Calls Try.prog 48 #[.slice A n c, .int .i64 v] w fun e w' => e = .returned (.bool (xs.any (v == ·))) ∧ w = w' := by
  have h := libIndex A n c xs v w hr hn
  have hle : (xs.findIdx (v == ·) : Nat) ≤ xs.length := List.findIdx_le_length
  have hl := hr.len
  have H := Lib.hid h
  clear h
  cases hq : xs.any (v == ·) with
  | true =>
    have e : idxV xs v = ((xs.findIdx (v == ·) : Nat) : Int) := by rw [idxV, if_pos hq]
    rw [e] at H
    generalize xs.findIdx (v == ·) = k at *
    have hk : k ≤ 1048576 := by omega
    clear hl hle e hq
    go_enter Try.func48, Try.ntmps48
    go_wp2_with (go_at_call 50; refine H.out.mono ?_; rintro e w' ⟨rfl, rfl⟩)
    go_ret
    exact ⟨by simp, rfl⟩
  | false =>
    have e : idxV xs v = -1 := by rw [idxV, if_neg (by rw [hq]; simp)]
    rw [e] at H
    clear hl hle e hq
    go_enter Try.func48, Try.ntmps48
    go_wp2_with (go_at_call 50; refine H.out.mono ?_; rintro e w' ⟨rfl, rfl⟩)
    go_ret
    exact ⟨by simp, rfl⟩

end Go.Proofs.Ytajpieblbijciaa
