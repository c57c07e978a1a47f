/- Contracts of the check of moves, both sides. Conditions: lengths at most 2^20. -/
import Derived.Test.YtajpieblbijciaaMex
import Derived.Deep.DeepFit
namespace Go.Proofs.Ytajpieblbijciaa
open Go.ChangeShapes Go.WideShapes Go.ChangeAt Go.RowKit

/-- is the i-th number no move behind the one before it -/
def mvBad (xs : List Int) (i : Nat) : Bool := !inB (xs.getD i 0) 1 200 || (decide (0 < i) && decide (xs.getD i 0 ≤ xs.getD (i - 1) 0))
def movesB (xs : List Int) : Bool := !(List.range xs.length).any (mvBad xs) && decide (1 ≤ xs.length ∧ xs.length ≤ 8)
theorem movesB_bad {xs : List Int} {i : Nat} (hi : i < xs.length) (h : mvBad xs i = true) : movesB xs = false := by
  have : (List.range xs.length).any (mvBad xs) = true := List.any_eq_true.2 ⟨i, by simpa using hi, h⟩
  simp [movesB, this]
theorem movesB_all {xs : List Int} (h : ∀ i, i < xs.length → mvBad xs i = false) : movesB xs = decide (1 ≤ xs.length ∧ xs.length ≤ 8) := by
  have : (List.range xs.length).any (mvBad xs) = false := List.any_eq_false.2 fun i hi => by
    have hi : i < xs.length := by simpa using hi
    simp [h i hi]
  simp [movesB, this]
theorem movesB_of {xs : List Int} (h : movesB xs = true) : 1 ≤ xs.length ∧ xs.length ≤ 8 ∧ ∀ i, i < xs.length → 1 ≤ xs.getD i 0 ∧ xs.getD i 0 ≤ 200 := by
  unfold movesB at h
  simp only [Bool.and_eq_true, Bool.not_eq_true', decide_eq_true_eq] at h
  refine ⟨h.2.1, h.2.2, fun i hi => ?_⟩
  have := List.any_eq_false.1 h.1 i (by simpa using hi)
  cases hq : inB (xs.getD i 0) 1 200 with
  | true => exact inB_iff.1 hq
  | false => exact absurd (by rw [mvBad, hq]; rfl) this

set_option maxHeartbeats 1600000 in
theorem sTakes (A : Option Addr) (n c : Nat) (xs : List Int) (w : World) (hr : Rd w A n (iv xs)) (hn : n ≤ 1048576) :
    Calls Try.prog 41 #[.slice A n c] w fun e w' => e = .returned (.bool (movesB xs)) ∧ ∃ q, w' = w.drewN q := by
  have hlen := hr.len
  have Hbad : Hid (∀ i, i < n → mvBad xs i = true → movesB xs = false) := hide fun i hi h => movesB_bad (by omega) h
  have Hall : Hid ((∀ i, i < n → mvBad xs i = false) → movesB xs = decide (1 ≤ n ∧ n ≤ 8)) := hide fun h => by rw [← hlen]; exact movesB_all (by rw [hlen]; exact h)
  generalize movesB xs = R at *
  clear hlen
  go_enter Try.func41, Try.ntmps41
  go_wp2
  go_loopw [3] (fun i wr => ∃ k : Nat, k ≤ n ∧ i = .int .i64 k ∧ Hid (∃ q, wr = w.drewN q) ∧ Hid (∀ j, j < k → mvBad xs j = false)) (fun i _ => n - (intOf i).toNat)
  case atStart => exact ⟨0, Nat.zero_le _, rfl, hide ⟨0, rfl⟩, hide fun j hj => absurd hj (by omega)⟩
  case round =>
    obtain ⟨k, hk, rfl, hq, hfa⟩ := hrel
    obtain ⟨q, rfl⟩ := hq.out
    by_cases hlt : k < n
    · obtain ⟨ad, rfl, hbl, hc⟩ := hr.int hlt
      generalize hy : xs.getD k 0 = y at *
      have HY := hide hy
      clear hy
      have hs0 := fun W => sIn y 1 200 W
      cases hi : inB y 1 200 with
      | false =>
        simp only [hi] at hs0
        have HS := Lib.hid hs0
        clear hs0
        have HR := hide (Hbad.out k hlt (by rw [mvBad, HY.out, hi]; rfl))
        go_wp2
        go_quiet ((go_at_call 32; refine (HS.out _).mono ?_; rintro e w' ⟨rfl, rfl⟩; exact ⟨rfl, _, rfl⟩))
        go_wp2
        go_ret
        exact ⟨ret_bool HR.out.symm, drew2 _ _ _⟩
      | true =>
        simp only [hi] at hs0
        have HS := Lib.hid hs0
        clear hs0
        have hy1 := inB_iff.1 hi
        by_cases hk0 : k = 0
        · have d0 : decide (0 < k) = false := decide_eq_false (by omega)
          have d00 : ¬ 0 < (k : Int) := by omega
          have Hk0 := hide hk0
          clear hk0
          have Hgood : Hid (mvBad xs k = false) := hide (by rw [mvBad, HY.out, hi, Hk0.out]; rfl)
          go_wp2
          go_quiet ((go_at_call 32; refine (HS.out _).mono ?_; rintro e w' ⟨rfl, rfl⟩; exact ⟨rfl, _, rfl⟩))
          go_wp2
          go_roundw
          case measure => simp [intOf]; omega
          case rel =>
            refine ⟨k + 1, by omega, by go_num, hide ⟨_, rfl⟩, hide fun j hj => ?_⟩
            have e0 := Hk0.out
            have : j = k := by omega
            subst this
            exact Hgood.out
        · have d0 : decide (0 < k) = true := decide_eq_true (by omega)
          have d00 : 0 < (k : Int) := by omega
          have e1 : IntKind.i64.wrap ((k : Int) - 1) = (k : Int) - 1 := IntWalk.i64_in _ (by omega)
          have e2 : 0 ≤ (k : Int) - 1 := by omega
          have e3 : ((k : Int) - 1).toNat = k - 1 := by omega
          have e4 : (k : Int) - 1 < (n : Int) := by omega
          have e5 : k - 1 < n := by omega
          obtain ⟨ad', e', hbl', hc'⟩ := hr.int e5
          cases e'
          have Hk0 := hide hk0
          clear hk0
          generalize hz : xs.getD (k - 1) 0 = z at *
          have HZ := hide hz
          clear hz
          cases hyz : decide (y ≤ z) with
          | true =>
            have HR := hide (Hbad.out k hlt (by have := Hk0.out; rw [mvBad, HY.out, hi, HZ.out, hyz]; simp; omega))
            go_wp2
            go_quiet ((go_at_call 32; refine (HS.out _).mono ?_; rintro e w' ⟨rfl, rfl⟩; exact ⟨rfl, _, rfl⟩))
            go_wp2
            go_ret
            exact ⟨ret_bool HR.out.symm, drew2 _ _ _⟩
          | false =>
            have Hgood : Hid (mvBad xs k = false) := hide (by rw [mvBad, HY.out, hi, HZ.out, hyz]; simp)
            go_wp2
            go_quiet ((go_at_call 32; refine (HS.out _).mono ?_; rintro e w' ⟨rfl, rfl⟩; exact ⟨rfl, _, rfl⟩))
            go_wp2
            go_roundw
            case measure => simp [intOf]; omega
            case rel =>
              refine ⟨k + 1, by omega, by go_num, hide ⟨_, rfl⟩, hide fun j hj => ?_⟩
              by_cases e : j = k
              · subst e
                exact Hgood.out
              · exact hfa.out j (by omega)
    · have hkn : k = n := by omega
      subst hkn
      have hR := Hall.out hfa.out
      have hk0 := Int.natCast_nonneg k
      by_cases h1 : 1 ≤ k
      · by_cases h8 : k ≤ 8
        · have d8 : decide ((k : Int) ≤ 8) = true := decide_eq_true (by omega)
          have d1 : decide ((1 : Int) ≤ (k : Int)) = true := decide_eq_true (by omega)
          have HR : Hid (R = true) := hide (by rw [hR]; simpa using ⟨h1, h8⟩)
          clear hR
          go_wp2
          go_ret
          exact ⟨ret_bool (by rw [HR.out]), _, rfl⟩
        · have d8 : decide ((k : Int) ≤ 8) = false := decide_eq_false (by omega)
          have d1 : decide ((1 : Int) ≤ (k : Int)) = true := decide_eq_true (by omega)
          have HR : Hid (R = false) := hide (by rw [hR]; simp; omega)
          clear hR
          go_wp2
          go_ret
          exact ⟨ret_bool (by rw [HR.out]), _, rfl⟩
      · have d1 : decide ((1 : Int) ≤ (k : Int)) = false := decide_eq_false (by omega)
        have HR : Hid (R = false) := hide (by rw [hR]; simp; omega)
        clear hR
        go_wp2
        go_ret
        exact ⟨ret_bool (by rw [HR.out]), _, rfl⟩

set_option maxHeartbeats 1600000 in
theorem iMoves (A : Option Addr) (n c : Nat) (xs : List Int) (w : World) (hr : Rd w A n (iv xs)) (hn : n ≤ 1048576) :
    Calls Try.prog 43 #[.slice A n c] w fun e w' => e = .returned (.bool (movesB xs)) ∧ w = w' := by
  have hlen := hr.len
  have Hbad : Hid (∀ i, i < n → mvBad xs i = true → movesB xs = false) := hide fun i hi h => movesB_bad (by omega) h
  have Hall : Hid ((∀ i, i < n → mvBad xs i = false) → movesB xs = decide (1 ≤ n ∧ n ≤ 8)) := hide fun h => by rw [← hlen]; exact movesB_all (by rw [hlen]; exact h)
  generalize movesB xs = R at *
  clear hlen
  go_enter Try.func43, Try.ntmps43
  go_wp2
  go_loop [3, 4, 7] (fun _ _ i => ∃ k : Nat, k ≤ n ∧ i = .int .i64 k ∧ Hid (∀ j, j < k → mvBad xs j = false)) (fun _ _ i => n - (intOf i).toNat)
  case atStart => exact ⟨0, Nat.zero_le _, rfl, hide fun j hj => absurd hj (by omega)⟩
  case round =>
    obtain ⟨k, hk, rfl, hfa⟩ := hrel
    by_cases hlt : k < n
    · obtain ⟨ad, rfl, hbl, hc⟩ := hr.int hlt
      generalize hy : xs.getD k 0 = y at *
      have HY := hide hy
      clear hy
      cases hi : inB y 1 200 with
      | false =>
        have HR := hide (Hbad.out k hlt (by rw [mvBad, HY.out, hi]; rfl))
        go_wp2_with (go_at_call 34; refine (iIn _ _ _ _).mono ?_; rintro e w' ⟨rfl, rfl⟩)
        go_ret
        exact ⟨ret_bool HR.out.symm, rfl⟩
      | true =>
        have hy1 := inB_iff.1 hi
        by_cases hk0 : k = 0
        · have d0 : decide (0 < k) = false := decide_eq_false (by omega)
          have d00 : ¬ 0 < (k : Int) := by omega
          have Hk0 := hide hk0
          clear hk0
          have Hgood : Hid (mvBad xs k = false) := hide (by rw [mvBad, HY.out, hi, Hk0.out]; rfl)
          go_wp2_with (go_at_call 34; refine (iIn _ _ _ _).mono ?_; rintro e w' ⟨rfl, rfl⟩)
          go_round
          case measure => simp [intOf]; omega
          case rel =>
            refine ⟨k + 1, by omega, by go_num, hide fun j hj => ?_⟩
            have e0 := Hk0.out
            have : j = k := by omega
            subst this
            exact Hgood.out
        · have d0 : decide (0 < k) = true := decide_eq_true (by omega)
          have d00 : 0 < (k : Int) := by omega
          have e1 : IntKind.i64.wrap ((k : Int) - 1) = (k : Int) - 1 := IntWalk.i64_in _ (by omega)
          have e2 : 0 ≤ (k : Int) - 1 := by omega
          have e3 : ((k : Int) - 1).toNat = k - 1 := by omega
          have e4 : (k : Int) - 1 < (n : Int) := by omega
          have e5 : k - 1 < n := by omega
          obtain ⟨ad', e', hbl', hc'⟩ := hr.int e5
          cases e'
          have Hk0 := hide hk0
          clear hk0
          generalize hz : xs.getD (k - 1) 0 = z at *
          have HZ := hide hz
          clear hz
          cases hyz : decide (y ≤ z) with
          | true =>
            have HR := hide (Hbad.out k hlt (by have := Hk0.out; rw [mvBad, HY.out, hi, HZ.out, hyz]; simp; omega))
            go_wp2_with (go_at_call 34; refine (iIn _ _ _ _).mono ?_; rintro e w' ⟨rfl, rfl⟩)
            go_ret
            exact ⟨ret_bool HR.out.symm, rfl⟩
          | false =>
            have Hgood : Hid (mvBad xs k = false) := hide (by rw [mvBad, HY.out, hi, HZ.out, hyz]; simp)
            go_wp2_with (go_at_call 34; refine (iIn _ _ _ _).mono ?_; rintro e w' ⟨rfl, rfl⟩)
            go_round
            case measure => simp [intOf]; omega
            case rel =>
              refine ⟨k + 1, by omega, by go_num, hide fun j hj => ?_⟩
              by_cases e : j = k
              · subst e
                exact Hgood.out
              · exact hfa.out j (by omega)
    · have hkn : k = n := by omega
      subst hkn
      have hR := Hall.out hfa.out
      have hk0 := Int.natCast_nonneg k
      by_cases h1 : 1 ≤ k
      · by_cases h8 : k ≤ 8
        · have d8 : decide ((k : Int) ≤ 8) = true := decide_eq_true (by omega)
          have d1 : decide ((1 : Int) ≤ (k : Int)) = true := decide_eq_true (by omega)
          have HR : Hid (R = true) := hide (by rw [hR]; simpa using ⟨h1, h8⟩)
          clear hR
          go_wp2
          go_ret
          exact ⟨ret_bool (by rw [HR.out]), rfl⟩
        · have d8 : decide ((k : Int) ≤ 8) = false := decide_eq_false (by omega)
          have d1 : decide ((1 : Int) ≤ (k : Int)) = true := decide_eq_true (by omega)
          have HR : Hid (R = false) := hide (by rw [hR]; simp; omega)
          clear hR
          go_wp2
          go_ret
          exact ⟨ret_bool (by rw [HR.out]), rfl⟩
      · have d1 : decide ((1 : Int) ≤ (k : Int)) = false := decide_eq_false (by omega)
        have HR : Hid (R = false) := hide (by rw [hR]; simp; omega)
        clear hR
        go_wp2
        go_ret
        exact ⟨ret_bool (by rw [HR.out]), rfl⟩
end Go.Proofs.Ytajpieblbijciaa
