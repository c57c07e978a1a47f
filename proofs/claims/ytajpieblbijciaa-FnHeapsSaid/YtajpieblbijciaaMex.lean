/- Contracts of the least missing number, both sides. Conditions: lengths at most 2^20. -/
import Derived.Test.YtajpieblbijciaaHas0
import Derived.Test.YtajpieblbijciaaVal
namespace Go.Proofs.Ytajpieblbijciaa
open Go.ChangeShapes Go.WideShapes Go.ChangeAt Go.RowKit

/-- is v among xs -/
def hasI (xs : List Int) (v : Int) : Bool := decide (v ∈ xs)
theorem hasI_any (xs : List Int) (v : Int) : xs.any (v == ·) = hasI xs v := by
  unfold hasI
  rw [Bool.eq_iff_iff, List.any_eq_true]
  simp
theorem hasI_at {xs : List Int} {k : Nat} {v : Int} (hk : k < xs.length) (h : xs.getD k 0 = v) : hasI xs v = true := by
  unfold hasI
  rw [decide_eq_true_eq, ← h]
  simp [List.getD, hk]
theorem hasI_none {xs : List Int} {v : Int} (h : ∀ k, k < xs.length → xs.getD k 0 ≠ v) : hasI xs v = false := by
  unfold hasI
  rw [decide_eq_false_iff_not]
  intro hm
  obtain ⟨j, hj, e⟩ := List.getElem_of_mem hm
  exact h j hj (by simp [List.getD, hj, e])
theorem pigeon : ∀ (n : Nat) (xs : List Int), (∀ k : Nat, k < n → (k : Int) ∈ xs) → n ≤ xs.length := by
  intro n
  induction n with
  | zero => intro xs _; omega
  | succ n ih =>
    intro xs h
    have h1 := h n (by omega)
    have h2 := ih (xs.erase (n : Int)) (fun k hk => (List.mem_erase_of_ne (by omega)).2 (h k (by omega)))
    rw [List.length_erase_of_mem h1] at h2
    have h3 : 0 < xs.length := List.length_pos_of_mem h1
    omega
/-- the least number from 0 on that is not among xs -/
def mex (xs : List Int) : Nat := (List.range (xs.length + 1)).findIdx fun j : Nat => !hasI xs (j : Int)
theorem mex_eq {xs : List Int} {k : Nat} (h : ∀ j, j < k → hasI xs (j : Int) = true) (hk : hasI xs (k : Int) = false) : mex xs = k := by
  have hle : k ≤ xs.length := pigeon k xs fun j hj => by
    have := h j hj
    unfold hasI at this
    simpa using this
  have hlt : k < (List.range (xs.length + 1)).length := by simp; omega
  unfold mex
  rw [List.findIdx_eq hlt]
  refine ⟨by simp [hk], fun j hj => ?_⟩
  simp [h j hj]
theorem mex_room {xs : List Int} {k : Nat} (h : ∀ j, j < k → hasI xs (j : Int) = true) : k ≤ xs.length := pigeon k xs fun j hj => by
  have := h j hj
  unfold hasI at this
  simpa using this

set_option maxHeartbeats 800000 in
theorem sHas (A : Option Addr) (n c : Nat) (xs : List Int) (v : Int) (w : World) (hr : Rd w A n (iv xs)) (hn : n ≤ 1048576) :
    Calls Try.prog 47 #[.slice A n c, .int .i64 v] w fun e w' => e = .returned (.bool (hasI xs v)) ∧ w = w' := by
  have hlen := hr.len
  have Hyes : Hid (∀ k, k < n → xs.getD k 0 = v → hasI xs v = true) := hide fun k hk h => hasI_at (by omega) h
  have Hno : Hid ((∀ k, k < n → xs.getD k 0 ≠ v) → hasI xs v = false) := hide fun h => hasI_none (by rw [hlen]; exact h)
  generalize hasI xs v = R at *
  clear hlen
  go_enter Try.func47, Try.ntmps47
  go_wp2
  go_loop [5] (fun i => ∃ k : Nat, k ≤ n ∧ i = .int .i64 k ∧ Hid (∀ j, j < k → xs.getD j 0 ≠ v)) (fun i => n - (intOf i).toNat)
  case atStart => exact ⟨0, Nat.zero_le _, rfl, hide fun j hj => absurd hj (by omega)⟩
  case round =>
    obtain ⟨k, hk, rfl, hfa⟩ := hrel
    by_cases hlt : k < n
    · obtain ⟨ad, rfl, hbl, hc⟩ := hr.int hlt
      generalize hy : xs.getD k 0 = y at *
      have HY := hide hy
      clear hy
      cases hq : (y == v) with
      | true =>
        have hR := Hyes.out k hlt (by rw [HY.out]; simpa using hq)
        have HR := hide hR
        clear hR
        go_wp2
        go_ret
        exact ⟨ret_bool HR.out.symm, rfl⟩
      | false =>
        have Hne : Hid (y ≠ v) := hide (by simpa using hq)
        go_wp2
        go_round
        case rel =>
          refine ⟨k + 1, by omega, by go_num, hide fun j hj => ?_⟩
          by_cases e : j = k
          · subst e
            rw [HY.out]; exact Hne.out
          · exact hfa.out j (by omega)
        case measure => simp [intOf]; omega
    · have hkn : k = n := by omega
      have hR := Hno.out (by rw [← hkn]; exact hfa.out)
      have HR := hide hR
      clear hR hkn
      go_wp2
      go_ret
      exact ⟨ret_bool HR.out.symm, rfl⟩

theorem sHasV (v : Value) (xs : List Int) (x : Int) (w : World) (hv : RV w v xs) (hn : xs.length ≤ 1048576) :
    Calls Try.prog 47 #[v, .int .i64 x] w fun e w' => e = .returned (.bool (hasI xs x)) ∧ w = w' := by
  obtain ⟨A, c, rfl, hr, _⟩ := hv
  exact sHas A _ c xs x w hr hn
theorem iHasV (v : Value) (xs : List Int) (x : Int) (w : World) (hv : RV w v xs) (hn : xs.length ≤ 1048576) :
    Calls Try.prog 48 #[v, .int .i64 x] w fun e w' => e = .returned (.bool (hasI xs x)) ∧ w = w' := by
  obtain ⟨A, c, rfl, hr, _⟩ := hv
  rw [← hasI_any]
  exact libHas A _ c xs x w hr hn

set_option maxHeartbeats 400000 in
theorem sMex (v : Value) (xs : List Int) (w : World) (hv : RV w v xs) (hn : xs.length ≤ 1048576) :
    Calls Try.prog 39 #[v] w fun e w' => e = .returned (.int .i64 (mex xs : Int)) ∧ w = w' := by
  have HH := Lib.hid (fun x => sHasV v xs x w hv hn)
  go_enter Try.func39, Try.ntmps39
  go_wp2
  go_loop [3] (fun i => ∃ k : Nat, k ≤ xs.length ∧ i = .int .i64 k ∧ Hid (∀ j, j < k → hasI xs (j : Int) = true)) (fun i => xs.length + 1 - (intOf i).toNat)
  case atStart => exact ⟨0, Nat.zero_le _, rfl, hide fun j hj => absurd hj (by omega)⟩
  case round =>
    obtain ⟨k, hk, rfl, hfa⟩ := hrel
    have H1 := Lib.hid (HH.out (k : Int))
    cases hq : hasI xs (k : Int) with
    | true =>
      rw [hq] at H1
      have hfa' : Hid (∀ j, j < k + 1 → hasI xs (j : Int) = true) := hide fun j hj => by
        by_cases e : j = k
        · subst e; exact hq
        · exact hfa.out j (by omega)
      have hroom := mex_room hfa'.out
      clear hq
      go_wp2_with (go_at_call 47; refine H1.out.mono ?_; rintro e w' ⟨rfl, rfl⟩)
      go_round
      case rel => exact ⟨k + 1, hroom, by go_num, hfa'⟩
      case measure => simp [intOf]; omega
    | false =>
      rw [hq] at H1
      have Hm := hide (mex_eq hfa.out hq)
      clear hq
      go_wp2_with (go_at_call 47; refine H1.out.mono ?_; rintro e w' ⟨rfl, rfl⟩)
      go_ret
      exact ⟨ret_int (by rw [Hm.out]), rfl⟩

set_option maxHeartbeats 400000 in
theorem iMex (v : Value) (xs : List Int) (w : World) (hv : RV w v xs) (hn : xs.length ≤ 1048576) :
    Calls Try.prog 40 #[v] w fun e w' => e = .returned (.int .i64 (mex xs : Int)) ∧ w = w' := by
  have HH := Lib.hid (fun x => iHasV v xs x w hv hn)
  go_enter Try.func40, Try.ntmps40
  go_wp2
  go_loop [3] (fun i => ∃ k : Nat, k ≤ xs.length ∧ i = .int .i64 k ∧ Hid (∀ j, j < k → hasI xs (j : Int) = true)) (fun i => xs.length + 1 - (intOf i).toNat)
  case atStart => exact ⟨0, Nat.zero_le _, rfl, hide fun j hj => absurd hj (by omega)⟩
  case round =>
    obtain ⟨k, hk, rfl, hfa⟩ := hrel
    have H1 := Lib.hid (HH.out (k : Int))
    cases hq : hasI xs (k : Int) with
    | true =>
      rw [hq] at H1
      have hfa' : Hid (∀ j, j < k + 1 → hasI xs (j : Int) = true) := hide fun j hj => by
        by_cases e : j = k
        · subst e; exact hq
        · exact hfa.out j (by omega)
      have hroom := mex_room hfa'.out
      clear hq
      go_wp2_with (go_at_call 48; refine H1.out.mono ?_; rintro e w' ⟨rfl, rfl⟩)
      go_round
      case rel => exact ⟨k + 1, hroom, by go_num, hfa'⟩
      case measure => simp [intOf]; omega
    | false =>
      rw [hq] at H1
      have Hm := hide (mex_eq hfa.out hq)
      clear hq
      go_wp2_with (go_at_call 48; refine H1.out.mono ?_; rintro e w' ⟨rfl, rfl⟩)
      go_ret
      exact ⟨ret_int (by rw [Hm.out]), rfl⟩
end Go.Proofs.Ytajpieblbijciaa
