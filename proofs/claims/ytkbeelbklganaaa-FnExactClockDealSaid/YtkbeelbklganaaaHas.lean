/- Contracts of slices.Index, Contains at []int64, and of impl.isHand. Conditions: lengths at most 2^20. -/
import Derived.Test.YtkbeelbklganaaaNum
namespace Go.Proofs.Ytkbeelbklganaaa
open Go.ChangeShapes Go.WideShapes Go.ChangeAt Go.RowKit

/-- the place of the first element that is v, or -1 -/
def idxV (xs : List Int) (v : Int) : Int := if (xs.any (v == ·)) then ((xs.findIdx (v == ·) : Nat) : Int) else -1

theorem hit_of (p : Int → Bool) (xs : List Int) (k : Nat) (hk : k < xs.length) (h : ∀ j, j < k → p (xs.getD j 0) = false) (hp : p (xs.getD k 0) = true) : xs.any p = true ∧ xs.findIdx p = k := by
  have e : xs.getD k 0 = xs[k] := by simp [List.getD, hk]
  refine ⟨List.any_eq_true.2 ⟨xs[k], List.getElem_mem _, by rw [← e]; exact hp⟩, ?_⟩
  rw [List.findIdx_eq hk]
  refine ⟨by rw [← e]; exact hp, fun j hj => ?_⟩
  have := h j hj
  simpa [List.getD, show j < xs.length by omega] using this
theorem miss_of (p : Int → Bool) (xs : List Int) (h : ∀ j, j < xs.length → p (xs.getD j 0) = false) : xs.any p = false := by
  rw [List.any_eq_false]
  intro x hx
  obtain ⟨j, hj, rfl⟩ := List.getElem_of_mem hx
  have := h j hj
  simpa [List.getD, hj] using this

set_option maxHeartbeats 800000 in
theorem libIndex (A : Option Addr) (n c : Nat) (xs : List Int) (v : Int) (w : World) (hr : Rd w A n (iv xs)) (hn : n ≤ 1048576) :
    Calls Try.prog 76 #[.slice A n c, .int .i64 v] w fun e w' => e = .returned (.int .i64 (idxV xs v)) ∧ w = w' := by
  have hlen := hr.len
  have Hlen := hide hlen
  clear hlen
  go_enter Try.func76, Try.ntmps76
  go_wp2
  go_loop [5, 8] (fun _ i => ∃ k : Nat, k ≤ n ∧ i = .int .i64 k ∧ Hid (∀ j, j < k → (v == xs.getD j 0) = false)) (fun _ i => n - (intOf i).toNat)
  case atStart => exact ⟨0, Nat.zero_le _, rfl, hide fun j hj => absurd hj (by omega)⟩
  case round =>
    obtain ⟨k, hk, rfl, hfa⟩ := hrel
    by_cases hlt : k < n
    · obtain ⟨ad, rfl, hbl, hc⟩ := hr.int hlt
      generalize hy : xs.getD k 0 = y at *
      have HY := hide hy
      clear hy
      cases hq : (v == y) with
      | true =>
        have HQ := hide hq
        go_wp2
        go_ret
        refine ⟨ret_int ?_, rfl⟩
        obtain ⟨h1, h2⟩ := hit_of (v == ·) xs k (by rw [Hlen.out]; exact hlt) hfa.out (by rw [HY.out]; exact HQ.out)
        rw [idxV, if_pos h1, h2]
      | false =>
        have HQ := hide hq
        go_wp2
        go_round
        case measure => simp [intOf]; omega
        case rel =>
          refine ⟨k + 1, by omega, by go_num, hide fun j hj => ?_⟩
          by_cases e : j = k
          · subst e
            rw [HY.out]; exact HQ.out
          · exact hfa.out j (by omega)
    · have hkn : k = n := by omega
      subst hkn
      go_wp2
      go_ret
      refine ⟨ret_int ?_, rfl⟩
      have h := miss_of (v == ·) xs (by rw [Hlen.out]; exact hfa.out)
      rw [idxV, if_neg (by rw [h]; simp)]

set_option maxHeartbeats 400000 in
theorem libHas (A : Option Addr) (n c : Nat) (xs : List Int) (v : Int) (w : World) (hr : Rd w A n (iv xs)) (hn : n ≤ 1048576) :
    Calls Try.prog 66 #[.slice A n c, .int .i64 v] w fun e w' => e = .returned (.bool (xs.any (v == ·))) ∧ w = w' := by
  have h := libIndex A n c xs v w hr hn
  have hle : (xs.findIdx (v == ·) : Nat) ≤ xs.length := List.findIdx_le_length
  have hl := hr.len
  have H := Lib.hid h
  clear h
  cases hq : xs.any (v == ·) with
  | true =>
    have e : idxV xs v = ((xs.findIdx (v == ·) : Nat) : Int) := by rw [idxV, if_pos hq]
    rw [e] at H
    generalize xs.findIdx (v == ·) = k at *
    have hk : k ≤ 1048576 := by omega
    clear hl hle e hq
    go_enter Try.func66, Try.ntmps66
    go_wp2_with (go_at_call 76; refine H.out.mono ?_; rintro e w' ⟨rfl, rfl⟩)
    go_ret
    exact ⟨by simp, rfl⟩
  | false =>
    have e : idxV xs v = -1 := by rw [idxV, if_neg (by rw [hq]; simp)]
    rw [e] at H
    clear hl hle e hq
    go_enter Try.func66, Try.ntmps66
    go_wp2_with (go_at_call 76; refine H.out.mono ?_; rintro e w' ⟨rfl, rfl⟩)
    go_ret
    exact ⟨by simp, rfl⟩

/-- the i-th card is a card and new -/
def cardAt (xs : List Int) (i : Nat) : Bool := inB (xs.getD i 0) 0 51 && !(xs.take i).any (xs.getD i 0 == ·)
/-- different cards, from least to most of them -/
def handB (xs : List Int) (least most : Int) : Bool := decide (least ≤ (xs.length : Int) ∧ (xs.length : Int) ≤ most) && (List.range xs.length).all (cardAt xs)
theorem handB_n {xs : List Int} {l m : Int} (h : ¬ (l ≤ (xs.length : Int) ∧ (xs.length : Int) ≤ m)) : handB xs l m = false := by simp [handB, decide_eq_false h]
theorem handB_bad {xs : List Int} {l m : Int} {k : Nat} (hk : k < xs.length) (h : cardAt xs k = false) : handB xs l m = false := by
  have : (List.range xs.length).all (cardAt xs) = false := by
    rw [List.all_eq_false]
    exact ⟨k, by simpa using hk, by simp [h]⟩
  simp [handB, this]
theorem handB_ok {xs : List Int} {l m : Int} (h : l ≤ (xs.length : Int) ∧ (xs.length : Int) ≤ m) (ha : ∀ k, k < xs.length → cardAt xs k = true) : handB xs l m = true := by
  have : (List.range xs.length).all (cardAt xs) = true := by
    rw [List.all_eq_true]
    intro x hx
    exact ha x (by simpa using hx)
  simp [handB, this, h]

set_option maxHeartbeats 800000 in
theorem iHand (A : Option Addr) (n c : Nat) (xs : List Int) (l m : Int) (w : World) (hr : Rd w A n (iv xs)) (hn : n ≤ 1048576) (hcap : n ≤ c) :
    Calls Try.prog 49 #[.slice A n c, .int .i64 l, .int .i64 m] w fun e w' => e = .returned (.bool (handB xs l m)) ∧ w = w' := by
  have hlen := hr.len
  by_cases h1 : (n : Int) < l
  · rw [handB_n (by omega)]
    clear hlen
    go_enter Try.func49, Try.ntmps49
    go_wp2
    go_ret
    exact ⟨rfl, rfl⟩
  · by_cases h2 : m < (n : Int)
    · rw [handB_n (by omega)]
      clear hlen
      go_enter Try.func49, Try.ntmps49
      go_wp2
      go_ret
      exact ⟨rfl, rfl⟩
    · have hok : (∀ k, k < xs.length → cardAt xs k = true) → handB xs l m = true := handB_ok (by omega)
      have hbad : ∀ k, k < xs.length → cardAt xs k = false → handB xs l m = false := fun k hk h => handB_bad hk h
      generalize handB xs l m = R at *
      have Hok := Lib.hid hok
      have Hbad := Lib.hid hbad
      have Hlen := hide hlen
      clear hlen hok hbad
      go_enter Try.func49, Try.ntmps49
      go_wp2
      go_loop [7, 8, 21] (fun _ _ i => ∃ k : Nat, k ≤ n ∧ i = .int .i64 k ∧ Hid (∀ j, j < k → cardAt xs j = true)) (fun _ _ i => n - (intOf i).toNat)
      case atStart => exact ⟨0, Nat.zero_le _, rfl, hide fun j hj => absurd hj (by omega)⟩
      case round =>
        obtain ⟨k, hk, rfl, hfa⟩ := hrel
        by_cases hlt : k < n
        · obtain ⟨ad, rfl, hbl, hc⟩ := hr.int hlt
          have hT := hr.take (m := k) hk
          rw [← List.map_take] at hT
          have HC : Hid (cardAt xs k = (inB (xs.getD k 0) 0 51 && !(xs.take k).any (xs.getD k 0 == ·))) := hide rfl
          generalize hy : xs.getD k 0 = y at *
          have HY := hide hy
          clear hy
          cases hq : inB y 0 51 with
          | false =>
            go_wp2_with (go_at_call 40; refine (iIn _ _ _ _).mono ?_; rintro e w' ⟨rfl, rfl⟩)
            go_ret
            refine ⟨ret_bool ?_, rfl⟩
            exact (Hbad.out k (by rw [Hlen.out]; exact hlt) (by rw [HC.out, hq]; rfl)).symm
          | true =>
            cases hq2 : (xs.take k).any (y == ·) with
            | true =>
              go_wp2_with (first | (go_at_call 40; refine (iIn _ _ _ _).mono ?_; rintro e w' ⟨rfl, rfl⟩) | (go_at_call 66; refine (libHas _ _ _ (xs.take k) _ _ hT (by omega)).mono ?_; rintro e w' ⟨rfl, rfl⟩))
              go_ret
              refine ⟨ret_bool ?_, rfl⟩
              exact (Hbad.out k (by rw [Hlen.out]; exact hlt) (by rw [HC.out, hq2]; simp)).symm
            | false =>
              go_wp2_with (first | (go_at_call 40; refine (iIn _ _ _ _).mono ?_; rintro e w' ⟨rfl, rfl⟩) | (go_at_call 66; refine (libHas _ _ _ (xs.take k) _ _ hT (by omega)).mono ?_; rintro e w' ⟨rfl, rfl⟩))
              go_round
              case measure => simp [intOf]; omega
              case rel =>
                refine ⟨k + 1, by omega, by go_num, hide fun j hj => ?_⟩
                by_cases e : j = k
                · subst e
                  rw [HC.out, hq, hq2]; rfl
                · exact hfa.out j (by omega)
        · have hkn : k = n := by omega
          subst hkn
          go_wp2
          go_ret
          refine ⟨ret_bool ?_, rfl⟩
          exact (Hok.out (by rw [Hlen.out]; exact hfa.out)).symm
end Go.Proofs.Ytkbeelbklganaaa
