/- Contracts of spec.IsTileHand and impl.IsTileHand. Conditions: lengths at most 2^20. -/
import Derived.Test.YtkbeelbklganaaaIdx
import Derived.Test.YtkbeelbklganaaaVal
namespace Go.Proofs.Ytkbeelbklganaaa
open Go.ChangeShapes Go.WideShapes Go.ChangeAt Go.RowKit

/-- is the list a hand of tiles -/
def tileB (xs : List Int) : Bool := decide (xs.length = 9) && (!xs.any (fun x => !inB x 0 4) && decide (xs.sum ≤ 14))
theorem tileB_n {xs : List Int} (h : ¬ xs.length = 9) : tileB xs = false := by simp [tileB, h]
theorem tileB_any {xs : List Int} (h : xs.any (fun x => !inB x 0 4) = true) : tileB xs = false := by simp [tileB, h]
theorem tileB_sum {xs : List Int} (h : xs.length = 9) (h1 : xs.any (fun x => !inB x 0 4) = false) : tileB xs = decide (xs.sum ≤ 14) := by simp [tileB, h, h1]
theorem sum_succ (xs : List Int) (k : Nat) (hk : k < xs.length) : (xs.take (k + 1)).sum = (xs.take k).sum + xs.getD k 0 := by
  rw [take_snoc' xs 0 k hk]
  simp
theorem four_of {xs : List Int} (h1 : xs.any (fun x => !inB x 0 4) = false) : ∀ k, k < xs.length → 0 ≤ xs.getD k 0 ∧ xs.getD k 0 ≤ 4 := fun k hk => by
  have h := List.any_eq_false.1 h1 (xs.getD k 0) (by simp [List.getD, hk])
  simp only [Bool.not_eq_true', Bool.not_eq_true] at h
  cases hq : inB (xs.getD k 0) 0 4 with
  | true => exact inB_iff.1 hq
  | false => rw [hq] at h; exact absurd rfl h

set_option maxHeartbeats 800000 in
theorem sSum (A : Option Addr) (n c : Nat) (xs : List Int) (w : World) (hr : Rd w A n (iv xs)) (hn : n = 9) (hb : Hid (∀ k, k < n → 0 ≤ xs.getD k 0 ∧ xs.getD k 0 ≤ 4)) :
    Calls Try.prog 62 #[.slice A n c] w fun e w' => e = .returned (.int .i64 xs.sum) ∧ w = w' := by
  have hlen := hr.len
  have Hs : Hid (∀ k, k < n → (xs.take (k + 1)).sum = (xs.take k).sum + xs.getD k 0) := hide fun k hk => sum_succ xs k (by omega)
  have Ht : Hid ((xs.take n).sum = xs.sum) := hide (by rw [← hlen, List.take_length])
  generalize xs.sum = T at *
  clear hlen
  go_enter Try.func62, Try.ntmps62
  go_wp2
  go_loop [3, 4] (fun r i => ∃ k : Nat, ∃ s : Int, k ≤ n ∧ i = .int .i64 k ∧ r = .int .i64 s ∧ Hid ((xs.take k).sum = s) ∧ Hid (0 ≤ s) ∧ s ≤ 4 * k) (fun _ i => n - (intOf i).toNat)
  case atStart => exact ⟨0, 0, Nat.zero_le _, rfl, rfl, hide rfl, hide (by omega), by omega⟩
  case round =>
    obtain ⟨k, s, hk, rfl, rfl, hs, h0, h4⟩ := hrel
    by_cases hlt : k < n
    · obtain ⟨ad, rfl, hbl, hc⟩ := hr.int hlt
      obtain ⟨hy0, hy4⟩ := hb.out k hlt
      have hs' := Hs.out k hlt
      have h0' := h0.out
      generalize xs.getD k 0 = y at *
      rw [hs.out] at hs'
      have HS := hide hs'
      clear hs'
      go_wp2
      go_round
      case rel => exact ⟨k + 1, s + y, by omega, by go_num, by go_num, HS, hide (by omega), by omega⟩
      case measure => simp [intOf]; omega
    · have hkn : k = n := by omega
      subst hkn
      go_wp2
      go_ret
      exact ⟨ret_int (by rw [← Ht.out, hs.out]), rfl⟩

set_option maxHeartbeats 800000 in
theorem iSum (A : Option Addr) (n c : Nat) (xs : List Int) (w : World) (hr : Rd w A n (iv xs)) (hn : n = 9) (hb : Hid (∀ k, k < n → 0 ≤ xs.getD k 0 ∧ xs.getD k 0 ≤ 4)) :
    Calls Try.prog 41 #[.slice A n c] w fun e w' => e = .returned (.int .i64 xs.sum) ∧ w = w' := by
  have hlen := hr.len
  have Hs : Hid (∀ k, k < n → (xs.take (k + 1)).sum = (xs.take k).sum + xs.getD k 0) := hide fun k hk => sum_succ xs k (by omega)
  have Ht : Hid ((xs.take n).sum = xs.sum) := hide (by rw [← hlen, List.take_length])
  generalize xs.sum = T at *
  clear hlen
  go_enter Try.func41, Try.ntmps41
  go_wp2
  go_loop [3, 5, 8] (fun r _ i => ∃ k : Nat, ∃ s : Int, k ≤ n ∧ i = .int .i64 k ∧ r = .int .i64 s ∧ Hid ((xs.take k).sum = s) ∧ Hid (0 ≤ s) ∧ s ≤ 4 * k) (fun _ _ i => n - (intOf i).toNat)
  case atStart => exact ⟨0, 0, Nat.zero_le _, rfl, rfl, hide rfl, hide (by omega), by omega⟩
  case round =>
    obtain ⟨k, s, hk, rfl, rfl, hs, h0, h4⟩ := hrel
    by_cases hlt : k < n
    · obtain ⟨ad, rfl, hbl, hc⟩ := hr.int hlt
      obtain ⟨hy0, hy4⟩ := hb.out k hlt
      have hs' := Hs.out k hlt
      have h0' := h0.out
      generalize xs.getD k 0 = y at *
      rw [hs.out] at hs'
      have HS := hide hs'
      clear hs'
      go_wp2
      go_round
      case rel => exact ⟨k + 1, s + y, by omega, by go_num, by go_num, HS, hide (by omega), by omega⟩
      case measure => simp [intOf]; omega
    · have hkn : k = n := by omega
      subst hkn
      go_wp2
      go_ret
      exact ⟨ret_int (by rw [← Ht.out, hs.out]), rfl⟩

set_option maxHeartbeats 800000 in
theorem sTiles (A : Option Addr) (n c : Nat) (xs : List Int) (w : World) (hr : Rd w A n (iv xs)) (hn : n ≤ 1048576) :
    Calls Try.prog 37 #[.slice A n c] w fun e w' => e = .returned (.bool (tileB xs)) ∧ w = w' := by
  have hlen := hr.len
  by_cases h9 : n = 9
  · subst h9
    have Hyes : Hid (xs.any (fun x => !inB x 0 4) = true → tileB xs = false) := hide tileB_any
    have Hno : Hid (xs.any (fun x => !inB x 0 4) = false → tileB xs = decide (xs.sum ≤ 14) ∧ (∀ k, k < 9 → 0 ≤ xs.getD k 0 ∧ xs.getD k 0 ≤ 4)) := hide fun h => ⟨tileB_sum hlen h, fun k hk => four_of h k (by omega)⟩
    generalize tileB xs = R at *
    have Hlen := hide hlen
    clear hlen
    go_enter Try.func37, Try.ntmps37
    go_wp2
    go_loop [3] (fun i => ∃ k : Nat, k ≤ 9 ∧ i = .int .i64 k ∧ Hid (∀ j, j < k → (fun x => !inB x 0 4) (xs.getD j 0) = false)) (fun i => 9 - (intOf i).toNat)
    case atStart => exact ⟨0, Nat.zero_le _, rfl, hide fun j hj => absurd hj (by omega)⟩
    case round =>
      obtain ⟨k, hk, rfl, hfa⟩ := hrel
      by_cases hlt : k < 9
      · obtain ⟨ad, rfl, hbl, hc⟩ := hr.int hlt
        generalize hy : xs.getD k 0 = y at *
        have HY := hide hy
        clear hy
        cases hq : inB y 0 4 with
        | false =>
          have h := (any_take_succ (fun x => !inB x 0 4) xs k (by rw [Hlen.out]; exact hlt) hfa.out (by simp only [HY.out, hq]; rfl)).1
          have HR := hide (Hyes.out h)
          clear h
          go_wp2_with (go_at_call 52; refine (sIn _ _ _ _).mono ?_; rintro e w' ⟨rfl, rfl⟩)
          go_ret
          exact ⟨ret_bool HR.out.symm, rfl⟩
        | true =>
          go_wp2_with (go_at_call 52; refine (sIn _ _ _ _).mono ?_; rintro e w' ⟨rfl, rfl⟩)
          go_round
          case measure => simp [intOf]; omega
          case rel =>
            refine ⟨k + 1, by omega, by go_num, hide fun j hj => ?_⟩
            by_cases e : j = k
            · subst e
              simp only [HY.out, hq]
              rfl
            · exact hfa.out j (by omega)
      · have hkn : k = 9 := by omega
        subst hkn
        have h := any_none (fun x => !inB x 0 4) xs (by rw [Hlen.out]; exact hfa.out)
        obtain ⟨hR, h4⟩ := Hno.out h
        have HS := Lib.hid (sSum A 9 c xs w hr rfl (hide h4))
        have HR := hide hR
        clear h hR h4
        generalize xs.sum = T at *
        go_wp2_with (go_at_call 62; refine HS.out.mono ?_; rintro e w' ⟨rfl, rfl⟩)
        go_ret
        exact ⟨ret_bool (by rw [HR.out]), rfl⟩
  · rw [tileB_n (by omega)]
    clear hlen
    go_enter Try.func37, Try.ntmps37
    go_wp2
    go_ret
    exact ⟨rfl, rfl⟩

theorem tile_clo (x : Int) (w : World) :
    Calls Try.prog 39 #[.int .i64 x] w fun e w' => e = .returned (.bool (!inB x 0 4)) ∧ w = w' := by
  go_enter Try.func39, Try.ntmps39
  go_wp2_with (go_at_call 40; refine (iIn _ _ _ _).mono ?_; rintro e w' ⟨rfl, rfl⟩)
  go_ret
  exact ⟨rfl, rfl⟩

def RIsTileHand (xs : List Int) : Bool := tileB xs

theorem sIsTileHand (v : Value) (xs : List Int) (w : World) (hv : RV w v xs) (hn : xs.length ≤ 1048576) :
    Calls Try.prog 11 #[v] w fun e w' => e = .returned (.bool (RIsTileHand xs)) ∧ Below w.heap.size w w' := by
  unfold RIsTileHand
  obtain ⟨A, c, rfl, hr, _⟩ := hv
  go_enter Try.func11, Try.ntmps11
  go_wp2_with (go_at_call 37; refine (sTiles _ _ _ _ _ hr hn).mono ?_; rintro e w' ⟨rfl, rfl⟩)
  go_ret
  exact ⟨rfl, Below.refl _ _⟩

set_option maxHeartbeats 800000 in
theorem iIsTileHand (v : Value) (xs : List Int) (w : World) (hv : RV w v xs) (hn : xs.length ≤ 1048576) :
    Calls Try.prog 13 #[v] w fun e w' => e = .returned (.bool (RIsTileHand xs)) ∧ Below w.heap.size w w' := by
  unfold RIsTileHand
  obtain ⟨A, c, rfl, hr, _⟩ := hv
  have hmf : ∀ (fn : Fn) (first cap : Array Value) (w : World), (Instr.makeFunc fn first cap).run Try.prog w = .ok (.func fn first cap) w := fun _ _ _ _ => rfl
  by_cases h9 : xs.length = 9
  · have H := hasF 39 #[] (fun x => !inB x 0 4) A xs.length c xs w (fun _ _ => rfl) hr hn (fun x _ => tile_clo x w)
    cases hq : xs.any (fun x => !inB x 0 4) with
    | true =>
      rw [hq] at H
      have HH := Lib.hid H
      rw [tileB_any hq]
      clear hq H
      generalize xs.length = n at *
      subst h9
      go_enter Try.func13, Try.ntmps13
      go_wp2_with (go_at_call 38; refine HH.out.mono ?_; rintro e w' ⟨rfl, rfl⟩)
      go_ret
      exact ⟨rfl, Below.refl _ _⟩
    | false =>
      rw [hq] at H
      have HH := Lib.hid H
      have HS := Lib.hid (iSum A xs.length c xs w hr h9 (hide fun k hk => four_of hq k (by omega)))
      rw [tileB_sum h9 hq]
      clear hq H
      generalize xs.sum = T at *
      generalize xs.length = n at *
      subst h9
      go_enter Try.func13, Try.ntmps13
      go_wp2_with (first | (go_at_call 38; refine HH.out.mono ?_; rintro e w' ⟨rfl, rfl⟩) | (go_at_call 41; refine HS.out.mono ?_; rintro e w' ⟨rfl, rfl⟩))
      go_ret
      exact ⟨rfl, Below.refl _ _⟩
  · rw [tileB_n h9]
    generalize xs.length = n at *
    go_enter Try.func13, Try.ntmps13
    go_wp2
    go_ret
    exact ⟨rfl, Below.refl _ _⟩
end Go.Proofs.Ytkbeelbklganaaa
