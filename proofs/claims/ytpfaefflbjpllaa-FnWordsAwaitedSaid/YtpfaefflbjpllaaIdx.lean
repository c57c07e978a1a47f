/- Contracts of slices.IndexFunc, ContainsFunc at []int64, for a closure that computes a plain predicate and leaves the world alone. Conditions: lengths at most 2^20. -/
import Derived.Test.YtpfaefflbjpllaaNum
namespace Go.Proofs.Ytpfaefflbjpllaa
open Go.ChangeShapes Go.WideShapes Go.ChangeAt Go.RowKit

/-- the place of the first element at which p holds, or -1 -/
def idxP (p : Int → Bool) (xs : List Int) : Int := if (xs.any p) then ((xs.findIdx p : Nat) : Int) else -1

theorem any_take_succ (p : Int → Bool) (xs : List Int) (k : Nat) (hk : k < xs.length) (h : ∀ j, j < k → p (xs.getD j 0) = false) (hp : p (xs.getD k 0) = true) : xs.any p = true ∧ xs.findIdx p = k := by
  have e : xs.getD k 0 = xs[k] := by simp [List.getD, hk]
  refine ⟨List.any_eq_true.2 ⟨xs[k], List.getElem_mem _, by rw [← e]; exact hp⟩, ?_⟩
  rw [List.findIdx_eq hk]
  refine ⟨by rw [← e]; exact hp, fun j hj => ?_⟩
  have := h j hj
  simpa [List.getD, show j < xs.length by omega] using this
theorem any_none (p : Int → Bool) (xs : List Int) (h : ∀ j, j < xs.length → p (xs.getD j 0) = false) : xs.any p = false := by
  rw [List.any_eq_false]
  intro x hx
  obtain ⟨j, hj, rfl⟩ := List.getElem_of_mem hx
  have := h j hj
  simpa [List.getD, hj] using this

set_option maxHeartbeats 800000 in
theorem idxF (g : Nat) (cb : Array Value) (p : Int → Bool) (A : Option Addr) (n c : Nat) (xs : List Int) (w : World) (eg : ∀ args w, (callFunc g args).run Try.prog w = .ok (.enter g args) w)
    (hr : Rd w A n (iv xs)) (hn : n ≤ 1048576)
    (hp : ∀ x, x ∈ xs → Calls Try.prog g (#[.int .i64 x] ++ cb) w fun e w' => e = .returned (.bool (p x)) ∧ w = w') :
    Calls Try.prog 61 #[.slice A n c, .func (.func g) #[] cb] w fun e w' => e = .returned (.int .i64 (idxP p xs)) ∧ w = w' := by
  have hlen := hr.len
  have Hlen := hide hlen
  clear hlen
  have HP := hide hp
  clear hp
  go_enter Try.func61, Try.ntmps61
  go_wp2
  go_loop [5, 8] (fun _ i => ∃ k : Nat, k ≤ n ∧ i = .int .i64 k ∧ Hid (∀ j, j < k → p (xs.getD j 0) = false)) (fun _ i => n - (intOf i).toNat)
  case atStart => exact ⟨0, Nat.zero_le _, rfl, hide fun j hj => absurd hj (by omega)⟩
  case round =>
    obtain ⟨k, hk, rfl, hfa⟩ := hrel
    by_cases hlt : k < n
    · obtain ⟨ad, rfl, hbl, hc⟩ := hr.int hlt
      have hmem : xs.getD k 0 ∈ xs := by
        have : k < xs.length := by rw [Hlen.out]; exact hlt
        simp [List.getD, this]
      have hcall := HP.out _ hmem
      clear hmem
      generalize hy : xs.getD k 0 = y at *
      have HY := hide hy
      clear hy
      cases hq : p y with
      | true =>
        rw [hq] at hcall
        have HQ := hide hq
        clear hq
        go_wp2_with (go_at_fn g; refine hcall.mono ?_; rintro e w' ⟨rfl, rfl⟩)
        go_ret
        refine ⟨ret_int ?_, rfl⟩
        obtain ⟨h1, h2⟩ := any_take_succ p xs k (by rw [Hlen.out]; exact hlt) hfa.out (by rw [HY.out]; exact HQ.out)
        rw [idxP, if_pos h1, h2]
      | false =>
        rw [hq] at hcall
        have HQ := hide hq
        clear hq
        go_wp2_with (go_at_fn g; refine hcall.mono ?_; rintro e w' ⟨rfl, rfl⟩)
        go_round
        case measure => simp [intOf]; omega
        case rel =>
          refine ⟨k + 1, by omega, by go_num, hide fun j hj => ?_⟩
          by_cases e : j = k
          · subst e
            rw [HY.out]; exact HQ.out
          · exact hfa.out j (by omega)
    · have hkn : k = n := by omega
      subst hkn
      go_wp2
      go_ret
      refine ⟨ret_int ?_, rfl⟩
      have h := any_none p xs (by rw [Hlen.out]; exact hfa.out)
      rw [idxP, if_neg (by rw [h]; simp)]

set_option maxHeartbeats 400000 in
theorem hasF (g : Nat) (cb : Array Value) (p : Int → Bool) (A : Option Addr) (n c : Nat) (xs : List Int) (w : World) (eg : ∀ args w, (callFunc g args).run Try.prog w = .ok (.enter g args) w)
    (hr : Rd w A n (iv xs)) (hn : n ≤ 1048576)
    (hp : ∀ x, x ∈ xs → Calls Try.prog g (#[.int .i64 x] ++ cb) w fun e w' => e = .returned (.bool (p x)) ∧ w = w') :
    Calls Try.prog 41 #[.slice A n c, .func (.func g) #[] cb] w fun e w' => e = .returned (.bool (xs.any p)) ∧ w = w' := by
  have h := idxF g cb p A n c xs w eg hr hn hp
  have hle : (xs.findIdx p : Nat) ≤ xs.length := List.findIdx_le_length
  have hl := hr.len
  have H := Lib.hid h
  clear h hp
  cases hq : xs.any p with
  | true =>
    have e : idxP p xs = ((xs.findIdx p : Nat) : Int) := by rw [idxP, if_pos hq]
    rw [e] at H
    generalize xs.findIdx p = k at *
    have hk : k ≤ 1048576 := by omega
    clear hl hle e hq
    go_enter Try.func41, Try.ntmps41
    go_wp2_with (go_at_call 61; refine H.out.mono ?_; rintro e w' ⟨rfl, rfl⟩)
    go_ret
    exact ⟨by simp, rfl⟩
  | false =>
    have e : idxP p xs = -1 := by rw [idxP, if_neg (by rw [hq]; simp)]
    rw [e] at H
    clear hl hle e hq
    go_enter Try.func41, Try.ntmps41
    go_wp2_with (go_at_call 61; refine H.out.mono ?_; rintro e w' ⟨rfl, rfl⟩)
    go_ret
    exact ⟨by simp, rfl⟩
end Go.Proofs.Ytpfaefflbjpllaa
