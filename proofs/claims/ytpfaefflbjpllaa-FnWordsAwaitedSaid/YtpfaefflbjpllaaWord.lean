/- Contracts of spec.IsWord and impl.IsWord: both compute the same plain predicate. Conditions: lengths at most 2^20. -/
import Derived.Test.YtpfaefflbjpllaaIdx
namespace Go.Proofs.Ytpfaefflbjpllaa
open Go.ChangeShapes Go.WideShapes Go.ChangeAt Go.RowKit

/-- is the list a word of so many symbols -/
def wordB (xs : List Int) (s : Int) : Bool := inB s 2 6 && (decide (1 ≤ xs.length ∧ xs.length ≤ 12) && !xs.any (fun x => !inB x 0 (s - 1)))
theorem wordB_s {xs : List Int} {s : Int} (h : inB s 2 6 = false) : wordB xs s = false := by simp [wordB, h]
theorem wordB_n {xs : List Int} {s : Int} (h : ¬ (1 ≤ xs.length ∧ xs.length ≤ 12)) : wordB xs s = false := by simp [wordB, decide_eq_false h]
theorem wordB_any {xs : List Int} {s : Int} (h : inB s 2 6 = true) (h1 : 1 ≤ xs.length) (h2 : xs.length ≤ 12) : wordB xs s = !xs.any (fun x => !inB x 0 (s - 1)) := by
  simp [wordB, h, h1, h2]

set_option maxHeartbeats 800000 in
theorem sWord (A : Option Addr) (n c : Nat) (xs : List Int) (s : Int) (w : World) (hr : Rd w A n (iv xs)) (hn : n ≤ 1048576) :
    Calls Try.prog 39 #[.slice A n c, .int .i64 s] w fun e w' => e = .returned (.bool (wordB xs s)) ∧ w = w' := by
  have hlen := hr.len
  by_cases hs : 2 ≤ s ∧ s ≤ 6
  · have hB : inB s 2 6 = true := inB_t hs
    obtain ⟨hs1, hs2⟩ := hs
    by_cases h1 : n < 1
    · have e : wordB xs s = false := wordB_n (by omega)
      rw [e]
      clear e hlen
      go_enter Try.func39, Try.ntmps39
      go_wp2_with (go_at_call 51; refine (sIn _ _ _ _).mono ?_; rintro e w' ⟨rfl, rfl⟩)
      go_ret
      exact ⟨rfl, rfl⟩
    · by_cases h2 : 12 < n
      · have e : wordB xs s = false := wordB_n (by omega)
        rw [e]
        clear e hlen
        go_enter Try.func39, Try.ntmps39
        go_wp2_with (go_at_call 51; refine (sIn _ _ _ _).mono ?_; rintro e w' ⟨rfl, rfl⟩)
        go_ret
        exact ⟨rfl, rfl⟩
      · have e : wordB xs s = !xs.any (fun x => !inB x 0 (s - 1)) := wordB_any hB (by omega) (by omega)
        rw [e]
        have Hlen := hide hlen
        clear e hlen
        generalize hA : xs.any (fun x => !inB x 0 (s - 1)) = a at *
        have HA := hide hA
        clear hA
        go_enter Try.func39, Try.ntmps39
        go_wp2_with (go_at_call 51; refine (sIn _ _ _ _).mono ?_; rintro e w' ⟨rfl, rfl⟩)
        go_loop [5] (fun i => ∃ k : Nat, k ≤ n ∧ i = .int .i64 k ∧ Hid (∀ j, j < k → (fun x => !inB x 0 (s - 1)) (xs.getD j 0) = false)) (fun i => n - (intOf i).toNat)
        case atStart => exact ⟨0, Nat.zero_le _, rfl, hide fun j hj => absurd hj (by omega)⟩
        case round =>
          obtain ⟨k, hk, rfl, hfa⟩ := hrel
          by_cases hlt : k < n
          · obtain ⟨ad, rfl, hbl, hc⟩ := hr.int hlt
            generalize hy : xs.getD k 0 = y at *
            have HY := hide hy
            clear hy
            cases hq : inB y 0 (s - 1) with
            | false =>
              go_wp2_with (go_at_call 51; refine (sIn _ _ _ _).mono ?_; rintro e w' ⟨rfl, rfl⟩)
              go_ret
              refine ⟨ret_bool ?_, rfl⟩
              have h := (any_take_succ (fun x => !inB x 0 (s - 1)) xs k (by rw [Hlen.out]; exact hlt) hfa.out (by simp only [HY.out, hq]; rfl)).1
              rw [← HA.out, h]
              rfl
            | true =>
              go_wp2_with (go_at_call 51; refine (sIn _ _ _ _).mono ?_; rintro e w' ⟨rfl, rfl⟩)
              go_round
              case measure => simp [intOf]; omega
              case rel =>
                refine ⟨k + 1, by omega, by go_num, hide fun j hj => ?_⟩
                by_cases e : j = k
                · subst e
                  simp only [HY.out, hq]
                  rfl
                · exact hfa.out j (by omega)
          · have hkn : k = n := by omega
            subst hkn
            go_wp2
            go_ret
            refine ⟨ret_bool ?_, rfl⟩
            have h := any_none (fun x => !inB x 0 (s - 1)) xs (by rw [Hlen.out]; exact hfa.out)
            rw [← HA.out, h]
            rfl
  · have hB : inB s 2 6 = false := inB_f hs
    rw [wordB_s hB]
    clear hs hlen
    go_enter Try.func39, Try.ntmps39
    go_wp2_with (go_at_call 51; refine (sIn _ _ _ _).mono ?_; rintro e w' ⟨rfl, rfl⟩)
    go_ret
    exact ⟨rfl, rfl⟩

theorem sIsWord (A : Option Addr) (n c : Nat) (xs : List Int) (s : Int) (w : World) (hr : Rd w A n (iv xs)) (hn : n ≤ 1048576) :
    Calls Try.prog 11 #[.slice A n c, .int .i64 s] w fun e w' => e = .returned (.bool (wordB xs s)) ∧ w = w' := by
  go_enter Try.func11, Try.ntmps11
  go_wp2_with (go_at_call 39; refine (sWord _ _ _ _ _ _ hr hn).mono ?_; rintro e w' ⟨rfl, rfl⟩)
  go_ret
  exact ⟨rfl, rfl⟩

theorem word_clo (x s : Int) (b : Nat) (w : World) (hc : w.cell? ⟨b, 0, none⟩ = some (.int .i64 s)) (h1 : 2 ≤ s) (h2 : s ≤ 6) :
    Calls Try.prog 42 #[.int .i64 x, .pointer (some ⟨b, 0, none⟩)] w fun e w' => e = .returned (.bool (!inB x 0 (s - 1))) ∧ w = w' := by
  go_enter Try.func42, Try.ntmps42
  go_wp2_with (go_at_call 40; refine (iIn _ _ _ _).mono ?_; rintro e w' ⟨rfl, rfl⟩)
  go_ret
  exact ⟨rfl, rfl⟩

set_option maxHeartbeats 800000 in
theorem iIsWord (A : Option Addr) (n c : Nat) (xs : List Int) (s : Int) (w : World) (hr : Rd w A n (iv xs)) (hn : n ≤ 1048576) :
    Calls Try.prog 13 #[.slice A n c, .int .i64 s] w fun e w' => e = .returned (.bool (wordB xs s)) ∧ Below w.heap.size w w' := by
  have hlen := hr.len
  by_cases h1 : 1 ≤ n
  · by_cases h2 : n ≤ 12
    · by_cases hs : 2 ≤ s ∧ s ≤ 6
      · have hB : inB s 2 6 = true := inB_t hs
        obtain ⟨hs1, hs2⟩ := hs
        rw [wordB_any hB (by omega) (by omega)]
        have hcell : (w.alloc (.cells #[.int .i64 s] 2)).cell? ⟨w.heap.size, 0, none⟩ = some (.int .i64 s) := by
          rw [World.cell?_alloc_at _ _ _ _ rfl]; rfl
        have H := Lib.hid (hasF 42 #[.pointer (some ⟨w.heap.size, 0, none⟩)] (fun x => !inB x 0 (s - 1)) A n c xs (w.alloc (.cells #[.int .i64 s] 2)) (fun _ _ => rfl) (hr.alloc _) hn
          (fun x _ => word_clo x s _ _ hcell hs1 hs2))
        clear hcell hlen
        generalize xs.any (fun x => !inB x 0 (s - 1)) = a at *
        have hmf : ∀ (fn : Fn) (first cap : Array Value) (w : World), (Instr.makeFunc fn first cap).run Try.prog w = .ok (.func fn first cap) w := fun _ _ _ _ => rfl
        go_enter Try.func13, Try.ntmps13
        go_wp2_with (first | (go_at_call 40; refine (iIn _ _ _ _).mono ?_; rintro e w' ⟨rfl, rfl⟩) | (go_at_call 41; refine H.out.mono ?_; rintro e w' ⟨rfl, rfl⟩))
        go_ret
        exact ⟨rfl, (Below.refl _ _).alloc (Nat.le_refl _) _⟩
      · have hB : inB s 2 6 = false := inB_f hs
        rw [wordB_s hB]
        clear hs hlen
        go_enter Try.func13, Try.ntmps13
        go_wp2_with (first | (go_at_call 40; refine (iIn _ _ _ _).mono ?_; rintro e w' ⟨rfl, rfl⟩))
        go_ret
        exact ⟨rfl, (Below.refl _ _).alloc (Nat.le_refl _) _⟩
    · rw [wordB_n (by omega)]
      clear hlen
      go_enter Try.func13, Try.ntmps13
      go_wp2_with (first | (go_at_call 40; refine (iIn _ _ _ _).mono ?_; rintro e w' ⟨rfl, rfl⟩))
      go_ret
      exact ⟨rfl, (Below.refl _ _).alloc (Nat.le_refl _) _⟩
  · rw [wordB_n (by omega)]
    clear hlen
    go_enter Try.func13, Try.ntmps13
    go_wp2_with (first | (go_at_call 40; refine (iIn _ _ _ _).mono ?_; rintro e w' ⟨rfl, rfl⟩))
    go_ret
    exact ⟨rfl, (Below.refl _ _).alloc (Nat.le_refl _) _⟩
end Go.Proofs.Ytpfaefflbjpllaa
