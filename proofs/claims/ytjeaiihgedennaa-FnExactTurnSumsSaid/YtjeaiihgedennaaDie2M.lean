/- Contracts of ValidDie, both sides. Conditions: lengths at most 2^20. -/
import Derived.Test.YtjeaiihgedennaaDieM
namespace Go.Proofs.Ytjeaiihgedennaa
open Go.ChangeShapes Go.WideShapes Go.ChangeAt Go.RowKit

/-- the i-th face is out of range, or less than the one before it -/
def badF (xs : List Int) (i : Nat) : Bool := !inB (xs.getD i 0) 0 20 || (decide (0 < i) && decide (xs.getD i 0 < xs.getD (i - 1) 0))
def dieB (xs : List Int) : Bool := decide (1 ≤ xs.length ∧ xs.length ≤ 12) && !(List.range xs.length).any (badF xs)
theorem dieB_bad {xs : List Int} {k : Nat} (hk : k < xs.length) (h : badF xs k = true) : dieB xs = false := by
  have : (List.range xs.length).any (badF xs) = true := by
    rw [List.any_eq_true]
    exact ⟨k, by simpa using hk, h⟩
  simp [dieB, this]
theorem dieB_ok {xs : List Int} (h : ∀ k, k < xs.length → badF xs k = false) : dieB xs = decide (1 ≤ xs.length ∧ xs.length ≤ 12) := by
  have : (List.range xs.length).any (badF xs) = false := by
    rw [List.any_eq_false]
    intro x hx
    rw [h x (by simpa using hx)]
    simp
  simp [dieB, this]
theorem dieB_len {xs : List Int} (h : dieB xs = true) : 1 ≤ xs.length ∧ xs.length ≤ 12 := by
  simp only [dieB, Bool.and_eq_true, decide_eq_true_eq] at h
  exact h.1

set_option maxRecDepth 100000 in
set_option maxHeartbeats 1600000 in
theorem sIsDie (p : Addr) (A : Option Addr) (n c : Nat) (xs : List Int) (w : World) (hp : w.cell? p = some (.slice A n c)) (hr : Rd w A n (iv xs)) (hn : n ≤ 1048576) :
    Calls Try.prog 60 #[.pointer (some p)] w fun e w' => e = .returned (.bool (dieB xs)) ∧ ∃ q, w' = w.drewN q := by
  have hlen := hr.len
  have Hbad : Hid (∀ k, k < n → badF xs k = true → dieB xs = false) := hide fun k hk h => dieB_bad (by omega) h
  have Hok : Hid ((∀ k, k < n → badF xs k = false) → dieB xs = decide (1 ≤ n ∧ n ≤ 12)) := hide fun h => by rw [dieB_ok (by rw [hlen]; exact h), hlen]
  generalize dieB xs = R at *
  clear hlen
  go_enter Try.func60, Try.ntmps60
  go_wp2
  go_loopw [3, 9] (fun _ i wr => ∃ k : Nat, k ≤ n ∧ i = .int .i64 k ∧ Hid (∀ j, j < k → badF xs j = false) ∧ Hid (∃ q, wr = w.drewN q)) (fun _ i _ => n - (intOf i).toNat)
  case atStart => exact ⟨0, Nat.zero_le _, rfl, hide fun j hj => absurd hj (by omega), hide ⟨0, rfl⟩⟩
  case round =>
    obtain ⟨k, hk, rfl, hfa, hq0⟩ := hrel
    obtain ⟨q0, rfl⟩ := hq0.out
    by_cases hlt : k < n
    · obtain ⟨ad, rfl, hbl, hc⟩ := hr.int hlt
      have HB := hide (Hbad.out k hlt)
      have HD : Hid (badF xs k = (!inB (xs.getD k 0) 0 20 || (decide (0 < k) && decide (xs.getD k 0 < xs.getD (k - 1) 0)))) := hide rfl
      have dk : decide (k < n) = true := decide_eq_true hlt
      have f1 : (0 : Int) ≤ (k : Int) := by omega
      have f2 : (k : Int) < (n : Int) := by omega
      generalize xs.getD k 0 = y at *
      have hs0 := fun W => sIn y 0 20 W
      cases h1 : inB y 0 20 with
      | false =>
        simp only [h1] at hs0
        have HS := Lib.hid hs0
        clear hs0
        have HR := hide (HB.out (by rw [HD.out, h1]; rfl))
        go_wp2
        go_quiet ((go_at_call 52; refine (HS.out _).mono ?_; rintro e w' ⟨rfl, rfl⟩; exact ⟨rfl, _, rfl⟩))
        go_wp2
        go_ret
        exact ⟨ret_bool HR.out.symm, by repeat (first | exact ⟨_, rfl⟩ | exact drew2 _ _ _)⟩
      | true =>
        simp only [h1] at hs0
        have HS := Lib.hid hs0
        clear hs0
        by_cases h0 : 0 < k
        · obtain ⟨ad', e', -, hc2⟩ := hr.int (k := k - 1) (by omega)
          cases e'
          have d0 : decide (0 < k) = true := decide_eq_true h0
          have d0' : decide ((0 : Int) < (k : Int)) = true := decide_eq_true (by omega)
          have e1 : IntKind.i64.wrap ((k : Int) - 1) = ((k - 1 : Nat) : Int) := by rw [show (k : Int) - 1 = ((k - 1 : Nat) : Int) from by omega]; exact IntWalk.i64_in _ (by omega)
          have hk1 : k - 1 < n := by omega
          generalize xs.getD (k - 1) 0 = z at *
          generalize hk' : k - 1 = k1 at *
          have HK1 := hide hk'
          clear hk'
          have f3 : (0 : Int) ≤ (k1 : Int) := by omega
          have f4 : (k1 : Int) < (n : Int) := by omega
          by_cases hyz : y < z
          · have HR := hide (HB.out (by rw [HD.out, h1, d0, decide_eq_true hyz]; rfl))
            have dyz : decide (y < z) = true := decide_eq_true hyz
            go_wp2
            go_quiet ((go_at_call 52; refine (HS.out _).mono ?_; rintro e w' ⟨rfl, rfl⟩; exact ⟨rfl, _, rfl⟩))
            go_wp2
            go_ret
            exact ⟨ret_bool HR.out.symm, by repeat (first | exact ⟨_, rfl⟩ | exact drew2 _ _ _)⟩
          · have Hg : Hid (badF xs k = false) := hide (by rw [HD.out, h1, decide_eq_false hyz]; simp)
            have dyz : decide (y < z) = false := decide_eq_false hyz
            go_wp2
            go_quiet ((go_at_call 52; refine (HS.out _).mono ?_; rintro e w' ⟨rfl, rfl⟩; exact ⟨rfl, _, rfl⟩))
            go_wp2
            go_roundw
            case measure => simp [intOf]; omega
            case rel =>
              refine ⟨k + 1, by omega, by go_num, hide fun j hj => ?_, hide (by repeat (first | exact ⟨_, rfl⟩ | exact drew2 _ _ _))⟩
              by_cases e : j = k
              · subst e; exact Hg.out
              · exact hfa.out j (by omega)
        · have hk0 : k = 0 := by omega
          have Hg : Hid (badF xs k = false) := hide (by rw [HD.out, h1, decide_eq_false h0]; rfl)
          subst hk0
          have hc0 : w.cell? ad = some (.int .i64 y) := hc
          go_wp2
          go_quiet ((go_at_call 52; refine (HS.out _).mono ?_; rintro e w' ⟨rfl, rfl⟩; exact ⟨rfl, _, rfl⟩))
          go_wp2
          go_roundw
          case measure => simp [intOf]; omega
          case rel =>
            refine ⟨1, by omega, by go_num, hide fun j hj => ?_, hide (by repeat (first | exact ⟨_, rfl⟩ | exact drew2 _ _ _))⟩
            obtain rfl : j = 0 := by omega
            exact Hg.out
    · have hkn : k = n := by omega
      subst hkn
      have HR := hide (Hok.out hfa.out)
      by_cases h1 : 1 ≤ k
      · have d1 : decide (1 ≤ (k : Int)) = true := decide_eq_true (by omega)
        by_cases h12 : k ≤ 12
        · have d12 : decide ((k : Int) ≤ 12) = true := decide_eq_true (by omega)
          go_wp2
          go_ret
          exact ⟨ret_bool (by rw [HR.out, decide_eq_true ⟨h1, h12⟩]), _, rfl⟩
        · have d12 : decide ((k : Int) ≤ 12) = false := decide_eq_false (by omega)
          go_wp2
          go_ret
          exact ⟨ret_bool (by rw [HR.out, decide_eq_false (fun h => h12 h.2)]), _, rfl⟩
      · have hk0 : k = 0 := by omega
        subst hk0
        go_wp2
        go_ret
        exact ⟨ret_bool (by rw [HR.out]; rfl), _, rfl⟩

set_option maxRecDepth 100000 in
set_option maxHeartbeats 1600000 in
theorem iIsDie0 (A : Option Addr) (n c : Nat) (xs : List Int) (w : World) (hr : Rd w A n (iv xs)) (hn : n ≤ 1048576) :
    Calls Try.prog 69 #[.agg #[.slice A n c]] w fun e w' => e = .returned (.bool (dieB xs)) ∧ Below w.heap.size w w' := by
  have hlen := hr.len
  have hcell : (w.alloc (.cells #[.slice A n c] 62)).cell? ⟨w.heap.size, 0, none⟩ = some (.slice A n c) := by
    rw [World.cell?_alloc_at _ _ _ _ rfl]; rfl
  have hr1 := hr.alloc (.cells #[.slice A n c] 62)
  by_cases h1 : 1 ≤ n
  · by_cases h12 : n ≤ 12
    · have Hbad : Hid (∀ k, k < n → badF xs k = true → dieB xs = false) := hide fun k hk h => dieB_bad (by omega) h
      have Hok : Hid ((∀ k, k < n → badF xs k = false) → dieB xs = true) := hide fun h => by rw [dieB_ok (by rw [hlen]; exact h), hlen, decide_eq_true ⟨h1, h12⟩]
      generalize dieB xs = R at *
      have d1 : decide ((n : Int) < 1) = false := decide_eq_false (by omega)
      have d12 : decide (12 < (n : Int)) = false := decide_eq_false (by omega)
      clear hlen hr
      go_enter Try.func69, Try.ntmps69
      go_wp2
      have hbW : Below w.heap.size w (w.alloc (.cells #[.slice A n c] 62)) := (Below.refl _ _).alloc (Nat.le_refl _) _
      generalize w.alloc (.cells #[.slice A n c] 62) = W at *
      have HbW := hide hbW
      clear hbW
      go_loop [3, 4, 18] (fun _ _ i => ∃ k : Nat, k ≤ n ∧ i = .int .i64 k ∧ Hid (∀ j, j < k → badF xs j = false)) (fun _ _ i => n - (intOf i).toNat)
      case atStart => exact ⟨0, Nat.zero_le _, rfl, hide fun j hj => absurd hj (by omega)⟩
      case round =>
        obtain ⟨k, hk, rfl, hfa⟩ := hrel
        by_cases hlt : k < n
        · obtain ⟨ad, rfl, hbl, hc⟩ := hr1.int hlt
          have HB := hide (Hbad.out k hlt)
          have HD : Hid (badF xs k = (!inB (xs.getD k 0) 0 20 || (decide (0 < k) && decide (xs.getD k 0 < xs.getD (k - 1) 0)))) := hide rfl
          generalize xs.getD k 0 = y at *
          have HS := Lib.hid (fun V => iIn y 0 20 V)
          cases hq : inB y 0 20 with
          | false =>
            rw [hq] at HS
            have HR := hide (HB.out (by rw [HD.out, hq]; rfl))
            go_wp2_with (go_at_call 54; refine (HS.out _).mono ?_; rintro e w' ⟨rfl, rfl⟩)
            go_ret
            exact ⟨ret_bool HR.out.symm, HbW.out⟩
          | true =>
            rw [hq] at HS
            by_cases h0 : 0 < k
            · obtain ⟨ad', e', -, hc2⟩ := hr1.int (k := k - 1) (by omega)
              cases e'
              have d0 : decide (0 < k) = true := decide_eq_true h0
              by_cases hyz : y < xs.getD (k - 1) 0
              · have HR := hide (HB.out (by rw [HD.out, hq, d0, decide_eq_true hyz]; rfl))
                generalize xs.getD (k - 1) 0 = z at *
                go_wp2_with (go_at_call 54; refine (HS.out _).mono ?_; rintro e w' ⟨rfl, rfl⟩)
                go_ret
                exact ⟨ret_bool HR.out.symm, HbW.out⟩
              · have Hg : Hid (badF xs k = false) := hide (by rw [HD.out, hq, decide_eq_false hyz]; simp)
                generalize xs.getD (k - 1) 0 = z at *
                go_wp2_with (go_at_call 54; refine (HS.out _).mono ?_; rintro e w' ⟨rfl, rfl⟩)
                go_round
                case measure => simp [intOf]; omega
                case rel =>
                  refine ⟨k + 1, by omega, by go_num, hide fun j hj => ?_⟩
                  by_cases e : j = k
                  · subst e; exact Hg.out
                  · exact hfa.out j (by omega)
            · have hk0 : k = 0 := by omega
              have Hg : Hid (badF xs k = false) := hide (by rw [HD.out, hq, decide_eq_false h0]; rfl)
              subst hk0
              have hc0 : W.cell? ad = some (.int .i64 y) := hc
              go_wp2_with (go_at_call 54; refine (HS.out _).mono ?_; rintro e w' ⟨rfl, rfl⟩)
              go_round
              case measure => simp [intOf]; omega
              case rel =>
                refine ⟨1, by omega, by go_num, hide fun j hj => ?_⟩
                obtain rfl : j = 0 := by omega
                exact Hg.out
        · have hkn : k = n := by omega
          subst hkn
          have HR := hide (Hok.out hfa.out)
          go_wp2
          go_ret
          exact ⟨ret_bool HR.out.symm, HbW.out⟩
    · have HR : Hid (dieB xs = false) := hide (by rw [dieB, hlen, decide_eq_false (fun h => h12 h.2)]; rfl)
      have d1 : decide ((n : Int) < 1) = false := decide_eq_false (by omega)
      have d12 : decide (12 < (n : Int)) = true := decide_eq_true (by omega)
      clear hlen
      go_enter Try.func69, Try.ntmps69
      go_wp2
      go_ret
      exact ⟨ret_bool HR.out.symm, (Below.refl _ _).alloc (Nat.le_refl _) _⟩
  · have HR : Hid (dieB xs = false) := hide (by rw [dieB, hlen, decide_eq_false (fun h => h1 h.1)]; rfl)
    obtain rfl : n = 0 := by omega
    clear hlen
    go_enter Try.func69, Try.ntmps69
    go_wp2
    go_ret
    exact ⟨ret_bool HR.out.symm, (Below.refl _ _).alloc (Nat.le_refl _) _⟩
theorem iValidD (v : Value) (xs : List Int) (w : World) (hv : RV w v xs) (hn : xs.length ≤ 1048576) :
    Calls Try.prog 69 #[.agg #[v]] w fun e w' => e = .returned (.bool (dieB xs)) ∧ Below w.heap.size w w' := by
  obtain ⟨A, c, rfl, hr, hc⟩ := hv
  exact iIsDie0 A _ c xs w hr hn
end Go.Proofs.Ytjeaiihgedennaa
