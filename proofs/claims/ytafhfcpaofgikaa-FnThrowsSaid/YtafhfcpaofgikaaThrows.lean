/- Contracts of the check of throws, both sides. Conditions: lengths at most 2^20. Printed by gen_throws.py. -/
import Derived.Test.YtafhfcpaofgikaaVal
import Derived.Test.YtafhfcpaofgikaaNum
import Derived.Deep.DeepFit
namespace Go.Proofs.Ytafhfcpaofgikaa
open Go.ChangeShapes Go.WideShapes Go.ChangeAt Go.RowKit

/-- the side of a square of 2 to 5, or 0 -/
def sideOf (l : Nat) : Nat := if l = 4 then 2 else if l = 9 then 3 else if l = 16 then 4 else if l = 25 then 5 else 0
def sideTo (l k : Nat) : Nat := if sideOf l < k then sideOf l else 0
theorem side_eq {k l : Nat} (h2 : 2 ≤ k) (h5 : k ≤ 5) (h : k * k = l) : sideOf l = k := by
  have : k = 2 ∨ k = 3 ∨ k = 4 ∨ k = 5 := by omega
  rcases this with rfl | rfl | rfl | rfl <;> subst h <;> rfl
theorem side_ne {k l : Nat} (h2 : 2 ≤ k) (h5 : k ≤ 5) (h : k * k ≠ l) : sideOf l ≠ k := by
  have : k = 2 ∨ k = 3 ∨ k = 4 ∨ k = 5 := by omega
  unfold sideOf
  rcases this with rfl | rfl | rfl | rfl <;> (repeat' split) <;> omega
theorem side_of (l : Nat) : sideOf l = 0 ∨ (2 ≤ sideOf l ∧ sideOf l ≤ 5 ∧ sideOf l * sideOf l = l) := by
  unfold sideOf
  (repeat' split) <;> omega
theorem sq_le {k : Nat} (h5 : k ≤ 5) : k * k ≤ 25 := Nat.mul_le_mul h5 h5
def thBad (xs : List Int) (n i j : Nat) : Bool := !inB (xs.getD (i * n + j) 0) (-9) 9 || (xs.getD (i * n + j) 0 != wrap64 (-(xs.getD (j * n + i) 0)))
def thrN (xs : List Int) : Nat := if ∀ i, i < sideOf xs.length → ∀ j, j < sideOf xs.length → thBad xs (sideOf xs.length) i j = false then sideOf xs.length else 0
theorem thrN_bad {xs : List Int} {n i j : Nat} (hn : sideOf xs.length = n) (hi : i < n) (hj : j < n) (h : thBad xs n i j = true) : thrN xs = 0 := by
  unfold thrN
  rw [hn, if_neg]
  intro hall
  rw [hall i hi j hj] at h
  cases h
theorem thrN_ok {xs : List Int} {n : Nat} (hn : sideOf xs.length = n) (h : ∀ i, i < n → ∀ j, j < n → thBad xs n i j = false) : thrN xs = n := by
  unfold thrN
  rw [hn, if_pos h]
theorem th_lt {i k N : Nat} (hi : i < N) (hk : k < N) : i * N + k < N * N := by
  have h : (i + 1) * N ≤ N * N := Nat.mul_le_mul_right N (by omega)
  rw [Nat.add_mul] at h
  omega

set_option maxHeartbeats 3200000 in
theorem sThrows (A : Option Addr) (L c : Nat) (xs : List Int) (w : World) (hr : Rd w A L (iv xs)) (hn : L ≤ 1048576) :
    Calls Try.prog 37 #[.slice A L c] w fun e w' => e = .returned (.int .i64 ((thrN xs : Nat) : Int)) ∧ ∃ q, w' = w.drewN q := by
  have hlen := hr.len
  have Hbad : Hid (∀ i j, i < sideOf L → j < sideOf L → thBad xs (sideOf L) i j = true → thrN xs = 0) := hide fun i j hi hj h => thrN_bad (by rw [hlen]) hi hj h
  have Hok : Hid ((∀ i, i < sideOf L → ∀ j, j < sideOf L → thBad xs (sideOf L) i j = false) → thrN xs = sideOf L) := hide fun h => thrN_ok (by rw [hlen]) h
  generalize thrN xs = R at *
  clear hlen
  go_enter Try.func37, Try.ntmps37
  go_wp2
  go_loop [3, 4] (fun s k => ∃ K : Nat, 2 ≤ K ∧ K ≤ 6 ∧ k = .int .i64 K ∧ s = .int .i64 ((sideTo L K : Nat) : Int)) (fun _ k => 6 - (intOf k).toNat)
  case atStart =>
    refine ⟨2, Nat.le_refl _, by omega, rfl, ?_⟩
    have : sideTo L 2 = 0 := by
      have := side_of L
      unfold sideTo
      split <;> omega
    rw [this]
    rfl
  case round =>
    obtain ⟨K, hK2, hK6, rfl, rfl⟩ := hrel
    by_cases hK : K ≤ 5
    · have hsq := sq_le hK
      have hm : (K : Int) * (K : Int) = ((K * K : Nat) : Int) := by rw [Int.natCast_mul]
      by_cases hKL : K * K = L
      · have Hs : Hid (sideTo L (K + 1) = K) := hide (by unfold sideTo; rw [side_eq hK2 hK hKL, if_pos (by omega)])
        generalize sideTo L K = s0 at *
        generalize K * K = P at *
        have e1 : IntKind.i64.wrap ((K : Int) * (K : Int)) = (P : Int) := by rw [hm]; exact IntWalk.i64_in _ (by omega)
        have dP : ((P : Int) == (L : Int)) = true := by simp; omega
        have dP2 : (P == L) = true := by simp; omega
        have HPL := hide hKL
        clear hKL hm
        go_wp2
        go_round
        case measure => simp [intOf]; omega
        case rel => exact ⟨K + 1, by omega, by omega, by go_num, by rw [Hs.out]⟩
      · have Hs : Hid (sideTo L (K + 1) = sideTo L K) := hide (by
          have := side_ne hK2 hK hKL
          unfold sideTo
          (repeat' split) <;> omega)
        generalize sideTo L K = s0 at *
        generalize K * K = P at *
        have e1 : IntKind.i64.wrap ((K : Int) * (K : Int)) = (P : Int) := by rw [hm]; exact IntWalk.i64_in _ (by omega)
        have dP : ((P : Int) == (L : Int)) = false := by simp; omega
        have dP2 : (P == L) = false := by simpa using hKL
        clear hm
        go_wp2
        go_round
        case measure => simp [intOf]; omega
        case rel => exact ⟨K + 1, by omega, by omega, by go_num, by rw [Hs.out]⟩
    · have hK6' : K = 6 := by omega
      subst hK6'
      have hS6 : sideTo L 6 = sideOf L := by
        have := side_of L
        unfold sideTo
        split <;> omega
      rw [hS6]
      have hS := side_of L
      have hS5 : sideOf L ≤ 5 := by omega
      have hSq : Hid (sideOf L ≠ 0 → sideOf L * sideOf L = L ∧ L ≤ 25) := hide fun h0 => by
        have h1 : 2 ≤ sideOf L ∧ sideOf L ≤ 5 ∧ sideOf L * sideOf L = L := by omega
        have := sq_le h1.2.1
        omega
      have Hlt : Hid (∀ a b, a < sideOf L → b < sideOf L → a * sideOf L + b < L ∧ L ≤ 25) := hide fun a b h1 h2 => by
        have h3 := hSq.out (by omega)
        have h4 := th_lt h1 h2
        omega
      clear hS hS6 hSq
      generalize sideOf L = S at *
      go_wp2
      go_loopw [5] (fun i wr => ∃ a : Nat, a ≤ S ∧ i = .int .i64 a ∧ Hid (∀ a', a' < a → ∀ b, b < S → thBad xs S a' b = false) ∧ Hid (∃ q, wr = w.drewN q)) (fun i _ => S - (intOf i).toNat)
      case atStart => exact ⟨0, Nat.zero_le _, rfl, hide fun a' ha' => absurd ha' (by omega), hide ⟨0, rfl⟩⟩
      case round =>
        obtain ⟨a, ha, rfl, hfa, hq1⟩ := hrel
        obtain ⟨q1, rfl⟩ := hq1.out
        by_cases haS : a < S
        · have daS : decide (a < S) = true := decide_eq_true haS
          go_wp2
          go_loopw [6] (fun i wx => ∃ b : Nat, b ≤ S ∧ i = .int .i64 b ∧ Hid (∀ b', b' < b → thBad xs S a b' = false) ∧ Hid (∃ q, wx = w.drewN q)) (fun i _ => S - (intOf i).toNat)
          case atStart => exact ⟨0, Nat.zero_le _, rfl, hide fun b' hb' => absurd hb' (by omega), hide ⟨_, rfl⟩⟩
          case round =>
            obtain ⟨b, hb, rfl, hfb, hq2⟩ := hrel
            obtain ⟨q2, rfl⟩ := hq2.out
            by_cases hbS : b < S
            · have dbS : decide (b < S) = true := decide_eq_true hbS
              obtain ⟨hp1, hL25⟩ := Hlt.out a b haS hbS
              have hp2 := (Hlt.out b a hbS haS).1
              obtain ⟨ad, rfl, hbl, hc⟩ := hr.int hp1
              obtain ⟨ad', e', hbl', hc'⟩ := hr.int hp2
              cases e'
              have Hb : Hid (thBad xs S a b = (!inB (xs.getD (a * S + b) 0) (-9) 9 || (xs.getD (a * S + b) 0 != wrap64 (-(xs.getD (b * S + a) 0))))) := hide rfl
              have hm1 : (a : Int) * (S : Int) = ((a * S : Nat) : Int) := by rw [Int.natCast_mul]
              have hm2 : (b : Int) * (S : Int) = ((b * S : Nat) : Int) := by rw [Int.natCast_mul]
              generalize xs.getD (a * S + b) 0 = y at *
              generalize xs.getD (b * S + a) 0 = z at *
              generalize a * S = p at *
              generalize b * S = u at *
              have e1 : IntKind.i64.wrap ((a : Int) * (S : Int)) = (p : Int) := by rw [hm1]; exact IntWalk.i64_in _ (by omega)
              have e2 : IntKind.i64.wrap ((b : Int) * (S : Int)) = (u : Int) := by rw [hm2]; exact IntWalk.i64_in _ (by omega)
              have e3 : IntKind.i64.wrap ((p : Int) + (b : Int)) = (p : Int) + (b : Int) := IntWalk.i64_in _ (by omega)
              have e4 : IntKind.i64.wrap ((u : Int) + (a : Int)) = (u : Int) + (a : Int) := IntWalk.i64_in _ (by omega)
              have f1 : 0 ≤ (p : Int) + (b : Int) := by omega
              have f2 : 0 ≤ (u : Int) + (a : Int) := by omega
              have f3 : ((p : Int) + (b : Int)).toNat = p + b := by omega
              have f4 : ((u : Int) + (a : Int)).toNat = u + a := by omega
              have f5 : (p : Int) + (b : Int) < (L : Int) := by omega
              have f6 : (u : Int) + (a : Int) < (L : Int) := by omega
              have hs0 := fun W => sIn y (-9) 9 W
              clear hm1 hm2
              cases hi : inB y (-9) 9 with
              | false =>
                simp only [hi] at hs0
                have HS := Lib.hid hs0
                clear hs0
                have HR := hide (Hbad.out a b haS hbS (by rw [Hb.out, hi]; rfl))
                go_wp2
                go_quiet ((go_at_call 28; refine (HS.out _).mono ?_; rintro e w' ⟨rfl, rfl⟩; exact ⟨rfl, _, rfl⟩))
                go_wp2
                go_ret
                exact ⟨ret_int (by rw [HR.out]; rfl), by repeat (first | exact ⟨_, rfl⟩ | exact drew2 _ _ _)⟩
              | true =>
                simp only [hi] at hs0
                have HS := Lib.hid hs0
                clear hs0
                cases hne : (y != wrap64 (-z)) with
                | true =>
                  have HR := hide (Hbad.out a b haS hbS (by rw [Hb.out, hi, hne]; rfl))
                  go_wp2
                  go_quiet ((go_at_call 28; refine (HS.out _).mono ?_; rintro e w' ⟨rfl, rfl⟩; exact ⟨rfl, _, rfl⟩))
                  go_wp2
                  go_ret
                  exact ⟨ret_int (by rw [HR.out]; rfl), by repeat (first | exact ⟨_, rfl⟩ | exact drew2 _ _ _)⟩
                | false =>
                  have Hg : Hid (thBad xs S a b = false) := hide (by rw [Hb.out, hi, hne]; rfl)
                  go_wp2
                  go_quiet ((go_at_call 28; refine (HS.out _).mono ?_; rintro e w' ⟨rfl, rfl⟩; exact ⟨rfl, _, rfl⟩))
                  go_wp2
                  go_roundw
                  case measure => simp [intOf]; omega
                  case rel =>
                    refine ⟨b + 1, by omega, by go_num, hide fun b' hb' => ?_, hide ⟨_, rfl⟩⟩
                    by_cases e : b' = b
                    · subst e
                      exact Hg.out
                    · exact hfb.out b' (by omega)
            · have hbe : b = S := by omega
              subst hbe
              go_wp2
              go_roundw
              case measure => simp [intOf]; omega
              case rel =>
                refine ⟨a + 1, by omega, by go_num, hide fun a' ha' => ?_, hide ⟨_, rfl⟩⟩
                by_cases e : a' = a
                · subst e
                  exact hfb.out
                · exact hfa.out a' (by omega)
        · have hae : a = S := by omega
          subst hae
          have HR := hide (Hok.out hfa.out)
          go_wp2
          go_ret
          exact ⟨ret_int (by rw [HR.out]), by repeat (first | exact ⟨_, rfl⟩ | exact drew2 _ _ _)⟩

set_option maxHeartbeats 3200000 in
theorem iThrows (A : Option Addr) (L c : Nat) (xs : List Int) (w : World) (hr : Rd w A L (iv xs)) (hn : L ≤ 1048576) :
    Calls Try.prog 39 #[.slice A L c] w fun e w' => e = .returned (.int .i64 ((thrN xs : Nat) : Int)) ∧ ∃ q, w' = w.drewN q := by
  have hlen := hr.len
  have Hbad0 : Hid (∀ S, sideOf L = S → ∀ i j, i < S → j < S → thBad xs S i j = true → thrN xs = 0) := hide fun S hS i j hi hj h => thrN_bad (by rw [hlen]; exact hS) hi hj h
  have Hok0 : Hid (∀ S, sideOf L = S → (∀ i, i < S → ∀ j, j < S → thBad xs S i j = false) → thrN xs = S) := hide fun S hS h => thrN_ok (by rw [hlen]; exact hS) h
  generalize thrN xs = R at *
  clear hlen
  go_enter Try.func39, Try.ntmps39
  go_wp2
  go_loop [3] (fun k => ∃ K : Nat, 2 ≤ K ∧ K ≤ 6 ∧ k = .int .i64 K ∧ Hid (sideTo L K = 0)) (fun k => 6 - (intOf k).toNat)
  case atStart =>
    refine ⟨2, Nat.le_refl _, by omega, rfl, hide ?_⟩
    have := side_of L
    unfold sideTo
    split <;> omega
  case round =>
    obtain ⟨S, hK2, hK6, rfl, hs0⟩ := hrel
    by_cases hK : S ≤ 5
    · have hsq := sq_le hK
      have hm : (S : Int) * (S : Int) = ((S * S : Nat) : Int) := by rw [Int.natCast_mul]
      by_cases hKL : S * S = L
      · have hSL := side_eq hK2 hK hKL
        have Hbad := hide (Hbad0.out S hSL)
        have Hok := hide (Hok0.out S hSL)
        have Hlt : Hid (∀ a b, a < S → b < S → a * S + b < L ∧ L ≤ 25) := hide fun a b h1 h2 => by
          have h4 := th_lt h1 h2
          omega
        clear hSL hs0 Hbad0 Hok0
        generalize S * S = P at *
        have e1 : IntKind.i64.wrap ((S : Int) * (S : Int)) = (P : Int) := by rw [hm]; exact IntWalk.i64_in _ (by omega)
        have dP : ((L : Int) != (P : Int)) = false := by simp; omega
        have dP2 : (L != P) = false := by simp; omega
        have dS : decide (S ≤ 5) = true := decide_eq_true hK
        have HPL := hide hKL
        clear hKL hm
        go_wp2
        clear e1 dP dP2
        go_loopw [17] (fun i wr => ∃ a : Nat, a ≤ S ∧ i = .int .i64 a ∧ Hid (∀ a', a' < a → ∀ b, b < S → thBad xs S a' b = false) ∧ Hid (∃ q, wr = w.drewN q)) (fun i _ => S - (intOf i).toNat)
        case atStart => exact ⟨0, Nat.zero_le _, rfl, hide fun a' ha' => absurd ha' (by omega), hide ⟨0, rfl⟩⟩
        case round =>
          obtain ⟨a, ha, rfl, hfa, hq1⟩ := hrel
          obtain ⟨q1, rfl⟩ := hq1.out
          by_cases haS : a < S
          · have daS : decide (a < S) = true := decide_eq_true haS
            go_wp2
            go_loopw [21] (fun i wx => ∃ b : Nat, b ≤ S ∧ i = .int .i64 b ∧ Hid (∀ b', b' < b → thBad xs S a b' = false) ∧ Hid (∃ q, wx = w.drewN q)) (fun i _ => S - (intOf i).toNat)
            case atStart => exact ⟨0, Nat.zero_le _, rfl, hide fun b' hb' => absurd hb' (by omega), hide ⟨_, rfl⟩⟩
            case round =>
              obtain ⟨b, hb, rfl, hfb, hq2⟩ := hrel
              obtain ⟨q2, rfl⟩ := hq2.out
              by_cases hbS : b < S
              · have dbS : decide (b < S) = true := decide_eq_true hbS
                obtain ⟨hp1, hL25⟩ := Hlt.out a b haS hbS
                have hp2 := (Hlt.out b a hbS haS).1
                obtain ⟨ad, rfl, hbl, hc⟩ := hr.int hp1
                obtain ⟨ad', e', hbl', hc'⟩ := hr.int hp2
                cases e'
                have Hb : Hid (thBad xs S a b = (!inB (xs.getD (a * S + b) 0) (-9) 9 || (xs.getD (a * S + b) 0 != wrap64 (-(xs.getD (b * S + a) 0))))) := hide rfl
                have hm1 : (a : Int) * (S : Int) = ((a * S : Nat) : Int) := by rw [Int.natCast_mul]
                have hm2 : (b : Int) * (S : Int) = ((b * S : Nat) : Int) := by rw [Int.natCast_mul]
                generalize xs.getD (a * S + b) 0 = y at *
                generalize xs.getD (b * S + a) 0 = z at *
                generalize a * S = p at *
                generalize b * S = u at *
                have e1 : IntKind.i64.wrap ((a : Int) * (S : Int)) = (p : Int) := by rw [hm1]; exact IntWalk.i64_in _ (by omega)
                have e2 : IntKind.i64.wrap ((b : Int) * (S : Int)) = (u : Int) := by rw [hm2]; exact IntWalk.i64_in _ (by omega)
                have e3 : IntKind.i64.wrap ((p : Int) + (b : Int)) = (p : Int) + (b : Int) := IntWalk.i64_in _ (by omega)
                have e4 : IntKind.i64.wrap ((u : Int) + (a : Int)) = (u : Int) + (a : Int) := IntWalk.i64_in _ (by omega)
                have f1 : 0 ≤ (p : Int) + (b : Int) := by omega
                have f2 : 0 ≤ (u : Int) + (a : Int) := by omega
                have f3 : ((p : Int) + (b : Int)).toNat = p + b := by omega
                have f4 : ((u : Int) + (a : Int)).toNat = u + a := by omega
                have f5 : (p : Int) + (b : Int) < (L : Int) := by omega
                have f6 : (u : Int) + (a : Int) < (L : Int) := by omega
                have hs0 := fun W => iIn y (-9) 9 W
                clear hm1 hm2
                cases hi : inB y (-9) 9 with
                | false =>
                  simp only [hi] at hs0
                  have HS := Lib.hid hs0
                  clear hs0
                  have HR := hide (Hbad.out a b haS hbS (by rw [Hb.out, hi]; rfl))
                  go_wp2
                  go_quiet ((go_at_call 31; refine (HS.out _).mono ?_; rintro e w' ⟨rfl, rfl⟩; exact ⟨rfl, _, rfl⟩))
                  go_wp2
                  go_ret
                  exact ⟨ret_int (by rw [HR.out]; rfl), by repeat (first | exact ⟨_, rfl⟩ | exact drew2 _ _ _)⟩
                | true =>
                  simp only [hi] at hs0
                  have HS := Lib.hid hs0
                  clear hs0
                  cases hne : (y != wrap64 (-z)) with
                  | true =>
                    have HR := hide (Hbad.out a b haS hbS (by rw [Hb.out, hi, hne]; rfl))
                    go_wp2
                    go_quiet ((go_at_call 31; refine (HS.out _).mono ?_; rintro e w' ⟨rfl, rfl⟩; exact ⟨rfl, _, rfl⟩))
                    go_wp2
                    go_ret
                    exact ⟨ret_int (by rw [HR.out]; rfl), by repeat (first | exact ⟨_, rfl⟩ | exact drew2 _ _ _)⟩
                  | false =>
                    have Hg : Hid (thBad xs S a b = false) := hide (by rw [Hb.out, hi, hne]; rfl)
                    go_wp2
                    go_quiet ((go_at_call 31; refine (HS.out _).mono ?_; rintro e w' ⟨rfl, rfl⟩; exact ⟨rfl, _, rfl⟩))
                    go_wp2
                    go_roundw
                    case measure => simp [intOf]; omega
                    case rel =>
                      refine ⟨b + 1, by omega, by go_num, hide fun b' hb' => ?_, hide ⟨_, rfl⟩⟩
                      by_cases e : b' = b
                      · subst e
                        exact Hg.out
                      · exact hfb.out b' (by omega)
              · have hbe : b = S := by omega
                subst hbe
                go_wp2
                go_roundw
                case measure => simp [intOf]; omega
                case rel =>
                  refine ⟨a + 1, by omega, by go_num, hide fun a' ha' => ?_, hide ⟨_, rfl⟩⟩
                  by_cases e : a' = a
                  · subst e
                    exact hfb.out
                  · exact hfa.out a' (by omega)
          · have hae : a = S := by omega
            subst hae
            have HR := hide (Hok.out hfa.out)
            go_wp2
            go_ret
            exact ⟨ret_int (by rw [HR.out]), by repeat (first | exact ⟨_, rfl⟩ | exact drew2 _ _ _)⟩
      · have Hs : Hid (sideTo L (S + 1) = 0) := hide (by
          have h1 := side_ne hK2 hK hKL
          have h2 := hs0.out
          unfold sideTo at h2 ⊢
          (repeat' split at h2) <;> (repeat' split) <;> omega)
        generalize S * S = P at *
        have e1 : IntKind.i64.wrap ((S : Int) * (S : Int)) = (P : Int) := by rw [hm]; exact IntWalk.i64_in _ (by omega)
        have dP : ((L : Int) != (P : Int)) = true := by simp; omega
        have dP2 : (L != P) = true := by simp; omega
        clear hm hs0
        go_wp2
        go_round
        case measure => simp [intOf]; omega
        case rel => exact ⟨S + 1, by omega, by omega, by go_num, Hs⟩
    · have hK6' : S = 6 := by omega
      subst hK6'
      have hS0 : sideOf L = 0 := by
        have h1 := side_of L
        have h2 := hs0.out
        unfold sideTo at h2
        split at h2 <;> omega
      have HR := hide (Hok0.out 0 hS0 (fun i hi => absurd hi (by omega)))
      clear hs0 hS0
      go_wp2
      go_ret
      exact ⟨ret_int (by rw [HR.out]; rfl), 0, rfl⟩
end Go.Proofs.Ytafhfcpaofgikaa
