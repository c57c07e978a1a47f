/- Contracts of PegMoves, both sides, and of the boards. Conditions: lengths at most 2^20. -/
import Derived.Test.YtkbeelbklganaaaPegS
import Derived.Test.YtkbeelbklganaaaPegI
namespace Go.Proofs.Ytkbeelbklganaaa
open Go.ChangeShapes Go.WideShapes Go.ChangeAt Go.RowKit

def boardB (n : Nat) : Bool := decide (1 ≤ n) && decide (n ≤ 14)
theorem toNk_yes {b : List Bool} {k : Nat} (h : b.getD k false = true) : toNk b (k + 1) = toNk b k ||| 2 ^ k := by rw [toNk, if_pos h]
theorem toNk_no {b : List Bool} {k : Nat} (h : b.getD k false = false) : toNk b (k + 1) = toNk b k := by rw [toNk, if_neg (by rw [h]; simp)]
theorem or_step {x k : Nat} (hx : x < 16384) (hk : k < 14) : bits BinOp.or IntKind.i64 (x : Int) (wrap64 (2 ^ k)) = ((x ||| 2 ^ k : Nat) : Int) := by
  have h1 := pow_small hk
  have e : wrap64 ((2 : Int) ^ k) = ((2 ^ k : Nat) : Int) := by
    have e1 : (2 : Int) ^ k = ((2 ^ k : Nat) : Int) := by simp
    rw [e1]
    generalize 2 ^ k = p at h1
    exact IntWalk.wrap64_in _ ⟨by omega, by omega⟩
  rw [e, bits_or x (2 ^ k) (by omega) (by omega)]
set_option maxHeartbeats 800000 in
theorem sBoard (A : Option Addr) (n c : Nat) (b : List Bool) (w : World) (hr : Rd w A n (bv b)) (hn : n ≤ 1048576) :
    Calls Try.prog 54 #[.slice A n c] w fun e w' => e = .returned (.tuple #[.int .i64 ((if n ≤ 14 then toNk b n else 0 : Nat) : Int), .bool (boardB n)]) ∧ w = w' := by
  by_cases h14 : n ≤ 14
  · rw [if_pos h14]
    have d1 : decide ((n : Int) ≤ 14) = true := decide_eq_true (by omega)
    have Hy := hide (fun k h => toNk_yes (b := b) (k := k) h)
    have Hn := hide (fun k h => toNk_no (b := b) (k := k) h)
    have Hlt : Hid (∀ k, k < 14 → toNk b k < 16384) := hide fun k hk => by
      have := toNk_lt b k
      have := pow_small hk
      omega
    have H0 : Hid (toNk b 0 = 0) := hide rfl
    have Hr := Lib.hid (fun k (hk : k < n) => hr.bool hk)
    clear hr
    generalize toNk b = X at *
    go_enter Try.func54, Try.ntmps54
    go_wp2
    go_loop [4, 5] (fun x i => ∃ k : Nat, k ≤ n ∧ i = .int .i64 k ∧ x = .int .i64 ((X k : Nat) : Int)) (fun _ i => n - (intOf i).toNat)
    case atStart => exact ⟨0, Nat.zero_le _, rfl, by rw [H0.out]; rfl⟩
    case round =>
      obtain ⟨k, hk, rfl, rfl⟩ := hrel
      by_cases hlt : k < n
      · obtain ⟨ad, rfl, _, hc⟩ := Hr.out k hlt
        cases hb : b.getD k false with
        | true =>
          rw [hb] at hc
          have hs := hide (Hy.out k hb)
          have ho := hide (or_step (Hlt.out k (by omega)) (show k < 14 by omega))
          clear hb
          go_wp2
          go_round
          case rel => exact ⟨k + 1, by omega, by go_num, by rw [hs.out, ho.out]⟩
          case measure => simp [intOf]; omega
        | false =>
          rw [hb] at hc
          have hs := hide (Hn.out k hb)
          clear hb
          go_wp2
          go_round
          case rel => exact ⟨k + 1, by omega, by go_num, by rw [hs.out]⟩
          case measure => simp [intOf]; omega
      · have hkn : n = k := by omega
        subst hkn
        by_cases h1 : 1 ≤ n
        · have hB : Hid (boardB n = true) := hide (by simp [boardB, h1, h14])
          go_wp2
          go_ret2
          exact ⟨by rw [hB.out]; rfl, rfl⟩
        · have hB : Hid (boardB n = false) := hide (by simp [boardB, h1])
          obtain rfl : n = 0 := by omega
          go_wp2
          go_ret2
          exact ⟨by rw [hB.out]; rfl, rfl⟩
  · rw [if_neg h14]
    have hB : Hid (boardB n = false) := hide (by simp [boardB, h14])
    have h15 : 14 < n := by omega
    have d1 : decide ((n : Int) ≤ 14) = false := decide_eq_false (by omega)
    have h1 : 1 ≤ n := by omega
    go_enter Try.func54, Try.ntmps54
    go_wp2
    refine wp_loop_rounds 1 ?_
    rw [rounds_succ]
    go_wp2
    go_ret2
    exact ⟨by rw [hB.out]; rfl, rfl⟩
set_option maxHeartbeats 400000 in
theorem iBoard (A : Option Addr) (n c : Nat) (w : World) (hn : n ≤ 1048576) :
    Calls Try.prog 56 #[.slice A n c] w fun e w' => e = .returned (.bool (boardB n)) ∧ w = w' := by
  by_cases h1 : 1 ≤ n
  · by_cases h2 : n ≤ 14
    · rw [show boardB n = true by simp [boardB, h1, h2]]
      go_enter Try.func56, Try.ntmps56
      go_wp2
      go_ret
      exact ⟨by first | rfl | (simp [h1, h2]; done) | (simp; omega), rfl⟩
    · rw [show boardB n = false by simp [boardB, h2]]
      go_enter Try.func56, Try.ntmps56
      go_wp2
      go_ret
      exact ⟨by first | rfl | (simp [h1, h2]; done) | (simp; omega), rfl⟩
  · obtain rfl : n = 0 := by omega
    rw [show boardB 0 = false by decide]
    go_enter Try.func56, Try.ntmps56
    go_wp2
    go_ret
    exact ⟨by first | rfl | (simp [h1]; done) | (simp; omega), rfl⟩
def RPegMoves (b : List Bool) : List Int × Bool := if boardB b.length = true then (mvN b.length (fun i => b.getD i false) b.length, true) else ([], false)
theorem board_of {n : Nat} (h : boardB n = true) : 1 ≤ n ∧ n ≤ 14 := by simpa [boardB] using h
theorem RPegMoves_len (b : List Bool) : (RPegMoves b).1.length ≤ 1048576 := by
  unfold RPegMoves
  split
  · rename_i h
    have := mvN_len b.length (fun i => b.getD i false) b.length
    have := (board_of h).2
    show (mvN b.length (fun i => b.getD i false) b.length).length ≤ _
    omega
  · simp
theorem bit_all {b : List Bool} (i : Nat) : (toNk b b.length).testBit i = b.getD i false := by
  rw [toNk_bit]
  by_cases h : i < b.length
  · simp [h]
  · simp [h, List.getD]
theorem toNk_small {b : List Bool} (h : b.length ≤ 14) : toNk b b.length < 65536 := by
  have := toNk_lt b b.length
  have h2 : 2 ^ b.length ≤ 2 ^ 14 := Nat.pow_le_pow_right (by omega) h
  omega

set_option maxHeartbeats 400000 in
theorem sPegMoves (A : Option Addr) (n c : Nat) (b : List Bool) (w : World) (hr : Rd w A n (bv b)) (hn : n ≤ 1048576) :
    Calls Try.prog 26 #[.slice A n c] w fun e w' => ∃ r, e = .returned (.tuple #[r, .bool (RPegMoves b).2]) ∧ Own w' w.heap.size w'.heap.size r (RPegMoves b).1 ∧ Below w.heap.size w w' := by
  have HB := Lib.hid (fun W h => sBoard A n c b W h hn)
  have hl := hr.blen
  subst hl
  cases hq : boardB b.length with
  | false =>
    rw [show RPegMoves b = ([], false) by rw [RPegMoves, if_neg (by rw [hq]; simp)]]
    rw [hq] at HB
    generalize (if b.length ≤ 14 then toNk b b.length else 0) = x at HB
    clear hq
    go_enter Try.func26, Try.ntmps26
    go_wp2_with (go_at_call 54; refine (HB.out _ hr).mono ?_; rintro e w' ⟨rfl, rfl⟩)
    go_ret2
    exact ⟨_, rfl, Own.nil _ _ _, Below.refl _ _⟩
  | true =>
    rw [show RPegMoves b = (mvN b.length (fun i => b.getD i false) b.length, true) by rw [RPegMoves, if_pos hq]]
    obtain ⟨h1, h2⟩ := board_of hq
    rw [hq, if_pos h2] at HB
    have HM := Lib.hid (fun W => sMoves (fun i => b.getD i false) (toNk b b.length) b.length W (toNk_small h2) h2 (fun i => bit_all i))
    clear hq
    generalize mvN b.length (fun i => b.getD i false) b.length = M at *
    generalize toNk b b.length = x at *
    go_enter Try.func26, Try.ntmps26
    go_wp2_with (first | (go_at_call 54; refine (HB.out _ hr).mono ?_; rintro e w' ⟨rfl, rfl⟩) | (go_at_call 55; refine (HM.out _).mono ?_; rintro e w2 ⟨r, rfl, ho, hb⟩))
    go_ret2
    exact ⟨_, rfl, ho, hb⟩
set_option maxHeartbeats 400000 in
theorem iPegMoves (A : Option Addr) (n c : Nat) (b : List Bool) (w : World) (hr : Rd w A n (bv b)) (hn : n ≤ 1048576) :
    Calls Try.prog 28 #[.slice A n c] w fun e w' => ∃ r, e = .returned (.tuple #[r, .bool (RPegMoves b).2]) ∧ Own w' w.heap.size w'.heap.size r (RPegMoves b).1 ∧ Below w.heap.size w w' := by
  have HB := Lib.hid (fun W => iBoard A n c W hn)
  have hl := hr.blen
  subst hl
  cases hq : boardB b.length with
  | false =>
    rw [show RPegMoves b = ([], false) by rw [RPegMoves, if_neg (by rw [hq]; simp)]]
    rw [hq] at HB
    clear hq
    go_enter Try.func28, Try.ntmps28
    go_wp2_with (go_at_call 56; refine (HB.out _).mono ?_; rintro e w' ⟨rfl, rfl⟩)
    go_ret2
    exact ⟨_, rfl, Own.nil _ _ _, Below.refl _ _⟩
  | true =>
    rw [show RPegMoves b = (mvN b.length (fun i => b.getD i false) b.length, true) by rw [RPegMoves, if_pos hq]]
    obtain ⟨h1, h2⟩ := board_of hq
    rw [hq] at HB
    have HM := Lib.hid (fun W h => iMoves A b.length c b W h h2)
    clear hq
    generalize mvN b.length (fun i => b.getD i false) b.length = M at *
    go_enter Try.func28, Try.ntmps28
    go_wp2_with (first | (go_at_call 56; refine (HB.out _).mono ?_; rintro e w' ⟨rfl, rfl⟩) | (go_at_call 57; refine (HM.out _ hr).mono ?_; rintro e w2 ⟨r, rfl, ho, hb⟩))
    go_ret2
    exact ⟨_, rfl, ho, hb⟩
end Go.Proofs.Ytkbeelbklganaaa
