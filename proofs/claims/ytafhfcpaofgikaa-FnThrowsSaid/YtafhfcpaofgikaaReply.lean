/- Contracts of the best reply to counts of throws, both sides. Conditions: lengths at most 2^20. -/
import Derived.Test.YtafhfcpaofgikaaThrows
namespace Go.Proofs.Ytafhfcpaofgikaa
open Go.ChangeShapes Go.WideShapes Go.ChangeAt Go.RowKit

/-- what row i gains against the first j counts -/
def rpS (xs cs : List Int) (n i : Nat) : Nat → Int
  | 0 => 0
  | j + 1 => wrap64 (rpS xs cs n i j + wrap64 (xs.getD (i * n + j) 0 * cs.getD j 0))
/-- the best of the first i rows, and what it gains -/
def rpB (xs cs : List Int) (n : Nat) : Nat → Nat × Int
  | 0 => (0, 0)
  | i + 1 => if i = 0 ∨ (rpB xs cs n i).2 < rpS xs cs n i n then (i, rpS xs cs n i n) else rpB xs cs n i
theorem rpB_lt (xs cs : List Int) (n i : Nat) : (rpB xs cs n i).1 < i ∨ i = 0 := by
  induction i with
  | zero => exact Or.inr rfl
  | succ i ih =>
    unfold rpB
    split
    · exact Or.inl (by omega)
    · rename_i h
      exact Or.inl (by omega)

set_option maxHeartbeats 1600000 in
theorem sReply (A : Option Addr) (L c : Nat) (xs : List Int) (B : Option Addr) (n d : Nat) (cs : List Int) (w : World) (hr : Rd w A L (iv xs)) (hr2 : Rd w B n (iv cs)) (hn5 : n ≤ 5) (hL : L = n * n) :
    Calls Try.prog 41 #[.slice A L c, .slice B n d] w fun e w' => e = .returned (.int .i64 (((rpB xs cs n n).1 : Nat) : Int)) ∧ ∃ q, w' = w.drewN q := by
  have Hlt : Hid (∀ a b, a < n → b < n → a * n + b < L ∧ L ≤ 25) := hide fun a b h1 h2 => by
    have h4 := th_lt h1 h2
    have := sq_le hn5
    omega
  clear hL
  go_enter Try.func41, Try.ntmps41
  go_wp2
  go_loopw [6, 7, 8] (fun x y i wr => ∃ a : Nat, a ≤ n ∧ i = .int .i64 a ∧ x = .int .i64 (((rpB xs cs n a).1 : Nat) : Int) ∧ y = .int .i64 (rpB xs cs n a).2 ∧ Hid (∃ q, wr = w.drewN q)) (fun _ _ i _ => n - (intOf i).toNat)
  case atStart => exact ⟨0, Nat.zero_le _, rfl, rfl, rfl, hide ⟨0, rfl⟩⟩
  case round =>
    obtain ⟨a, ha, rfl, rfl, rfl, hq1⟩ := hrel
    obtain ⟨q1, rfl⟩ := hq1.out
    by_cases han : a < n
    · have dan : decide (a < n) = true := decide_eq_true han
      have Hst : Hid (rpB xs cs n (a + 1) = if a = 0 ∨ (rpB xs cs n a).2 < rpS xs cs n a n then (a, rpS xs cs n a n) else rpB xs cs n a) := hide rfl
      generalize rpB xs cs n a = bst at *
      obtain ⟨b1, b2⟩ := bst
      simp only at Hst
      go_wp2
      go_loopw [9, 10] (fun s j wx => ∃ b : Nat, b ≤ n ∧ j = .int .i64 b ∧ s = .int .i64 (rpS xs cs n a b) ∧ Hid (∃ q, wx = w.drewN q)) (fun _ j _ => n - (intOf j).toNat)
      case atStart => exact ⟨0, Nat.zero_le _, rfl, rfl, hide ⟨_, rfl⟩⟩
      case round =>
        obtain ⟨b, hb, rfl, rfl, hq2⟩ := hrel
        obtain ⟨q2, rfl⟩ := hq2.out
        by_cases hbn : b < n
        · have dbn : decide (b < n) = true := decide_eq_true hbn
          obtain ⟨hp1, hL25⟩ := Hlt.out a b han hbn
          obtain ⟨ad, rfl, hbl, hc⟩ := hr.int hp1
          obtain ⟨bd, rfl, hbl2, hc2⟩ := hr2.int hbn
          have Hs : Hid (rpS xs cs n a (b + 1) = wrap64 (rpS xs cs n a b + wrap64 (xs.getD (a * n + b) 0 * cs.getD b 0))) := hide rfl
          have hm1 : (a : Int) * (n : Int) = ((a * n : Nat) : Int) := by rw [Int.natCast_mul]
          generalize xs.getD (a * n + b) 0 = y at *
          generalize cs.getD b 0 = z at *
          generalize rpS xs cs n a b = s at *
          generalize a * n = p at *
          have e1 : IntKind.i64.wrap ((a : Int) * (n : Int)) = (p : Int) := by rw [hm1]; exact IntWalk.i64_in _ (by omega)
          have e3 : IntKind.i64.wrap ((p : Int) + (b : Int)) = (p : Int) + (b : Int) := IntWalk.i64_in _ (by omega)
          have f1 : 0 ≤ (p : Int) + (b : Int) := by omega
          have f3 : ((p : Int) + (b : Int)).toNat = p + b := by omega
          have f5 : (p : Int) + (b : Int) < (L : Int) := by omega
          clear hm1
          go_wp2
          go_quiet (fail)
          go_wp2
          go_roundw
          case measure => simp [intOf]; omega
          case rel => exact ⟨b + 1, by omega, by go_num, by rw [Hs.out], hide ⟨_, rfl⟩⟩
        · have hbe : b = n := by omega
          subst hbe
          generalize rpS xs cs b a b = s at *
          by_cases h0 : a = 0
          · have d0 : ((a : Int) == 0) = true := by simp; omega
            have HS := hide (Hst.out.trans (if_pos (Or.inl h0)))
            clear h0
            go_wp2
            go_roundw
            case measure => simp [intOf]; omega
            case rel => exact ⟨a + 1, by omega, by go_num, by rw [HS.out], by rw [HS.out], hide ⟨_, rfl⟩⟩
          · have d0 : ((a : Int) == 0) = false := by simp; omega
            by_cases hlt : b2 < s
            · have d1 : decide (b2 < s) = true := decide_eq_true hlt
              have HS := hide (Hst.out.trans (if_pos (Or.inr hlt)))
              clear h0
              go_wp2
              go_roundw
              case measure => simp [intOf]; omega
              case rel => exact ⟨a + 1, by omega, by go_num, by rw [HS.out], by rw [HS.out], hide ⟨_, rfl⟩⟩
            · have d1 : decide (b2 < s) = false := decide_eq_false hlt
              have HS := hide (Hst.out.trans (if_neg (by omega)))
              clear h0
              go_wp2
              go_roundw
              case measure => simp [intOf]; omega
              case rel => exact ⟨a + 1, by omega, by go_num, by rw [HS.out], by rw [HS.out], hide ⟨_, rfl⟩⟩
    · have hae : a = n := by omega
      subst hae
      go_wp2
      go_ret
      exact ⟨rfl, _, rfl⟩
set_option maxHeartbeats 1600000 in
theorem iReply (g1 g2 : Nat) (A : Option Addr) (L c : Nat) (xs : List Int) (B : Option Addr) (n d : Nat) (cs : List Int) (w : World) (hr : Rd w A L (iv xs)) (hr2 : Rd w B n (iv cs)) (hn5 : n ≤ 5) (hL : L = n * n)
    (hg1 : w.cell? ⟨g1, 0, none⟩ = some (.int .i64 (n : Int))) (hg2 : w.cell? ⟨g2, 0, none⟩ = some (.slice A L c)) :
    Calls Try.prog 42 #[.slice B n d, .pointer (some ⟨g1, 0, none⟩), .pointer (some ⟨g2, 0, none⟩)] w fun e w' => e = .returned (.int .i64 (((rpB xs cs n n).1 : Nat) : Int)) ∧ w = w' := by
  have Hlt : Hid (∀ a b, a < n → b < n → a * n + b < L ∧ L ≤ 25) := hide fun a b h1 h2 => by
    have h4 := th_lt h1 h2
    have := sq_le hn5
    omega
  clear hL
  go_enter Try.func42, Try.ntmps42
  go_wp2
  go_loop [5, 6, 12] (fun x y i => ∃ a : Nat, a ≤ n ∧ i = .int .i64 a ∧ x = .int .i64 (((rpB xs cs n a).1 : Nat) : Int) ∧ y = .int .i64 (rpB xs cs n a).2) (fun _ _ i => n - (intOf i).toNat)
  case atStart => exact ⟨0, Nat.zero_le _, rfl, rfl, rfl⟩
  case round =>
    obtain ⟨a, ha, rfl, rfl, rfl⟩ := hrel
    by_cases han : a < n
    · have dan : decide (a < n) = true := decide_eq_true han
      have Hst : Hid (rpB xs cs n (a + 1) = if a = 0 ∨ (rpB xs cs n a).2 < rpS xs cs n a n then (a, rpS xs cs n a n) else rpB xs cs n a) := hide rfl
      generalize rpB xs cs n a = bst at *
      obtain ⟨b1, b2⟩ := bst
      simp only at Hst
      go_wp2
      go_loop [8, 17] (fun s j => ∃ b : Nat, b ≤ n ∧ j = .int .i64 b ∧ s = .int .i64 (rpS xs cs n a b)) (fun _ j => n - (intOf j).toNat)
      case atStart => exact ⟨0, Nat.zero_le _, rfl, rfl⟩
      case round =>
        obtain ⟨b, hb, rfl, rfl⟩ := hrel
        by_cases hbn : b < n
        · have dbn : decide (b < n) = true := decide_eq_true hbn
          obtain ⟨hp1, hL25⟩ := Hlt.out a b han hbn
          obtain ⟨ad, rfl, hbl, hc⟩ := hr.int hp1
          obtain ⟨bd, rfl, hbl2, hc2⟩ := hr2.int hbn
          have Hs : Hid (rpS xs cs n a (b + 1) = wrap64 (rpS xs cs n a b + wrap64 (xs.getD (a * n + b) 0 * cs.getD b 0))) := hide rfl
          have hm1 : (a : Int) * (n : Int) = ((a * n : Nat) : Int) := by rw [Int.natCast_mul]
          generalize xs.getD (a * n + b) 0 = y at *
          generalize cs.getD b 0 = z at *
          generalize rpS xs cs n a b = s at *
          generalize a * n = p at *
          have e1 : IntKind.i64.wrap ((a : Int) * (n : Int)) = (p : Int) := by rw [hm1]; exact IntWalk.i64_in _ (by omega)
          have e3 : IntKind.i64.wrap ((p : Int) + (b : Int)) = (p : Int) + (b : Int) := IntWalk.i64_in _ (by omega)
          have f1 : 0 ≤ (p : Int) + (b : Int) := by omega
          have f3 : ((p : Int) + (b : Int)).toNat = p + b := by omega
          have f5 : (p : Int) + (b : Int) < (L : Int) := by omega
          clear hm1
          go_wp2
          go_round
          case measure => simp [intOf]; omega
          case rel => exact ⟨b + 1, by omega, by go_num, by rw [Hs.out, Int.mul_comm y z]⟩
        · have hbe : b = n := by omega
          subst hbe
          generalize rpS xs cs b a b = s at *
          by_cases h0 : a = 0
          · have d0 : ((a : Int) == 0) = true := by simp; omega
            have HS := hide (Hst.out.trans (if_pos (Or.inl h0)))
            clear h0
            go_wp2
            go_round
            case measure => simp [intOf]; omega
            case rel => exact ⟨a + 1, by omega, by go_num, by rw [HS.out], by rw [HS.out]⟩
          · have d0 : ((a : Int) == 0) = false := by simp; omega
            by_cases hlt : b2 < s
            · have d1 : decide (b2 < s) = true := decide_eq_true hlt
              have HS := hide (Hst.out.trans (if_pos (Or.inr hlt)))
              clear h0
              go_wp2
              go_round
              case measure => simp [intOf]; omega
              case rel => exact ⟨a + 1, by omega, by go_num, by rw [HS.out], by rw [HS.out]⟩
            · have d1 : decide (b2 < s) = false := decide_eq_false hlt
              have HS := hide (Hst.out.trans (if_neg (by omega)))
              clear h0
              go_wp2
              go_round
              case measure => simp [intOf]; omega
              case rel => exact ⟨a + 1, by omega, by go_num, by rw [HS.out], by rw [HS.out]⟩
    · have hae : a = n := by omega
      subst hae
      go_wp2
      go_ret
      exact ⟨rfl, rfl⟩
end Go.Proofs.Ytafhfcpaofgikaa
