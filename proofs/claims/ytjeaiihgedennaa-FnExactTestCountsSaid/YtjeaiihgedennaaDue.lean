/- The quotient of two whole numbers as float32s is fixed. Conditions: what is stated. -/
import Derived.Test.YtjeaiihgedennaaFloat
import Derived.Laws.Cover2
namespace Go.Proofs.Ytjeaiihgedennaa
open Go.ChangeShapes Go.WideShapes Go.ChangeAt Go.RowKit

theorem read_word (s : Bool) (rung : Nat) (h : rung < 2147483648) : Ieee.single.read (Ieee.single.word s rung) =
    (if rung < 8388608 then .number s rung (-149) else if rung < 2139095040 then .number s (8388608 + rung % 8388608) (-149 + (rung / 8388608 - 1 : Nat)) else if rung = 2139095040 then .infinity s else .nan s (rung - 2139095040)) := by
  have h1 : Ieee.single.signWeight = 2147483648 := by decide
  have h2 : Ieee.single.binade = 8388608 := by decide
  have h3 : Ieee.single.infRung = 2139095040 := by decide
  have h4 : Ieee.single.leastPlace = -149 := by decide
  have hm : Ieee.single.word s rung % 2147483648 = rung := by
    unfold Ieee.Format.word
    rw [h1]
    cases s <;> simp <;> omega
  have hs : (Ieee.single.word s rung / 2147483648 % 2 == 1) = s := by
    unfold Ieee.Format.word
    rw [h1]
    cases s
    · simp only [Bool.false_eq_true, if_false, beq_eq_false_iff_ne]; omega
    · simp only [if_true, beq_iff_eq]; omega
  unfold Ieee.Format.read
  simp only [h1, h2, h3, h4, hm, hs]
theorem near_eq (n : Int) : floatOfInt .f32 n = Ieee.single.nearest (decide (n < 0)) n.natAbs 0 := by
  simp only [floatOfInt, FloatKind.nearest, FloatKind.encode, Ieee.Format.write, FloatKind.format]
theorem near_notnan (s : Bool) (m : Nat) (p : Int) : (Ieee.single.read (Ieee.single.nearest s m p)).isNaN = false := by
  have h3 : Ieee.single.infRung = 2139095040 := by decide
  have key : ∀ r, r ≤ 2139095040 → (Ieee.single.read (Ieee.single.word s r)).isNaN = false := fun r hr => by
    rw [read_word s r (by omega)]
    split
    · rfl
    · split
      · rfl
      · rw [if_pos (by omega)]; rfl
  unfold Ieee.Format.nearest
  split
  · exact key 0 (by omega)
  · dsimp only
    rw [h3]
    exact key _ (Nat.min_le_right _ _)
theorem near_nz (s : Bool) (m : Nat) (h1 : 1 ≤ m) (h2 : m < 16777216) : ∃ s' m' e', Ieee.single.read (Ieee.single.nearest s m 0) = .number s' m' e' ∧ m' ≠ 0 := by
  unfold Ieee.Format.nearest
  have h0 : ¬ m = 0 := by omega
  rw [if_neg h0]
  have hl : m.log2 ≤ 23 := by
    have := (Nat.log2_lt h0 (k := 24)).2 (by omega)
    omega
  have hp : Ieee.single.leastPlace = -149 := by decide
  have hf : Ieee.single.fractionBits = 23 := rfl
  have hb : Ieee.single.binade = 8388608 := by decide
  have hi : Ieee.single.infRung = 2139095040 := by decide
  have hlast : max ((0 : Int) + (m.log2 : Int) - (23 : Nat)) (-149) = (m.log2 : Int) - 23 := by omega
  simp only [hp, hf, hb, hi, hlast]
  have hd : ((m.log2 : Int) - 23 - 0).toNat = 0 := by omega
  have hk : (0 - ((m.log2 : Int) - 23)).toNat = 23 - m.log2 := by omega
  rw [hd, hk]
  have hlt : m < 2 ^ (m.log2 + 1) := Nat.lt_log2_self
  have hge : 2 ^ m.log2 ≤ m := Nat.log2_self_le h0
  have hn : m <<< (23 - m.log2) < 16777216 := by
    rw [Nat.shiftLeft_eq]
    calc m * 2 ^ (23 - m.log2) < 2 ^ (m.log2 + 1) * 2 ^ (23 - m.log2) := Nat.mul_lt_mul_of_pos_right hlt (Nat.two_pow_pos _)
      _ = 2 ^ 24 := by rw [← Nat.pow_add]; congr 1; omega
      _ = 16777216 := by decide
  have hn2 : 8388608 ≤ m <<< (23 - m.log2) := by
    rw [Nat.shiftLeft_eq]
    calc 8388608 = 2 ^ 23 := by decide
      _ = 2 ^ m.log2 * 2 ^ (23 - m.log2) := by rw [← Nat.pow_add]; congr 1; omega
      _ ≤ m * 2 ^ (23 - m.log2) := Nat.mul_le_mul_right _ hge
  generalize m <<< (23 - m.log2) = n at *
  have hcut : Ieee.Toward.even.cut s n 0 = n := by
    unfold Ieee.Toward.cut
    simp
    omega
  rw [hcut]
  have hr : ((m.log2 : Int) - 23 - -149).toNat ≤ 149 := by omega
  generalize ((m.log2 : Int) - 23 - -149).toNat = q at *
  have hR : q * 8388608 + n < 2139095040 := by omega
  rw [Nat.min_eq_left (Nat.le_of_lt hR), read_word s _ (by omega), if_neg (by omega), if_pos hR]
  exact ⟨_, _, _, rfl, by omega⟩
/-- a whole number over one from 1 to 2^24 - 1 -/
theorem quo_ok (a w : Int) (h1 : 1 ≤ w) (h2 : w < 16777216) : ∃ r, floatBits .quo .f32 (floatOfInt .f32 a) (floatOfInt .f32 w) = some r := by
  have hx := near_notnan (decide (a < 0)) a.natAbs 0
  obtain ⟨s, m, e, hy, hm⟩ := near_nz (decide (w < 0)) w.natAbs (by omega) (by omega)
  rw [near_eq, near_eq]
  show ∃ r, Ieee.single.div _ _ = some r
  unfold Ieee.Format.div
  rw [hy]
  cases hr : Ieee.single.read (Ieee.single.nearest (decide (a < 0)) a.natAbs 0) with
  | nan a b => rw [hr] at hx; cases hx
  | infinity a => exact ⟨_, rfl⟩
  | number a b c =>
    simp only [Ieee.Datum.quotient, if_neg hm]
    exact ⟨_, rfl⟩
end Go.Proofs.Ytjeaiihgedennaa
