/- TurnSums as a plain function of bits; its bounds. Conditions: what is stated. -/
import Derived.Test.YtjeaiihgedennaaCHelp
namespace Go.Proofs.Ytjeaiihgedennaa
open Go.ChangeShapes Go.WideShapes Go.ChangeAt Go.RowKit

theorem cnF_len (fs : List Int) (k : Nat) (c : Int) (acc : List Int) (j : Nat) : (cnF fs k c acc j).length = acc.length := by
  induction j with
  | zero => rfl
  | succ j ih => simp [cnF, bmp, ih]
theorem cnK_len (cs fs acc : List Int) (k : Nat) : (cnK cs fs acc k).length = acc.length := by
  induction k with
  | zero => rfl
  | succ k ih => rw [cnK, cnF_len, ih]
/-- one and the sum of the greatest faces of the first k dice -/
def mT (xss : List (List Int)) (k : Nat) : Nat := (cnD xss k).length
theorem mT_step (xss : List (List Int)) (k : Nat) : mT xss (k + 1) = mT xss k + lastF (xss.getD k []) := by
  unfold mT
  rw [cnD, cnK_len, List.length_replicate]
theorem mT_zero (xss : List (List Int)) : mT xss 0 = 1 := rfl
/-- the sum of a die at the j-th of m points -/
def sD (xss : List (List Int)) (m j i : Nat) : Nat × Nat := sm (phRe (dvB j m)) (phIm (dvB j m)) (xss.getD i []) (xss.getD i []).length
/-- the product of the first i dice's sums -/
def prB (xss : List (List Int)) (m j : Nat) : Nat → Nat × Nat
  | 0 => (1065353216, 0)
  | i + 1 => (cvB (mR (prB xss m j i).1 (prB xss m j i).2 (sD xss m j i).1 (sD xss m j i).2), cvB (mI (prB xss m j i).1 (prB xss m j i).2 (sD xss m j i).1 (sD xss m j i).2))
def turnsL (xss : List (List Int)) (m n : Nat) : List (Nat × Nat) := (List.range m).map fun j => prB xss m j n
theorem turnsL_len (xss : List (List Int)) (m n : Nat) : (turnsL xss m n).length = m := by simp [turnsL]
theorem turnsL_get (xss : List (List Int)) (m n j : Nat) (h : j < m) : (turnsL xss m n).getD j (0, 0) = prB xss m j n := by simp [turnsL, List.getD, h]
theorem turnsL_step (xss : List (List Int)) (m n j : Nat) (h : j < m) : (turnsL xss m n).take (j + 1) = (turnsL xss m n).take j ++ [prB xss m j n] := by
  rw [take_snoc' _ (0, 0) j (by rw [turnsL_len]; exact h), turnsL_get _ _ _ _ h]
def RTurnSums (xss : List (List Int)) : List (Nat × Nat) × Bool := if diceB xss = true then (turnsL xss (mT xss xss.length) xss.length, true) else ([], false)

theorem mT_rng {xss : List (List Int)} (hd : ∀ k, k < xss.length → dieB (xss.getD k []) = true) (hn : xss.length ≤ 6) (k : Nat) (hk : k ≤ xss.length) : 1 ≤ mT xss k ∧ mT xss k ≤ 121 := by
  obtain ⟨-, h1, h2, -⟩ := cnD_gd hd k hk
  unfold mT
  omega
theorem good_turn {k m : Nat} (hk : k < m) (hm : m ≤ 121) : GoodZ (phRe (dvB k m)) (phIm (dvB k m)) := (ph_bd (dv_bd hk hm).2).2
theorem sD_bd {xss : List (List Int)} {m j i : Nat} (hj : j < m) (hm : m ≤ 121) (hd : dieB (xss.getD i []) = true) : Bd .f32 false (sD xss m j i).1 8388608 (-3) ∧ Bd .f32 false (sD xss m j i).2 8388608 (-3) := by
  have hl := dieB_len hd
  obtain ⟨h1, h2⟩ := sm_bd (good_turn hj hm) hl.2 (fun i' h => by have := die_in hd h; omega) _ (Nat.le_refl _)
  have hw : ∀ n, n ≤ 12 → leB (78000 * n) 0 8388608 (-3) = true := fun n hn => by
    unfold leB
    rw [if_neg (by decide)]
    have e : ((0 : Int) - -3).toNat = 3 := by decide
    rw [e]
    exact decide_eq_true (by omega)
  exact ⟨h1.weak (by decide) (by decide) (hw _ hl.2), h2.weak (by decide) (by decide) (hw _ hl.2)⟩
theorem pr_step {xss : List (List Int)} {m j i : Nat} (hj : j < m) (hm : m ≤ 121) (hi : i < 6) (hd : dieB (xss.getD i []) = true) (h1 : Bd .f32 false (prB xss m j i).1 8388608 (21 * i - 23)) (h2 : Bd .f32 false (prB xss m j i).2 8388608 (21 * i - 23)) :
    MulF (prB xss m j i).1 (prB xss m j i).2 (sD xss m j i).1 (sD xss m j i).2 ∧ Bd .f32 false (prB xss m j (i + 1)).1 8388608 (21 * ((i + 1 : Nat) : Int) - 23) ∧ Bd .f32 false (prB xss m j (i + 1)).2 8388608 (21 * ((i + 1 : Nat) : Int) - 23) := by
  obtain ⟨s1, s2⟩ := sD_bd hj hm hd
  have hi' : (i : Int) < 6 := by omega
  have h0 : (0 : Int) ≤ (i : Int) := by omega
  have hq : ((i + 1 : Nat) : Int) = (i : Int) + 1 := by simp
  rw [hq]
  refine mul_ok 8388608 (21 * ((i : Int) + 1) - 23) h1 h2 s1 s2 (by omega) (decide_eq_true ⟨by decide, by omega, by omega⟩) (by decide) (by decide) (decide_eq_true ⟨by decide, by omega, by omega⟩) (decide_eq_true ⟨by decide, by omega, by omega⟩) (decide_eq_true ⟨by decide, by omega, by omega⟩) (decide_eq_true ⟨by decide, by omega, by omega⟩) ?_
  unfold leB
  rw [if_pos (by omega)]
  have e : (21 * ((i : Int) + 1) - 23 - (21 * (i : Int) - 23 + -3)).toNat = 24 := by omega
  rw [e]
  decide
theorem pr_bd {xss : List (List Int)} {m j : Nat} (hj : j < m) (hm : m ≤ 121) (hd : ∀ k, k < xss.length → dieB (xss.getD k []) = true) (hn : xss.length ≤ 6) (i : Nat) (hi : i ≤ xss.length) :
    Bd .f32 false (prB xss m j i).1 8388608 (21 * (i : Int) - 23) ∧ Bd .f32 false (prB xss m j i).2 8388608 (21 * (i : Int) - 23) := by
  induction i with
  | zero => exact ⟨⟨false, _, _, rd32_1, by simp [prB], by decide, by simp⟩, b32_0 _ _⟩
  | succ i ih =>
    obtain ⟨h1, h2⟩ := ih (by omega)
    exact (pr_step hj hm (by omega) (hd i (by omega)) h1 h2).2
theorem pr_mul {xss : List (List Int)} {m j i : Nat} (hj : j < m) (hm : m ≤ 121) (hd : ∀ k, k < xss.length → dieB (xss.getD k []) = true) (hn : xss.length ≤ 6) (hi : i < xss.length) :
    MulF (prB xss m j i).1 (prB xss m j i).2 (sD xss m j i).1 (sD xss m j i).2 :=
  (pr_step hj hm (by omega) (hd i hi) (pr_bd hj hm hd hn i (by omega)).1 (pr_bd hj hm hd hn i (by omega)).2).1
theorem turnsL_fin {xss : List (List Int)} {m : Nat} (hm : m ≤ 121) (hd : ∀ k, k < xss.length → dieB (xss.getD k []) = true) (hn : xss.length ≤ 6) : FinC (turnsL xss m xss.length) := fun j hj => by
  rw [turnsL_len] at hj
  rw [turnsL_get _ _ _ _ hj]
  obtain ⟨h1, h2⟩ := pr_bd hj hm hd hn xss.length (Nat.le_refl _)
  have hw : leB 8388608 (21 * (xss.length : Int) - 23) 8388608 103 = true := by
    unfold leB
    rw [if_pos (by omega)]
    exact decide_eq_true (Nat.le_mul_of_pos_right _ (Nat.two_pow_pos _))
  exact ⟨h1.weak (by omega) (by decide) hw, h2.weak (by omega) (by decide) hw⟩
theorem RTurnSums_len0 (xss : List (List Int)) : (RTurnSums xss).1.length ≤ 1048575 := by
  unfold RTurnSums
  split
  · rename_i h
    obtain ⟨h1, h6, hd⟩ := diceB_of h
    have := mT_rng hd h6 _ (Nat.le_refl _)
    simp only [turnsL_len]
    omega
  · simp
theorem RTurnSums_fin (xss : List (List Int)) : FinC (RTurnSums xss).1 := by
  unfold RTurnSums
  split
  · rename_i h
    obtain ⟨h1, h6, hd⟩ := diceB_of h
    exact turnsL_fin (mT_rng hd h6 _ (Nat.le_refl _)).2 hd h6
  · intro i hi
    simp at hi
/-- the turns k/m as bits have no sign -/
theorem near_pos (m : Nat) (p : Int) : Ieee.double.nearest false m p < 9223372036854775808 := by
  have h3 : Ieee.double.infRung = 9218868437227405312 := by decide
  unfold Ieee.Format.nearest
  split
  · decide
  · simp only [Ieee.Format.word, Bool.false_eq_true, if_false, h3]
    omega
theorem dv_pos {k m : Nat} (hk : k < m) (hm : m ≤ 121) : dvB k m < 9223372036854775808 := by
  have hq := (dv_bd hk hm).1
  obtain ⟨a, e, h1, h2, h3, -⟩ := rd_int k (by omega)
  obtain ⟨b, e', g1, g2, g3, g4⟩ := rd_int m (by omega)
  have hb := g4 (by omega)
  change Ieee.double.div _ _ = some (dvB k m) at hq
  unfold Ieee.Format.div at hq
  change Ieee.double.read _ = _ at h1 g1
  rw [h1, g1] at hq
  simp only [Ieee.Datum.quotient, if_neg hb, Option.map_some, Bool.xor_false, Ieee.Format.write, Option.some.injEq] at hq
  rw [← hq]
  exact near_pos _ _
end Go.Proofs.Ytjeaiihgedennaa
