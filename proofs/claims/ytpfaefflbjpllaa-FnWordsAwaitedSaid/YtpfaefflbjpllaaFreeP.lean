/- Plain facts on the counts of rows without a word. Conditions: none. -/
import Derived.Test.YtpfaefflbjpllaaWait
namespace Go.Proofs.Ytpfaefflbjpllaa
open Go.ChangeShapes Go.WideShapes Go.ChangeAt Go.RowKit

/-- the longest end of es, of at most k, that is a beginning of bs -/
def lastE (es bs : List Int) : Nat → Nat
  | 0 => 0
  | k + 1 => if endsB es bs (k + 1) = true then k + 1 else lastE es bs k
theorem lastE_yes {es bs : List Int} {k : Nat} (h : endsB es bs (k + 1) = true) : lastE es bs (k + 1) = k + 1 := by rw [lastE, if_pos h]
theorem lastE_no {es bs : List Int} {k : Nat} (h : endsB es bs (k + 1) = false) : lastE es bs (k + 1) = lastE es bs k := by rw [lastE, if_neg (by rw [h]; simp)]
theorem lastE_le (es bs : List Int) (k : Nat) : lastE es bs k ≤ k := by
  induction k with
  | zero => exact Nat.le_refl _
  | succ k ih =>
    rw [lastE]
    split <;> omega
theorem lastE_more {es bs : List Int} {k : Nat} (m : Nat) (h : es.length ≤ k ∨ bs.length ≤ k) : lastE es bs (k + m) = lastE es bs k := by
  induction m with
  | zero => rfl
  | succ m ih =>
    rw [← Nat.add_assoc, lastE_no (k := k + m) ?_, ih]
    rcases h with h | h
    · simp [endsB, show ¬ (k + m + 1 ≤ es.length) by omega]
    · simp [endsB, show ¬ (k + m + 1 ≤ bs.length) by omega]
theorem ov_last (es bs : List Int) (k : Nat) : (ov es bs k = [] ∧ lastE es bs k = 0) ∨ (0 < (ov es bs k).length ∧ (ov es bs k).getD ((ov es bs k).length - 1) 0 = (lastE es bs k : Int)) := by
  induction k with
  | zero => exact .inl ⟨rfl, rfl⟩
  | succ k ih =>
    cases h : endsB es bs (k + 1) with
    | false => rw [ov_no h, lastE_no h]; exact ih
    | true =>
      rw [ov_yes h, lastE_yes h]
      refine .inr ⟨by simp, ?_⟩
      simp [List.getD]
/-- the state to which a word that ends es leads -/
def toE (word : List Int) (k x : Nat) : Nat := lastE (word.take k ++ [(x : Int)]) word (k + 1)
def bump (n d : Nat) (v : Int) (xs : List Int) : List Int := if d < n then xs.set d (wrap64 (xs.getD d 0 + v)) else xs
def frX (n : Nat) (T : Nat → Nat) (v : Int) (xs : List Int) : Nat → List Int
  | 0 => xs
  | x + 1 => bump n (T x) v (frX n T v xs x)
def frK (n s : Nat) (T : Nat → Nat → Nat) (row : List Int) : Nat → List Int
  | 0 => List.replicate n 0
  | k + 1 => frX n (T k) (row.getD k 0) (frK n s T row k) s
def frT (n s : Nat) (T : Nat → Nat → Nat) : Nat → List Int
  | 0 => (List.replicate n 0).set 0 1
  | t + 1 => frK n s T (frT n s T t) n
def sumW (xs : List Int) : Nat → Int
  | 0 => 0
  | k + 1 => wrap64 (sumW xs k + xs.getD k 0)
theorem bump_len (n d : Nat) (v : Int) (xs : List Int) : (bump n d v xs).length = xs.length := by unfold bump; split <;> simp
theorem frX_len (n : Nat) (T : Nat → Nat) (v : Int) (xs : List Int) (x : Nat) : (frX n T v xs x).length = xs.length := by
  induction x with
  | zero => rfl
  | succ x ih => rw [frX, bump_len, ih]
theorem frK_len (n s : Nat) (T : Nat → Nat → Nat) (row : List Int) (k : Nat) : (frK n s T row k).length = n := by
  induction k with
  | zero => simp [frK]
  | succ k ih => rw [frK, frX_len, ih]
theorem frT_len (n s : Nat) (T : Nat → Nat → Nat) (t : Nat) : (frT n s T t).length = n := by
  cases t with
  | zero => simp [frT]
  | succ t => rw [frT, frK_len]
/-- can the power be taken so many times -/
def pwI (s : Int) (k : Nat) : Int := s ^ k
def powOk (s : Int) : Nat → Bool
  | 0 => true
  | k + 1 => powOk s k && decide (pwI s k ≤ 4000000000000000000 / s)
theorem powOk_step {s : Int} {k : Nat} (h : powOk s (k + 1) = true) : powOk s k = true ∧ pwI s k ≤ 4000000000000000000 / s := by
  simpa [powOk] using h
theorem powOk_more {s : Int} {k : Nat} (m : Nat) (h : powOk s k = false) : powOk s (k + m) = false := by
  induction m with
  | zero => exact h
  | succ m ih => rw [← Nat.add_assoc, powOk, ih]; rfl
theorem powOk_lt {s : Int} {k n : Nat} (hk : k ≤ n) (h : powOk s n = true) : powOk s k = true := by
  obtain ⟨m, rfl⟩ := Nat.exists_eq_add_of_le hk
  cases hq : powOk s k with
  | true => rfl
  | false => rw [powOk_more m hq] at h; cases h
theorem pwI_succ (s : Int) (k : Nat) : pwI s (k + 1) = pwI s k * s := by unfold pwI; exact Int.pow_succ ..
theorem pwI_pos {s : Int} (h : 2 ≤ s) (k : Nat) : 1 ≤ pwI s k := by
  induction k with
  | zero => unfold pwI; simp
  | succ k ih =>
    rw [pwI_succ]
    have : 1 * s ≤ pwI s k * s := Int.mul_le_mul_of_nonneg_right ih (by omega)
    omega
theorem pwI_le {s : Int} (h : 2 ≤ s) {k : Nat} (hk : pwI s k ≤ 4000000000000000000 / s) : pwI s k * s ≤ 4000000000000000000 := by
  have h1 : pwI s k * s ≤ 4000000000000000000 / s * s := Int.mul_le_mul_of_nonneg_right hk (by omega)
  have h2 : 4000000000000000000 / s * s ≤ 4000000000000000000 := Int.ediv_mul_le _ (by omega)
  omega
/-- how one more round of the bound goes -/
theorem powOk_succ {s : Int} {k : Nat} (h : powOk s k = true) : powOk s (k + 1) = decide (pwI s k ≤ 4000000000000000000 / s) := by rw [powOk, h]; rfl
def RWordFree (xs : List Int) (s t : Int) : Int × Bool :=
  if (wordB xs s && (inB t 0 60 && powOk s t.toNat)) = true then (sumW (frT xs.length s.toNat (toE xs) t.toNat) xs.length, true) else (0, false)
end Go.Proofs.Ytpfaefflbjpllaa
