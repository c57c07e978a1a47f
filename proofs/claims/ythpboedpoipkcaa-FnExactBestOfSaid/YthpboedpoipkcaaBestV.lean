/- BestOf's answer, and plain facts of it. Conditions: none, these are plain lemmas. -/
import Derived.Test.YthpboedpoipkcaaBestR
import Derived.Test.YthpboedpoipkcaaDice
namespace Go.Proofs.Ythpboedpoipkcaa
open Go.ChangeShapes Go.WideShapes Go.ChangeAt Go.RowKit

/-- the greatest face of each die -/
def lastL (xss : List (List Int)) : List Int := xss.map fun D => D.getD (D.length - 1) 0
def boOk (xss : List (List Int)) (k : Int) : Bool := diceB xss && inB k 1 (xss.length : Int) && decide (waysL xss ≤ 100000)
def boRow (xss : List (List Int)) (k : Nat) : List Int := runC (bestN k) (prodL xss) (List.replicate (bestN k (lastL xss) + 1) 0)
def RBestOf (xss : List (List Int)) (k : Int) : List Int × Int × Bool := if boOk xss k = true then (boRow xss k.toNat, (waysL xss : Int), true) else ([], 0, false)

theorem waysL_append (A B : List (List Int)) : waysL (A ++ B) = waysL A * waysL B := by
  induction A with
  | nil => simp [waysL]
  | cons D A ih => simp only [List.cons_append, waysL, ih, Nat.mul_assoc]
theorem waysL_step (xss : List (List Int)) {k : Nat} (hk : k < xss.length) : waysL (xss.take (k + 1)) = waysL (xss.take k) * (xss.getD k []).length := by
  rw [List.take_succ_eq_append_getElem hk, waysL_append]
  simp [waysL, List.getD, hk]
theorem waysL_le {xss : List (List Int)} (h : ∀ k, k < xss.length → (xss.getD k []).length ≤ 12) (hn : xss.length ≤ 6) (k : Nat) : waysL (xss.take k) ≤ 12 ^ k := by
  induction k with
  | zero => simp [waysL]
  | succ k ih =>
    by_cases hk : k < xss.length
    · rw [waysL_step xss hk, Nat.pow_succ]
      exact Nat.mul_le_mul ih (h k hk)
    · rw [List.take_of_length_le (by omega)]
      rw [List.take_of_length_le (by omega)] at ih
      refine Nat.le_trans ih (Nat.pow_le_pow_right (by decide) (by omega))
theorem waysL_big {xss : List (List Int)} (h : ∀ k, k < xss.length → (xss.getD k []).length ≤ 12) (hn : xss.length ≤ 6) (k : Nat) (hk : k ≤ 6) : waysL (xss.take k) ≤ 2985984 :=
  Nat.le_trans (waysL_le h hn k) (Nat.le_trans (Nat.pow_le_pow_right (by decide) hk) (by decide))
theorem prodL_len (xss : List (List Int)) : (prodL xss).length = waysL xss := by
  induction xss with
  | nil => rfl
  | cons D Ds ih =>
    simp only [prodL, waysL, List.length_flatMap, List.length_map, ih]
    induction D with
    | nil => simp
    | cons d D ih2 => simp [Nat.succ_mul] at ih2 ⊢; omega
theorem lastL_len (xss : List (List Int)) : (lastL xss).length = xss.length := by simp [lastL]
theorem lastL_get (xss : List (List Int)) {i : Nat} (hi : i < xss.length) : (lastL xss).getD i 0 = (xss.getD i []).getD ((xss.getD i []).length - 1) 0 := by
  simp [lastL, List.getD, hi]
theorem lastL_step (xss : List (List Int)) {k : Nat} (hk : k < xss.length) : (lastL xss).take (k + 1) = (lastL xss).take k ++ [(xss.getD k []).getD ((xss.getD k []).length - 1) 0] := by
  rw [List.take_succ_eq_append_getElem (by rw [lastL_len]; exact hk)]
  congr 2
  simp [lastL, List.getD, hk]
theorem getD_memD {D : List Int} {i : Nat} (hi : i < D.length) : D.getD i 0 ∈ D := by simp [List.getD, hi]
theorem prod_le {xss : List (List Int)} (hd : ∀ k, k < xss.length → dieB (xss.getD k []) = true) {t : List Int} (ht : t ∈ prodL xss) : t.length = xss.length ∧ ∀ i, i < t.length → 0 ≤ t.getD i 0 ∧ t.getD i 0 ≤ 20 ∧ t.getD i 0 ≤ (lastL xss).getD i 0 := by
  obtain ⟨hl, hm⟩ := prod_mem ht
  refine ⟨hl, fun i hi => ?_⟩
  obtain ⟨j, hj, e⟩ := list_getD_mem (hm i (by omega))
  have h1 := die_in (hd i (by omega)) hj
  have h2 := die_mono (hd i (by omega)) (i := j) (j := (xss.getD i []).length - 1) (by omega) (by omega)
  rw [lastL_get xss (by omega), ← e]
  exact ⟨h1.1, h1.2, h2⟩
theorem prod_best {xss : List (List Int)} (hd : ∀ k, k < xss.length → dieB (xss.getD k []) = true) (k : Nat) {t : List Int} (ht : t ∈ prodL xss) : bestN k t ≤ bestN k (lastL xss) := by
  obtain ⟨hl, h⟩ := prod_le hd ht
  exact bestN_mono (by rw [hl, lastL_len]) fun i hi => (h i hi).2.2
theorem last_prod {xss : List (List Int)} (hd : ∀ k, k < xss.length → dieB (xss.getD k []) = true) : lastL xss ∈ prodL xss :=
  prod_of (lastL_len xss) fun i hi => by
    rw [lastL_get xss hi]
    exact getD_memD (by have := dieB_len (hd i hi); omega)
theorem last_rng {xss : List (List Int)} (hd : ∀ k, k < xss.length → dieB (xss.getD k []) = true) {i : Nat} (hi : i < xss.length) : 0 ≤ (lastL xss).getD i 0 ∧ (lastL xss).getD i 0 ≤ 20 := by
  rw [lastL_get xss hi]
  exact die_in (hd i hi) (by have := dieB_len (hd i hi); omega)
theorem fit_start {xss : List (List Int)} (hd : ∀ k, k < xss.length → dieB (xss.getD k []) = true) (hw : waysL xss ≤ 100000) (k : Nat) : Fit k (prodL xss) (List.replicate (bestN k (lastL xss) + 1) 0) := by
  refine ⟨fun t ht => by rw [List.length_replicate]; have := prod_best hd k ht; omega, fun s => ?_, fun t ht i hi => ⟨((prod_le hd ht).2 i hi).1, ((prod_le hd ht).2 i hi).2.1⟩⟩
  have e : (List.replicate (bestN k (lastL xss) + 1) (0 : Int)).getD s 0 = 0 := by
    simp only [List.getD, List.getElem?_replicate]
    split <;> rfl
  rw [e, prodL_len]
  omega
theorem boOk_of {xss : List (List Int)} {k : Int} (h : boOk xss k = true) : diceB xss = true ∧ inB k 1 (xss.length : Int) = true ∧ waysL xss ≤ 100000 := by
  simp only [boOk, Bool.and_eq_true, decide_eq_true_eq] at h
  exact ⟨h.1.1, h.1.2, h.2⟩
end Go.Proofs.Ythpboedpoipkcaa
