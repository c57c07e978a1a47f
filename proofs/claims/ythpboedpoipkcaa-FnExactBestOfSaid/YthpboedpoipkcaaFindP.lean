/- Plain facts for FindRing: the dice by their place, rings. Conditions: none. -/
import Derived.Test.YthpboedpoipkcaaNext
namespace Go.Proofs.Ythpboedpoipkcaa
open Go.ChangeShapes Go.WideShapes Go.ChangeAt Go.RowKit

/-- the i-th list, behind the end the last one -/
def dieAt (n m i : Nat) : List Int := (growL m n 1).getD (min i ((growL m n 1).length - 1)) []
def ring3 (n m i j k : Nat) : Bool := winB (dieAt n m i) (dieAt n m j) && (winB (dieAt n m j) (dieAt n m k) && winB (dieAt n m k) (dieAt n m i))
/-- no ring ahead of the place (i, j, k) -/
def noRing (n m N i j k : Nat) : Prop := ∀ i' j' k', i' < N → j' < N → k' < N → (i' < i ∨ i' = i ∧ (j' < j ∨ j' = j ∧ k' < k)) → ring3 n m i' j' k' = false
theorem getD_mem0 {xs : List Int} {j : Nat} (h : j < xs.length) : xs.getD j 0 ∈ xs := by simp [List.getD, h]
theorem dieAt_facts {n m : Nat} (hn : 2 ≤ n) (hn3 : n ≤ 3) (hm : 1 ≤ m) (hm6 : m ≤ 6) :
    ∃ N, N = (growL m n 1).length ∧ 0 < N ∧ N ≤ 56 ∧ dieAt n m 0 = List.replicate n 1 ∧ (∀ i, (dieAt n m i).length = n) ∧ (∀ i j, j < n → 0 ≤ (dieAt n m i).getD j 0) ∧
      (∀ i, i < N → nextB (dieAt n m i) (m : Int) = decide (i + 1 < N) ∧ nextL (dieAt n m i) (m : Int) = dieAt n m (i + 1)) := by
  obtain ⟨h1, h2, h3, h4⟩ := chain_facts hn hn3 hm hm6
  refine ⟨_, rfl, h1, h2, ?_, fun i => ?_, fun i j hj => ?_, fun i hi => ?_⟩
  · unfold dieAt; rw [Nat.zero_min, h3]
  · exact (h4 _ (by omega)).1
  · have h := h4 (min i ((growL m n 1).length - 1)) (by omega)
    have hl := h.1
    have hm := h.2.1 _ (getD_mem0 (j := j) (by rw [hl]; exact hj))
    unfold dieAt
    omega
  · have h := h4 i hi
    have e : dieAt n m i = (growL m n 1).getD i [] := by unfold dieAt; rw [Nat.min_eq_left (by omega)]
    rw [e]
    refine ⟨h.2.2.1, ?_⟩
    by_cases hlt : i + 1 < (growL m n 1).length
    · rw [h.2.2.2 hlt]; unfold dieAt; rw [Nat.min_eq_left (by omega)]
    · have hb := h.2.2.1
      rw [decide_eq_false hlt] at hb
      have h0 : npos ((growL m n 1).getD i []) (m : Int) n = 0 := by
        unfold nextB at hb; rw [h.1] at hb; simpa using hb
      rw [(next_no h.1 h0).2]
      unfold dieAt
      rw [Nat.min_eq_right (by omega), show (growL m n 1).length - 1 = i by omega]
end Go.Proofs.Ythpboedpoipkcaa
