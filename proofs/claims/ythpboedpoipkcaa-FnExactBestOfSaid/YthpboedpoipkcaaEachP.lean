/- Plain facts on the dice of two or three faces, in order. Conditions: none, these are plain lemmas. -/
import Derived.Test.YthpboedpoipkcaaRing2
namespace Go.Proofs.Ythpboedpoipkcaa
open Go.ChangeShapes Go.WideShapes Go.ChangeAt Go.RowKit

/-- one more than the greatest place below k whose number is less than m, 0 if there is none -/
def npos (xs : List Int) (m : Int) : Nat → Nat
  | 0 => 0
  | k + 1 => if xs.getD k 0 < m then k + 1 else npos xs m k
/-- the next list of numbers from 1 to m that never descends -/
def nextL (xs : List Int) (m : Int) : List Int :=
  match npos xs m xs.length with
  | 0 => xs
  | i + 1 => xs.take i ++ List.replicate (xs.length - i) (xs.getD i 0 + 1)
def nextB (xs : List Int) (m : Int) : Bool := npos xs m xs.length != 0
/-- the lists of n numbers from f to m that never descend, in order -/
def growL (m : Nat) : Nat → Nat → List (List Int)
  | 0, _ => [[]]
  | n + 1, f => (List.range' f (m + 1 - f)).flatMap fun g => (growL m n g).map fun q => (g : Int) :: q
/-- the list begins with ones, each one is followed by the next one, the last one has none -/
def chainB (n m : Nat) : Bool :=
  let L := growL m n 1
  decide (0 < L.length) && decide (L.length ≤ 56) && decide (L.getD 0 [] = List.replicate n 1) &&
    (List.range L.length).all fun i => decide ((L.getD i []).length = n) && ((L.getD i []).all fun x => decide (1 ≤ x ∧ x ≤ (m : Int))) &&
      (if i + 1 < L.length then nextB (L.getD i []) m && decide (nextL (L.getD i []) m = L.getD (i + 1) []) else !nextB (L.getD i []) m)
theorem chain_all : ∀ n : Fin 2, ∀ m : Fin 6, chainB (n.val + 2) (m.val + 1) = true := by decide +kernel
theorem chain_of {n m : Nat} (hn : 2 ≤ n) (hn3 : n ≤ 3) (hm : 1 ≤ m) (hm6 : m ≤ 6) : chainB n m = true := by
  have := chain_all ⟨n - 2, by omega⟩ ⟨m - 1, by omega⟩
  simpa [show n - 2 + 2 = n by omega, show m - 1 + 1 = m by omega] using this
theorem chain_facts {n m : Nat} (hn : 2 ≤ n) (hn3 : n ≤ 3) (hm : 1 ≤ m) (hm6 : m ≤ 6) :
    0 < (growL m n 1).length ∧ (growL m n 1).length ≤ 56 ∧ (growL m n 1).getD 0 [] = List.replicate n 1 ∧
      ∀ i, i < (growL m n 1).length → ((growL m n 1).getD i []).length = n ∧ (∀ x ∈ (growL m n 1).getD i [], 1 ≤ x ∧ x ≤ (m : Int)) ∧
        nextB ((growL m n 1).getD i []) m = decide (i + 1 < (growL m n 1).length) ∧ (i + 1 < (growL m n 1).length → nextL ((growL m n 1).getD i []) m = (growL m n 1).getD (i + 1) []) := by
  have h := chain_of hn hn3 hm hm6
  unfold chainB at h
  simp only [Bool.and_eq_true, decide_eq_true_eq, List.all_eq_true, List.mem_range] at h
  obtain ⟨⟨⟨h1, h2⟩, h3⟩, h4⟩ := h
  refine ⟨h1, h2, h3, fun i hi => ?_⟩
  obtain ⟨⟨h5, h6⟩, h7⟩ := h4 i hi
  refine ⟨h5, h6, ?_, fun hlt => ?_⟩
  · by_cases hlt : i + 1 < (growL m n 1).length
    · rw [if_pos hlt] at h7
      rw [decide_eq_true hlt]
      exact (Bool.and_eq_true _ _ ▸ h7).1
    · rw [if_neg hlt] at h7
      rw [decide_eq_false hlt]
      simpa using h7
  · rw [if_pos hlt] at h7
    exact of_decide_eq_true (Bool.and_eq_true _ _ ▸ h7).2
end Go.Proofs.Ythpboedpoipkcaa
