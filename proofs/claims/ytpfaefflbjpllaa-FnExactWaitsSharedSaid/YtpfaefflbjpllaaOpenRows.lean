/- How a slice of rows that came in is opened. Conditions: none. -/
import Derived.Test.YtpfaefflbjpllaaLists
import Derived.Deep.Slices
import Derived.Deep.Matrix
namespace Go.Proofs.Ytpfaefflbjpllaa
open Go.ChangeShapes Go.WideShapes Go.ChangeAt Go.RowKit Go.Deep

theorem rdR_of {w : World} {a : Addr} {len cap : Nat} {A : Nat → Option Addr} {L C : Nat → Nat} {Z : Nat → List Int} {base : Nat} (hl : len ≤ cap) (hm : cap ≤ maxLen)
    (h : ∀ r, r < cap → w.cell? (a.add r) = some (.slice (A r) (L r) (C r)) ∧ L r ≤ C r ∧ C r ≤ maxLen ∧ (Z r).length = C r ∧ (∀ n ∈ Z r, (Lit.int .i64 n).wf = true) ∧ (A r = none → C r = 0) ∧
      ∀ a', A r = some a' → base ≤ a'.block ∧ ∀ c, c < C r → w.cell? (a'.add c) = some (.int .i64 ((Z r).getD c 0))) :
    ∃ xss : List (List Int), xss.length = len ∧ RdR w (some a) len xss ∧ len ≤ cap ∧ len ≤ 9223372036854775807 ∧ ∀ k, k < len → (xss.getD k []).length ≤ 9223372036854775807 := by
  have hrow : ∀ r, r < cap → Rd w (A r) (L r) (iv ((Z r).take (L r))) ∧ ((Z r).take (L r)).length = L r := by
    intro r hr
    obtain ⟨_, h1, h2, h3, h4, h5, h6⟩ := h r hr
    have : ∃ xs : List Int, xs = (Z r).take (L r) := ⟨_, rfl⟩
    refine ⟨?_, by simp; omega⟩
    refine ⟨by simp [iv]; omega, fun hn => ?_⟩
    cases hA : A r with
    | none => have := h5 hA; omega
    | some x =>
      obtain ⟨_, hc⟩ := h6 x hA
      refine ⟨x, rfl, ?_, fun j u hu => ?_⟩
      · have := World.block_lt_of_cell? w _ (hc 0 (by omega))
        rwa [add_block] at this
      · have hj : j < L r := by
          have := (List.getElem?_eq_some_iff.1 hu).1
          simp [iv] at this
          omega
        rw [hc j (by omega)]
        simp only [iv, List.getElem?_map, List.getElem?_take, hj, if_true, List.getD_eq_getElem?_getD] at hu ⊢
        cases hz : (Z r)[j]? with
        | none => simp [hz] at hu
        | some z => simp [hz] at hu ⊢; exact hu
  unfold maxLen at hm
  refine ⟨(List.range len).map fun r => (Z r).take (L r), by simp, ⟨(List.range len).map fun r => .slice (A r) (L r) (C r), by simp, ⟨by simp, fun hn => ⟨a, rfl, ?_, fun j u hu => ?_⟩⟩, fun k v hk => ?_⟩, hl, by omega, fun k hk => ?_⟩
  · have := World.block_lt_of_cell? w _ (h 0 (by omega)).1
    rwa [add_block] at this
  · have hj : j < len := by
      have := (List.getElem?_eq_some_iff.1 hu).1
      simpa using this
    simp [hj] at hu
    rw [← hu]
    exact (h j (by omega)).1
  · have hj : k < len := by
      have := (List.getElem?_eq_some_iff.1 hk).1
      simpa using this
    simp [hj] at hk
    subst hk
    obtain ⟨r1, r2⟩ := hrow k (by omega)
    simp only [List.getD_eq_getElem?_getD, List.getElem?_map, List.getElem?_range hj, Option.map_some, Option.getD_some]
    have := (h k (by omega)).2.1
    exact ⟨A k, C k, by rw [r2], by rw [r2]; exact r1, by rw [r2]; exact this⟩
  · simp only [List.getD_eq_getElem?_getD, List.getElem?_map, List.getElem?_range hk, Option.map_some, Option.getD_some]
    obtain ⟨_, r2⟩ := hrow k (by omega)
    have h2 := h k (by omega)
    have := h2.2.1
    have := h2.2.2.1
    unfold maxLen at this
    omega
end Go.Proofs.Ytpfaefflbjpllaa
