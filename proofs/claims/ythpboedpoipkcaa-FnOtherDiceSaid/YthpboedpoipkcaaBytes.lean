/- Slices of bytes that came in. Conditions: none. -/
import Derived.Test.YthpboedpoipkcaaLib
namespace Go.Proofs.Ythpboedpoipkcaa
open Go.ChangeShapes Go.WideShapes Go.ChangeAt Go.RowKit

def uv (xs : List Int) : List Value := xs.map fun x => .int .u8 x
/-- the slice (A, n, _) reads as the bytes xs -/
def RdU (w : World) (A : Option Addr) (n : Nat) (xs : List Int) : Prop := Rd w A n (uv xs) ∧ ∀ k, k < n → 0 ≤ xs.getD k 0 ∧ xs.getD k 0 ≤ 255
theorem RdU.below {w w' : World} {n : Nat} {A : Option Addr} {xs : List Int} (h : RdU w A n xs) (hb : Below w.heap.size w w') : RdU w' A n xs := ⟨h.1.below hb, h.2⟩
theorem RdU.at {w : World} {n : Nat} {A : Option Addr} {xs : List Int} (h : RdU w A n xs) {k : Nat} (hk : k < n) :
    ∃ ad, A = some ad ∧ ad.block < w.heap.size ∧ w.cell? (ad.add k) = some (.int .u8 (xs.getD k 0)) ∧ 0 ≤ xs.getD k 0 ∧ xs.getD k 0 ≤ 255 := by
  obtain ⟨ad, u, e, hb, hu, hc⟩ := h.1.at hk
  have hl : k < xs.length := by have := h.1.1; simp [uv] at this; omega
  have : u = .int .u8 (xs.getD k 0) := by
    simp [uv, hl] at hu
    rw [← hu]
    simp [List.getD, hl]
  subst this
  exact ⟨ad, e, hb, hc, h.2 k hk⟩
theorem rdU_of_row {w : World} {a : Option Addr} {len cap : Nat} {zs : List Int}
    (h : (a = none ∧ len = 0 ∧ cap = 0 ∧ zs = []) ∨ ∃ x, a = some x ∧ len ≤ cap ∧ cap ≤ maxLen ∧ zs.length = cap ∧ (∀ i, i < zs.length → w.cell? (x.add i) = some (.int .u8 (zs.getD i 0))) ∧ ∀ n ∈ zs, (Lit.int .u8 n).wf = true) :
    ∃ xs : List Int, xs.length = len ∧ RdU w a len xs ∧ len ≤ cap ∧ len ≤ 9223372036854775807 := by
  rcases h with ⟨rfl, rfl, rfl, rfl⟩ | ⟨x, rfl, hl, hm, hz, hc, hw⟩
  · exact ⟨[], rfl, ⟨Rd.nil _ _, fun k hk => absurd hk (by omega)⟩, Nat.le_refl _, by omega⟩
  · unfold maxLen at hm
    refine ⟨zs.take len, by simp; omega, ⟨⟨by simp [uv]; omega, fun hn => ⟨x, rfl, ?_, fun j u hu => ?_⟩⟩, fun k hk => ?_⟩, hl, by omega⟩
    · have := World.block_lt_of_cell? w _ (hc 0 (by omega))
      rwa [add_block] at this
    · have hj : j < len := by
        have := (List.getElem?_eq_some_iff.1 hu).1
        simp [uv] at this
        omega
      have hj2 : j < zs.length := by omega
      rw [hc j hj2, ← hu]
      simp [uv, List.getElem?_take, hj, hj2, List.getD]
    · have hk2 : k < zs.length := by omega
      have e : (zs.take len).getD k 0 = zs[k] := by simp [List.getD, List.getElem?_take, hk, hk2]
      rw [e]
      have h2 := hw _ (List.getElem_mem hk2)
      simp only [Lit.wf, Bool.and_eq_true, decide_eq_true_eq] at h2
      have e1 : IntKind.u8.min = 0 := by decide
      have e2 : IntKind.u8.max = 255 := by decide
      rw [e1, e2] at h2
      exact h2
end Go.Proofs.Ythpboedpoipkcaa
