/- Contracts of markDie and heldDie. Conditions: lengths at most 2^20. -/
import Derived.Test.YtjeaiihgedennaaDieM
import Derived.Test.YtjeaiihgedennaaVM
namespace Go.Proofs.Ytjeaiihgedennaa
open Go.ChangeShapes Go.WideShapes Go.ChangeAt Go.RowKit

theorem Own.alloc {w : World} {lo hi : Nat} {v : Value} {xs : List Int} (h : Own w lo hi v xs) (o : Obj) : Own (w.alloc o) lo hi v xs := h.below ((Below.refl _ _).alloc (Nat.le_refl _) _)
theorem Kept.of_alloc (lo hi : Nat) (w : World) (o : Obj) : Kept lo hi w (w.alloc o) := Kept.below ((Below.refl _ _).alloc (Nat.le_refl _) _) (Nat.le_refl _)
theorem Kept.cell {lo hi b : Nat} {w w' : World} {v : Value} (h : Kept lo hi w w') (hc : w.cell? ⟨b, 0, none⟩ = some v) (hb : b < w.heap.size) (hd : b < lo ∨ hi ≤ b) : w'.cell? ⟨b, 0, none⟩ = some v := by
  rw [← hc]
  simp only [World.cell?]
  rw [h.block b hb hd]
theorem bcell1 {W w1 : World} {B b : Nat} {v : Value} (hb : Below B W w1) (h : W.cell? ⟨b, 0, none⟩ = some v) (hlt : b < B) : w1.cell? ⟨b, 0, none⟩ = some v := (hb.cell (p := ⟨b, 0, none⟩) hlt).trans h
theorem dcell (w : World) (v : Value) (t : TypeId) : (w.alloc (.cells #[v] t)).cell? ⟨w.heap.size, 0, none⟩ = some v := by
  rw [World.cell?_alloc_at _ _ _ _ rfl]; rfl

end Go.Proofs.Ytjeaiihgedennaa
