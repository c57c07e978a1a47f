/- Plain facts on the growth, further tables: the best share's growth. Conditions: none. -/
import Derived.Test.YtjeaiihgedennaaGrownP
namespace Go.Proofs.Ytjeaiihgedennaa
open Ieee Go.ChangeShapes Go.WideShapes Go.ChangeAt Go.RowKit

theorem gM_tab0 : ∀ j : Fin 16, (single.order (gB 0 j) 1065353216 == some .lt) = false ∨ RGrowthOf (gC 0) (gO j) (gB 0 j) = (gM 0 j, true) := by decide +kernel
theorem gM_tab1 : ∀ j : Fin 16, (single.order (gB 1 j) 1065353216 == some .lt) = false ∨ RGrowthOf (gC 1) (gO j) (gB 1 j) = (gM 1 j, true) := by decide +kernel
theorem gM_tab2 : ∀ j : Fin 16, (single.order (gB 2 j) 1065353216 == some .lt) = false ∨ RGrowthOf (gC 2) (gO j) (gB 2 j) = (gM 2 j, true) := by decide +kernel
theorem gM_tab3 : ∀ j : Fin 16, (single.order (gB 3 j) 1065353216 == some .lt) = false ∨ RGrowthOf (gC 3) (gO j) (gB 3 j) = (gM 3 j, true) := by decide +kernel
theorem gM_tab4 : ∀ j : Fin 16, (single.order (gB 4 j) 1065353216 == some .lt) = false ∨ RGrowthOf (gC 4) (gO j) (gB 4 j) = (gM 4 j, true) := by decide +kernel
theorem gM_tab5 : ∀ j : Fin 16, (single.order (gB 5 j) 1065353216 == some .lt) = false ∨ RGrowthOf (gC 5) (gO j) (gB 5 j) = (gM 5 j, true) := by decide +kernel
theorem gM_tab6 : ∀ j : Fin 16, (single.order (gB 6 j) 1065353216 == some .lt) = false ∨ RGrowthOf (gC 6) (gO j) (gB 6 j) = (gM 6 j, true) := by decide +kernel
theorem gM_tab7 : ∀ j : Fin 16, (single.order (gB 7 j) 1065353216 == some .lt) = false ∨ RGrowthOf (gC 7) (gO j) (gB 7 j) = (gM 7 j, true) := by decide +kernel
theorem gM_tab8 : ∀ j : Fin 16, (single.order (gB 8 j) 1065353216 == some .lt) = false ∨ RGrowthOf (gC 8) (gO j) (gB 8 j) = (gM 8 j, true) := by decide +kernel
theorem gM_tab9 : ∀ j : Fin 16, (single.order (gB 9 j) 1065353216 == some .lt) = false ∨ RGrowthOf (gC 9) (gO j) (gB 9 j) = (gM 9 j, true) := by decide +kernel
theorem gM_tab10 : ∀ j : Fin 16, (single.order (gB 10 j) 1065353216 == some .lt) = false ∨ RGrowthOf (gC 10) (gO j) (gB 10 j) = (gM 10 j, true) := by decide +kernel
theorem gM_tab11 : ∀ j : Fin 16, (single.order (gB 11 j) 1065353216 == some .lt) = false ∨ RGrowthOf (gC 11) (gO j) (gB 11 j) = (gM 11 j, true) := by decide +kernel
theorem gM_tab12 : ∀ j : Fin 16, (single.order (gB 12 j) 1065353216 == some .lt) = false ∨ RGrowthOf (gC 12) (gO j) (gB 12 j) = (gM 12 j, true) := by decide +kernel
theorem gM_tab13 : ∀ j : Fin 16, (single.order (gB 13 j) 1065353216 == some .lt) = false ∨ RGrowthOf (gC 13) (gO j) (gB 13 j) = (gM 13 j, true) := by decide +kernel
theorem gM_tab14 : ∀ j : Fin 16, (single.order (gB 14 j) 1065353216 == some .lt) = false ∨ RGrowthOf (gC 14) (gO j) (gB 14 j) = (gM 14 j, true) := by decide +kernel
theorem gM_tab15 : ∀ j : Fin 16, (single.order (gB 15 j) 1065353216 == some .lt) = false ∨ RGrowthOf (gC 15) (gO j) (gB 15 j) = (gM 15 j, true) := by decide +kernel
theorem gM_tab16 : ∀ j : Fin 16, (single.order (gB 16 j) 1065353216 == some .lt) = false ∨ RGrowthOf (gC 16) (gO j) (gB 16 j) = (gM 16 j, true) := by decide +kernel
theorem gM_tab {i j : Nat} (hi : i < 17) (hj : j < 16) : (single.order (gB i j) 1065353216 == some .lt) = false ∨ RGrowthOf (gC i) (gO j) (gB i j) = (gM i j, true) := by
  have e : ∀ f : Nat → Prop, f 0 → f 1 → f 2 → f 3 → f 4 → f 5 → f 6 → f 7 → f 8 → f 9 → f 10 → f 11 → f 12 → f 13 → f 14 → f 15 → f 16 → f i := fun f h0 h1 h2 h3 h4 h5 h6 h7 h8 h9 h10 h11 h12 h13 h14 h15 h16 => by
    rcases i with _ | _ | _ | _ | _ | _ | _ | _ | _ | _ | _ | _ | _ | _ | _ | _ | _ | _
    · exact h0
    · exact h1
    · exact h2
    · exact h3
    · exact h4
    · exact h5
    · exact h6
    · exact h7
    · exact h8
    · exact h9
    · exact h10
    · exact h11
    · exact h12
    · exact h13
    · exact h14
    · exact h15
    · exact h16
    · omega
  exact e (fun i => (single.order (gB i j) 1065353216 == some .lt) = false ∨ RGrowthOf (gC i) (gO j) (gB i j) = (gM i j, true)) (gM_tab0 ⟨j, hj⟩) (gM_tab1 ⟨j, hj⟩) (gM_tab2 ⟨j, hj⟩) (gM_tab3 ⟨j, hj⟩) (gM_tab4 ⟨j, hj⟩) (gM_tab5 ⟨j, hj⟩) (gM_tab6 ⟨j, hj⟩) (gM_tab7 ⟨j, hj⟩) (gM_tab8 ⟨j, hj⟩) (gM_tab9 ⟨j, hj⟩) (gM_tab10 ⟨j, hj⟩) (gM_tab11 ⟨j, hj⟩) (gM_tab12 ⟨j, hj⟩) (gM_tab13 ⟨j, hj⟩) (gM_tab14 ⟨j, hj⟩) (gM_tab15 ⟨j, hj⟩) (gM_tab16 ⟨j, hj⟩)
end Go.Proofs.Ytjeaiihgedennaa
