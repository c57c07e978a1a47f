/- Plain facts on the growth, further tables: the logarithms, and the growth at the best share. Conditions: none. -/
import Derived.Test.YtjeaiihgedennaaGrownP
namespace Go.Proofs.Ytjeaiihgedennaa
open Ieee Go.ChangeShapes Go.WideShapes Go.ChangeAt Go.RowKit

theorem gX_tab0 : ∀ k : Fin 16, lgN (X1 (gC k) (gO 0)) = gX 0 k := by decide +kernel
theorem gX_tab1 : ∀ k : Fin 16, lgN (X1 (gC k) (gO 1)) = gX 1 k := by decide +kernel
theorem gX_tab2 : ∀ k : Fin 16, lgN (X1 (gC k) (gO 2)) = gX 2 k := by decide +kernel
theorem gX_tab3 : ∀ k : Fin 16, lgN (X1 (gC k) (gO 3)) = gX 3 k := by decide +kernel
theorem gX_tab4 : ∀ k : Fin 16, lgN (X1 (gC k) (gO 4)) = gX 4 k := by decide +kernel
theorem gX_tab5 : ∀ k : Fin 16, lgN (X1 (gC k) (gO 5)) = gX 5 k := by decide +kernel
theorem gX_tab6 : ∀ k : Fin 16, lgN (X1 (gC k) (gO 6)) = gX 6 k := by decide +kernel
theorem gX_tab7 : ∀ k : Fin 16, lgN (X1 (gC k) (gO 7)) = gX 7 k := by decide +kernel
theorem gX_tab8 : ∀ k : Fin 16, lgN (X1 (gC k) (gO 8)) = gX 8 k := by decide +kernel
theorem gX_tab9 : ∀ k : Fin 16, lgN (X1 (gC k) (gO 9)) = gX 9 k := by decide +kernel
theorem gX_tab10 : ∀ k : Fin 16, lgN (X1 (gC k) (gO 10)) = gX 10 k := by decide +kernel
theorem gX_tab11 : ∀ k : Fin 16, lgN (X1 (gC k) (gO 11)) = gX 11 k := by decide +kernel
theorem gX_tab12 : ∀ k : Fin 16, lgN (X1 (gC k) (gO 12)) = gX 12 k := by decide +kernel
theorem gX_tab13 : ∀ k : Fin 16, lgN (X1 (gC k) (gO 13)) = gX 13 k := by decide +kernel
theorem gX_tab14 : ∀ k : Fin 16, lgN (X1 (gC k) (gO 14)) = gX 14 k := by decide +kernel
theorem gX_tab15 : ∀ k : Fin 16, lgN (X1 (gC k) (gO 15)) = gX 15 k := by decide +kernel
theorem gX_tab {j k : Nat} (hj : j < 16) (hk : k < 16) : lgN (X1 (gC k) (gO j)) = gX j k := by
  have e : ∀ f : Nat → Prop, f 0 → f 1 → f 2 → f 3 → f 4 → f 5 → f 6 → f 7 → f 8 → f 9 → f 10 → f 11 → f 12 → f 13 → f 14 → f 15 → f j := fun f h0 h1 h2 h3 h4 h5 h6 h7 h8 h9 h10 h11 h12 h13 h14 h15 => by
    rcases j with _ | _ | _ | _ | _ | _ | _ | _ | _ | _ | _ | _ | _ | _ | _ | _ | _
    · exact h0
    · exact h1
    · exact h2
    · exact h3
    · exact h4
    · exact h5
    · exact h6
    · exact h7
    · exact h8
    · exact h9
    · exact h10
    · exact h11
    · exact h12
    · exact h13
    · exact h14
    · exact h15
    · omega
  exact e (fun j => lgN (X1 (gC k) (gO j)) = gX j k) (gX_tab0 ⟨k, hk⟩) (gX_tab1 ⟨k, hk⟩) (gX_tab2 ⟨k, hk⟩) (gX_tab3 ⟨k, hk⟩) (gX_tab4 ⟨k, hk⟩) (gX_tab5 ⟨k, hk⟩) (gX_tab6 ⟨k, hk⟩) (gX_tab7 ⟨k, hk⟩) (gX_tab8 ⟨k, hk⟩) (gX_tab9 ⟨k, hk⟩) (gX_tab10 ⟨k, hk⟩) (gX_tab11 ⟨k, hk⟩) (gX_tab12 ⟨k, hk⟩) (gX_tab13 ⟨k, hk⟩) (gX_tab14 ⟨k, hk⟩) (gX_tab15 ⟨k, hk⟩)
end Go.Proofs.Ytjeaiihgedennaa
