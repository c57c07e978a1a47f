/- Plain facts on the growth, further tables: the last comparison. Conditions: none. -/
import Derived.Test.YtjeaiihgedennaaGrownP
namespace Go.Proofs.Ytjeaiihgedennaa
open Ieee Go.ChangeShapes Go.WideShapes Go.ChangeAt Go.RowKit

theorem g8_tab0 : ∀ j : Fin 16, ∀ k : Fin 16, chk8 (gC 0) (gB 0 j) (gM 0 j) (gX j k) (gY k) = true := by decide +kernel
theorem g8_tab1 : ∀ j : Fin 16, ∀ k : Fin 16, chk8 (gC 1) (gB 1 j) (gM 1 j) (gX j k) (gY k) = true := by decide +kernel
theorem g8_tab2 : ∀ j : Fin 16, ∀ k : Fin 16, chk8 (gC 2) (gB 2 j) (gM 2 j) (gX j k) (gY k) = true := by decide +kernel
theorem g8_tab3 : ∀ j : Fin 16, ∀ k : Fin 16, chk8 (gC 3) (gB 3 j) (gM 3 j) (gX j k) (gY k) = true := by decide +kernel
theorem g8_tab4 : ∀ j : Fin 16, ∀ k : Fin 16, chk8 (gC 4) (gB 4 j) (gM 4 j) (gX j k) (gY k) = true := by decide +kernel
theorem g8_tab5 : ∀ j : Fin 16, ∀ k : Fin 16, chk8 (gC 5) (gB 5 j) (gM 5 j) (gX j k) (gY k) = true := by decide +kernel
theorem g8_tab6 : ∀ j : Fin 16, ∀ k : Fin 16, chk8 (gC 6) (gB 6 j) (gM 6 j) (gX j k) (gY k) = true := by decide +kernel
theorem g8_tab7 : ∀ j : Fin 16, ∀ k : Fin 16, chk8 (gC 7) (gB 7 j) (gM 7 j) (gX j k) (gY k) = true := by decide +kernel
theorem g8_tab8 : ∀ j : Fin 16, ∀ k : Fin 16, chk8 (gC 8) (gB 8 j) (gM 8 j) (gX j k) (gY k) = true := by decide +kernel
theorem g8_tab9 : ∀ j : Fin 16, ∀ k : Fin 16, chk8 (gC 9) (gB 9 j) (gM 9 j) (gX j k) (gY k) = true := by decide +kernel
theorem g8_tab10 : ∀ j : Fin 16, ∀ k : Fin 16, chk8 (gC 10) (gB 10 j) (gM 10 j) (gX j k) (gY k) = true := by decide +kernel
theorem g8_tab11 : ∀ j : Fin 16, ∀ k : Fin 16, chk8 (gC 11) (gB 11 j) (gM 11 j) (gX j k) (gY k) = true := by decide +kernel
theorem g8_tab12 : ∀ j : Fin 16, ∀ k : Fin 16, chk8 (gC 12) (gB 12 j) (gM 12 j) (gX j k) (gY k) = true := by decide +kernel
theorem g8_tab13 : ∀ j : Fin 16, ∀ k : Fin 16, chk8 (gC 13) (gB 13 j) (gM 13 j) (gX j k) (gY k) = true := by decide +kernel
theorem g8_tab14 : ∀ j : Fin 16, ∀ k : Fin 16, chk8 (gC 14) (gB 14 j) (gM 14 j) (gX j k) (gY k) = true := by decide +kernel
theorem g8_tab15 : ∀ j : Fin 16, ∀ k : Fin 16, chk8 (gC 15) (gB 15 j) (gM 15 j) (gX j k) (gY k) = true := by decide +kernel
theorem g8_tab16 : ∀ j : Fin 16, ∀ k : Fin 16, chk8 (gC 16) (gB 16 j) (gM 16 j) (gX j k) (gY k) = true := by decide +kernel
theorem g8_tab {i j k : Nat} (hi : i < 17) (hj : j < 16) (hk : k < 16) : chk8 (gC i) (gB i j) (gM i j) (gX j k) (gY k) = true := by
  have e : ∀ f : Nat → Prop, f 0 → f 1 → f 2 → f 3 → f 4 → f 5 → f 6 → f 7 → f 8 → f 9 → f 10 → f 11 → f 12 → f 13 → f 14 → f 15 → f 16 → f i := fun f h0 h1 h2 h3 h4 h5 h6 h7 h8 h9 h10 h11 h12 h13 h14 h15 h16 => by
    rcases i with _ | _ | _ | _ | _ | _ | _ | _ | _ | _ | _ | _ | _ | _ | _ | _ | _ | _
    · exact h0
    · exact h1
    · exact h2
    · exact h3
    · exact h4
    · exact h5
    · exact h6
    · exact h7
    · exact h8
    · exact h9
    · exact h10
    · exact h11
    · exact h12
    · exact h13
    · exact h14
    · exact h15
    · exact h16
    · omega
  exact e (fun i => chk8 (gC i) (gB i j) (gM i j) (gX j k) (gY k) = true) (g8_tab0 ⟨j, hj⟩ ⟨k, hk⟩) (g8_tab1 ⟨j, hj⟩ ⟨k, hk⟩) (g8_tab2 ⟨j, hj⟩ ⟨k, hk⟩) (g8_tab3 ⟨j, hj⟩ ⟨k, hk⟩) (g8_tab4 ⟨j, hj⟩ ⟨k, hk⟩) (g8_tab5 ⟨j, hj⟩ ⟨k, hk⟩) (g8_tab6 ⟨j, hj⟩ ⟨k, hk⟩) (g8_tab7 ⟨j, hj⟩ ⟨k, hk⟩) (g8_tab8 ⟨j, hj⟩ ⟨k, hk⟩) (g8_tab9 ⟨j, hj⟩ ⟨k, hk⟩) (g8_tab10 ⟨j, hj⟩ ⟨k, hk⟩) (g8_tab11 ⟨j, hj⟩ ⟨k, hk⟩) (g8_tab12 ⟨j, hj⟩ ⟨k, hk⟩) (g8_tab13 ⟨j, hj⟩ ⟨k, hk⟩) (g8_tab14 ⟨j, hj⟩ ⟨k, hk⟩) (g8_tab15 ⟨j, hj⟩ ⟨k, hk⟩) (g8_tab16 ⟨j, hj⟩ ⟨k, hk⟩)
end Go.Proofs.Ytjeaiihgedennaa
