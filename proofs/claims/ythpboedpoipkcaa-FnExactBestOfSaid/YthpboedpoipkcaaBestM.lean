/- Contract of spec.BestOf. Conditions: what is stated. -/
import Derived.Test.YthpboedpoipkcaaBestL
import Derived.Test.YthpboedpoipkcaaBestV
namespace Go.Proofs.Ythpboedpoipkcaa
open Go.ChangeShapes Go.WideShapes Go.ChangeAt Go.RowKit

theorem list_getD_memD {yss : List (List Int)} {y : List Int} (h : y ∈ yss) : ∃ i, i < yss.length ∧ yss.getD i [] = y := by
  obtain ⟨i, hi, e⟩ := List.getElem_of_mem h
  exact ⟨i, hi, by simp [List.getD, hi, e]⟩
theorem sBestOf (v : Value) (xss : List (List Int)) (kp : Int) (w : World) (hv : RVR w v xss) (ht : tot xss ≤ 1048576) (_ : (Lit.int .i64 kp).wf = true) :
    Calls Try.prog 52 #[v, .int .i64 kp] w fun e w' => ∃ r, e = .returned (.tuple #[r, .int .i64 (RBestOf xss kp).2.1, .bool (RBestOf xss kp).2.2]) ∧ Own w' w.heap.size w'.heap.size r (RBestOf xss kp).1 ∧ Below w.heap.size w w' := by
  obtain ⟨A, c, rfl, hr, _⟩ := hv
  cases hq : boOk xss kp with
  | true =>
    obtain ⟨hD, hK, hT⟩ := boOk_of hq
    rw [inB_iff] at hK
    obtain ⟨k, rfl⟩ : ∃ k : Nat, kp = (k : Int) := ⟨kp.toNat, by omega⟩
    obtain ⟨hn1, hn6, hdie⟩ := diceB_of hD
    have e : RBestOf xss (k : Int) = (boRow xss k, (waysL xss : Int), true) := by
      unfold RBestOf
      rw [if_pos hq]
      rfl
    have hsp : spW (bestN k) xss (waysL xss) = boRow xss k := by
      unfold boRow
      exact spW_runC (fun D hD' => by
        obtain ⟨i, hi, e⟩ := list_getD_memD hD'
        have := dieB_len (hdie i hi)
        rw [← e]
        omega) (fun t h => prod_best hdie k h) (last_prod hdie) rfl
    rw [e, ← hsp]
    exact sBestT A _ c k xss w hr hq
  | false =>
    have e : RBestOf xss kp = ([], 0, false) := by
      unfold RBestOf
      rw [hq]
      rfl
    rw [e]
    exact (sBestF A _ c xss kp w hr (Nat.le_trans (tot_len xss) ht) (fun k hk => Nat.le_trans (tot_row hk) ht) hq).mono fun e w' ⟨h1, h2⟩ => ⟨_, h1, Own.nil _ _ _, h2⟩
theorem RBestOf_len0 (xss : List (List Int)) (kp : Int) : (RBestOf xss kp).1.length ≤ 1048576 := by
  unfold RBestOf
  split
  · rename_i h
    obtain ⟨hD, hK, -⟩ := boOk_of h
    rw [inB_iff] at hK
    obtain ⟨-, hn6, -⟩ := diceB_of hD
    show (boRow xss kp.toNat).length ≤ 1048576
    unfold boRow
    rw [runC_len, List.length_replicate]
    have := bestN_le kp.toNat (lastL xss)
    omega
  · exact Nat.zero_le _
end Go.Proofs.Ythpboedpoipkcaa
