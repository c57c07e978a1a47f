/- slices.Clone at []int64. Conditions: lengths at most 2^20. -/
import Derived.Test.YthpboedpoipkcaaApp
namespace Go.Proofs.Ythpboedpoipkcaa
open Go.ChangeShapes Go.WideShapes Go.ChangeAt Go.RowKit

set_option maxHeartbeats 400000 in
/-- slices.Clone: nil stays nil, else a copy -/
theorem libClone (v : Value) (xs : List Int) (w : World) (hv : RV w v xs) (hn : xs.length ≤ 1048576) :
    Calls Try.prog 73 #[v] w fun e w' => ∃ r, e = .returned r ∧ Own w' w.heap.size w'.heap.size r xs ∧ Below w.heap.size w w' := by
  obtain ⟨A, c, rfl, hr, hc⟩ := hv
  have q1 : ∀ (W : World) (B : Option Addr) (n k : Nat), (binOp .eql 22 (.slice B n k) (.slice none 0 0)).run Try.prog W = .ok (.bool B.isNone) W := fun W B n k => Lib.run_eql_slice_nil W _ _ B n k 0 0 Try.underlying22
  rcases A with _ | ad
  · have h0 : xs = [] := by
      rcases Nat.eq_zero_or_pos xs.length with h | h
      · exact List.eq_nil_of_length_eq_zero h
      · obtain ⟨ad, e, _⟩ := hr.2 h
        cases e
    subst h0
    go_enter Try.func73, Try.ntmps73
    go_wp2
    go_ret
    exact ⟨_, rfl, Own.nil _ _ _, Below.refl _ _⟩
  · have hl := hr.len
    have Hn := hide hn
    generalize hN : xs.length = n at *
    have HN := hide hN
    clear hN hl hn
    go_enter Try.func73, Try.ntmps73
    go_wp2_with (at_builtin; refine appR (OwnL.empty w #[] rfl (Nat.le_refl _)) (hr.alloc _) (by simp; have := Hn.out; omega) ((Below.refl w.heap.size w).alloc (Nat.le_refl _) _).size rfl rfl rfl rfl ?_; intro v' w3 ho3 hg3 hd3)
    go_ret
    refine ⟨_, rfl, ?_, ?_⟩
    · have := ho3.own
      simpa using this
    · exact ((Below.refl _ _).alloc (Nat.le_refl _) _).grown hg3 ((Below.refl w.heap.size w).alloc (Nat.le_refl _) _).size (fun k hk => by simp [Value.ownBlock] at hk; omega)
end Go.Proofs.Ythpboedpoipkcaa
