/- append of a whole slice of integers onto a row of the call's own. Conditions: lengths at most 2^20. -/
import Derived.Test.YthpboedpoipkcaaVal
namespace Go.Proofs.Ythpboedpoipkcaa
open Go.ChangeShapes Go.WideShapes Go.ChangeAt Go.RowKit

theorem run_app_nil {w : World} {lo n : Nat} {v : Value} {xs : List Value} (hown : w.ownsRow lo 2 1 v n xs) (ty : TypeId) (c : Nat) :
    (Builtin.append_ #[22, 22] ty #[v, .slice none 0 c]).run Try.prog w = .ok v w := by
  obtain ⟨i0, hi, hz0, hz1, hz2⟩ := info_parts info_i64
  rcases hown.2 with ⟨rfl, rfl⟩ | ⟨g, cap, cur, rfl, _, _, hnc, _⟩
  · simp [Builtin.append_, run_underlying Try.underlying22, sizeOf, typeInfo, hi, Builtin.lenOf, Builtin.firstCells]
  · simp [Builtin.append_, run_underlying Try.underlying22, sizeOf, typeInfo, hi, Builtin.lenOf, Builtin.firstCells, hnc, storeCells]

set_option maxRecDepth 4000 in
/-- 'append(out, ys...)' -/
theorem appR {w : World} {ops : Array Oper} {rest : List Oper} {o : Oper} {a : Act} {Q : Exit → Act → World → Prop} {lo m c : Nat} {A : Option Addr} {v : Value} {xs ys : List Int}
    (hown : OwnL w lo v xs) (hr : Rd w A m (iv ys)) (hn : xs.length + m ≤ 1048576 * 4) (hlo : lo ≤ w.heap.size) (hgd : o.guard = none) {s x : Operand}
    (ho : o.op = .call { callee := .builtin .append, args := #[s, x], argTypes := #[22, 22] })
    (hs : a.eval s = v) (hx : a.eval x = .slice A m c)
    (h : ∀ v' w', OwnL w' lo v' (xs ++ ys) → w.grownBy w' v.ownBlock → (v'.ownBlock = v.ownBlock ∨ v'.ownBlock = some w.heap.size) → wpList Try.prog ops Q rest (a.put o.dst v') w') :
    wpList Try.prog ops Q (o :: rest) a w := by
  have hl := hr.len
  rcases A with _ | ad
  · have hm : m = 0 := by
      rcases Nat.eq_zero_or_pos m with h0 | h0
      · exact h0
      · obtain ⟨ad, e, _⟩ := hr.2 h0
        cases e
    subst hm
    have hy : ys = [] := List.eq_nil_of_length_eq_zero hl
    subst hy
    refine wpList_plain hgd fun K hK => ?_
    have hrun := run_app_nil hown o.type c
    unfold Oper.wp
    simp [execOp, ho, resolve, invoke, builtin, hs, hx, hrun, Result.andThen]
    exact hK _ _ (h v w (by simpa using hown) (World.grownBy.refl w _) (.inl rfl))
  · obtain ⟨i0, hi, hz0, hz1, hz2⟩ := info_parts info_i64
    refine wpList_append_own_at _ hgd s x 22 ho lo 2 i0 (.int .i64 0) 1 8 Try.underlying22 hi hz0 hz1 hz2 rfl (by decide) v xs.length (iv xs) hs hown ad m c (iv ys) hx (by simpa using hl) ?_ (iv_one ys) ?_ ?_ hlo ?_
    · intro j u hj
      rcases Nat.eq_zero_or_pos m with h0 | h0
      · subst h0
        have hy : ys = [] := List.eq_nil_of_length_eq_zero hl
        subst hy
        simp at hj
      · obtain ⟨ad', e, _, hc⟩ := hr.2 h0
        injection e with e
        subst e
        exact hc j u hj
    · unfold maxLen; omega
    · omega
    · intro v' w' h1 h2 _ h4
      refine h v' w' ?_ h2 h4
      unfold OwnL
      rw [List.length_append, hl, show iv (xs ++ ys) = iv xs ++ iv ys from List.map_append]
      exact h1

end Go.Proofs.Ythpboedpoipkcaa
