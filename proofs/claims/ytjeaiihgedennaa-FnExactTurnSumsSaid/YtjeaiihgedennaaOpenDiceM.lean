/- How a slice of dice that came in is opened. Conditions: none. -/
import Derived.Test.YtjeaiihgedennaaOpenDieM
import Derived.ChangeSame
namespace Go.Proofs.Ytjeaiihgedennaa
open Go.ChangeShapes Go.WideShapes Go.ChangeAt Go.RowKit Go.Joins Go.Deep

section
variable {H : Type} {enc : TypeId × Value → H} {w : World} {base : Nat}
theorem open_aggc {P : Program} {spare : Nat → Bool} {held : Bool} {t : TypeId} {f0 : Field} {n : Nat} {v : Value} {y : DataW H × List MemPlace} (hs : P.underlying t = some (.struct #[f0])) (hone : oneCellFields P #[f0] = true)
    (h : DataW.trod enc P w base spare held n t [v] = some y) : ∃ y0 n', DataW.trod enc P w base spare held n' f0.type [v] = some y0 := by
  obtain ⟨y0, n', _, _, hx⟩ := trod_struct1 hs h
  obtain ⟨o0, k0⟩ := hone_of hone 0 f0 rfl
  exact ⟨y0, n', by simpa [o0, k0] using hx⟩
theorem open_die1 {n : Nat} {v : Value} {y : DataW H × List MemPlace} (h : DataW.trod enc Try.prog w base (fun _ => true) true n 54 [v] = some y) :
    ∃ A m c, ∃ xs : List Int, v = .slice A m c ∧ xs.length = m ∧ Rd w A m (iv xs) ∧ m ≤ c ∧ m ≤ 9223372036854775807 := by
  obtain ⟨y0, n', hx⟩ := open_aggc Try.underlying54 (by kernel_rfl) h
  obtain ⟨A, m, c, xs, rfl, h1, h2, h3, h4, _⟩ := open_ints1 hx
  exact ⟨A, m, c, xs, rfl, h1, h2, h3, h4⟩
theorem open_dice {fuel : Nat} {cs : List Value} {x : DataW H × List MemPlace} (h : DataW.trod enc Try.prog w base (fun _ => true) true fuel 33 cs = some x) :
    ∃ a len cap, ∃ xss : List (List Int), cs = [.slice a len cap] ∧ xss.length = len ∧ RdR w a len xss ∧ len ≤ cap ∧ len ≤ 9223372036854775807 ∧ ∀ k, k < len → (xss.getD k []).length ≤ 9223372036854775807 := by
  rcases open_slice1 (e := 54) Try.underlying33 (by kernel_rfl) h with ⟨hcs, _⟩ | ⟨a, len, cap, m, n, V, D, Pl, rfl, hb, hl, hm, hmm, _, hx⟩
  · exact ⟨none, 0, 0, [], hcs, rfl, RdR.nil _ _, Nat.le_refl _, by omega, fun k hk => absurd hk (by omega)⟩
  · simp only [if_true] at hmm
    subst hmm
    have hm' := hm
    unfold maxLen at hm'
    have hV : ∀ i, ∃ q : Option Addr × Nat × Nat × List Int, i < m → w.cell? (a.add i) = some (.slice q.1 q.2.1 q.2.2.1) ∧ q.2.2.2.length = q.2.1 ∧ Rd w q.1 q.2.1 (iv q.2.2.2) ∧ q.2.1 ≤ q.2.2.1 ∧ q.2.1 ≤ 9223372036854775807 := by
      intro i
      by_cases hi : i < m
      · obtain ⟨h1, h2⟩ := hx i hi
        obtain ⟨A, m', c, xs, e, k1, k2, k3, k4⟩ := open_die1 h2
        exact ⟨(A, m', c, xs), fun _ => ⟨by rw [h1, e], k1, k2, k3, k4⟩⟩
      · exact ⟨(none, 0, 0, []), fun h => absurd h hi⟩
    obtain ⟨q, hq⟩ := Classical.axiomOfChoice hV
    refine ⟨some a, len, m, (List.range len).map fun i => (q i).2.2.2, rfl, by simp, ⟨(List.range len).map fun i => .slice (q i).1 (q i).2.1 (q i).2.2.1, by simp, ⟨by simp, fun hn => ⟨a, rfl, ?_, fun j u hu => ?_⟩⟩, fun k v hk => ?_⟩, hl, by omega, fun k hk => ?_⟩
    · have := World.block_lt_of_cell? w _ (hq 0 (by omega)).1
      rwa [add_block] at this
    · have hj : j < len := by
        have := (List.getElem?_eq_some_iff.1 hu).1
        simpa using this
      simp [hj] at hu
      rw [← hu]
      exact (hq j (by omega)).1
    · have hj : k < len := by
        have := (List.getElem?_eq_some_iff.1 hk).1
        simpa using this
      simp [hj] at hk
      subst hk
      obtain ⟨_, r2, r3, r4, _⟩ := hq k (by omega)
      simp only [List.getD_eq_getElem?_getD, List.getElem?_map, List.getElem?_range hj, Option.map_some, Option.getD_some]
      exact ⟨(q k).1, (q k).2.2.1, by rw [r2], by rw [r2]; exact r3, by rw [r2]; exact r4⟩
    · obtain ⟨_, r2, _, _, r5⟩ := hq k (by omega)
      simp only [List.getD_eq_getElem?_getD, List.getElem?_map, List.getElem?_range hk, Option.map_some, Option.getD_some]
      omega
end
end Go.Proofs.Ytjeaiihgedennaa
