/- Plain facts on the values of heaps: what is least that can not be left, and when a move wins. Conditions: what is stated. -/
import Derived.Test.YtajpieblbijciaaHeap
import Derived.Test.YtajpieblbijciaaSplit
import Derived.Test.YtajpieblbijciaaR8
namespace Go.Proofs.Ytajpieblbijciaa
open Go.ChangeShapes Go.WideShapes Go.ChangeAt Go.RowKit

theorem mex_least (xs : List Int) (n : Nat) : (∀ j, j < n → hasI xs (j : Int) = true) ∨ ∃ k, k < n ∧ hasI xs (k : Int) = false ∧ ∀ j, j < k → hasI xs (j : Int) = true := by
  induction n with
  | zero => exact .inl fun j hj => absurd hj (by omega)
  | succ n ih =>
    rcases ih with h | ⟨k, h1, h2, h3⟩
    · cases hq : hasI xs (n : Int) with
      | true =>
        refine .inl fun j hj => ?_
        by_cases e : j = n
        · subst e; exact hq
        · exact h j (by omega)
      | false => exact .inr ⟨n, by omega, hq, h⟩
    · exact .inr ⟨k, by omega, h2, h3⟩
theorem mex_spec (xs : List Int) : hasI xs (mex xs : Int) = false ∧ (∀ j, j < mex xs → hasI xs (j : Int) = true) ∧ mex xs ≤ xs.length := by
  rcases mex_least xs (xs.length + 1) with h | ⟨k, _, h2, h3⟩
  · have := mex_room h
    omega
  · have e := mex_eq h3 h2
    rw [e]
    exact ⟨h2, h3, mex_room h3⟩
theorem getD_app {α : Type} (xs : List α) (y d : α) (j : Nat) : (xs ++ [y]).getD j d = if j < xs.length then xs.getD j d else if j = xs.length then y else d := by
  by_cases h : j < xs.length
  · simp [List.getD, h, List.getElem?_append]
  · rw [if_neg h]
    by_cases e : j = xs.length
    · subst e; simp [List.getD]
    · rw [if_neg e]
      simp [List.getD, List.getElem?_append, h, show ¬ j - xs.length = 0 by omega]
theorem tv_get (ms : List Int) {K j : Nat} (h : j < K) : (tvTo ms K).getD j 0 = (mex (tvL ms (tvTo ms j) j ms.length) : Int) := by
  induction K with
  | zero => omega
  | succ K ih =>
    rw [tvTo, getD_app, tvTo_len]
    by_cases e : j < K
    · rw [if_pos e, ih e]
    · have : j = K := by omega
      subst this
      rw [if_neg e, if_pos rfl]
theorem tv_eq (ms : List Int) {K K' j : Nat} (h : j < K) (h' : j < K') : (tvTo ms K).getD j 0 = (tvTo ms K').getD j 0 := by rw [tv_get ms h, tv_get ms h']
theorem tvL_same {ms : List Int} {K k : Nat} (hk : k ≤ K) (hp : ∀ m ∈ ms, 1 ≤ m) (i : Nat) : tvL ms (tvTo ms K) k i = tvL ms (tvTo ms k) k i := by
  unfold tvL
  refine List.map_congr_left fun m hm => ?_
  have h1 := hp m (List.mem_of_mem_take (List.mem_filter.1 hm).1)
  have h2 := (List.mem_filter.1 hm).2
  simp only [decide_eq_true_eq] at h2
  exact tv_eq ms (by omega) (by omega)
theorem tv_mex {ms : List Int} {K k : Nat} (hk : k < K) (hp : ∀ m ∈ ms, 1 ≤ m) : (tvTo ms K).getD k 0 = (mex (tvL ms (tvTo ms K) k ms.length) : Int) := by
  rw [tv_get ms hk, tvL_same (K := K) (by omega) hp]
theorem sv_get {K j : Nat} (h : j < K) : (svTo K).getD j 0 = (mex (svT (svTo j) j 2) : Int) := by
  induction K with
  | zero => omega
  | succ K ih =>
    rw [svTo, getD_app, svTo_len]
    by_cases e : j < K
    · rw [if_pos e, ih e]
    · have : j = K := by omega
      subst this
      rw [if_neg e, if_pos rfl]
theorem sv_eq {K K' j : Nat} (h : j < K) (h' : j < K') : (svTo K).getD j 0 = (svTo K').getD j 0 := by rw [sv_get h, sv_get h']
theorem svR_same {K k t i : Nat} (hk : k ≤ K) (ht : 1 ≤ t) (hi : i ≤ k) (hit : i + t ≤ k + 1) : svR (svTo K) k t i = svR (svTo k) k t i := by
  unfold svR
  refine List.map_congr_left fun a ha => ?_
  have ha := List.mem_range.1 ha
  rw [sv_eq (K := K) (K' := k) (by omega) (by omega), sv_eq (K := K) (K' := k) (j := k - t - a) (by omega) (by omega)]
theorem svT_two (out : List Int) (k : Nat) : svT out k 2 = svR out k 1 k ++ svR out k 2 (k - 1) := by simp [svT]
theorem svT_same {K k : Nat} (hk : k ≤ K) : svT (svTo K) k 2 = svT (svTo k) k 2 := by
  rw [svT_two, svT_two, svR_same hk (by omega) (by omega) (by omega)]
  by_cases h0 : k = 0
  · subst h0; rfl
  · rw [svR_same hk (by omega) (by omega) (by omega)]
theorem sv_mex {K k : Nat} (hk : k < K) : (svTo K).getD k 0 = (mex (svT (svTo K) k 2) : Int) := by
  rw [sv_get hk, svT_same (K := K) (by omega)]
/-- what splits leave, in the law's order -/
def spX (rows : List Int) (k t i : Nat) : Int := bits .xor .i64 (rows.getD i 0) (rows.getD (k - t - i) 0)
def spL (rows : List Int) (k : Nat) : Nat → List Int
  | 0 => []
  | i + 1 => if i + 1 < k then spL rows k i ++ [spX rows k 1 i] ++ [spX rows k 2 i] else spL rows k i ++ [spX rows k 1 i]
theorem spL_mem (rows : List Int) (k : Nat) (v : Int) (i : Nat) : v ∈ spL rows k i ↔ ((∃ a, a < i ∧ v = spX rows k 1 a) ∨ ∃ a, a < i ∧ a + 1 < k ∧ v = spX rows k 2 a) := by
  induction i with
  | zero => simp [spL]
  | succ i ih =>
    have e1 : (∃ a, a < i + 1 ∧ v = spX rows k 1 a) ↔ ((∃ a, a < i ∧ v = spX rows k 1 a) ∨ v = spX rows k 1 i) := by
      constructor
      · rintro ⟨a, h, e⟩
        by_cases h2 : a = i
        · subst h2; exact .inr e
        · exact .inl ⟨a, by omega, e⟩
      · rintro (⟨a, h, e⟩ | e)
        · exact ⟨a, by omega, e⟩
        · exact ⟨i, by omega, e⟩
    have e2 : (∃ a, a < i + 1 ∧ a + 1 < k ∧ v = spX rows k 2 a) ↔ ((∃ a, a < i ∧ a + 1 < k ∧ v = spX rows k 2 a) ∨ (i + 1 < k ∧ v = spX rows k 2 i)) := by
      constructor
      · rintro ⟨a, h, h3, e⟩
        by_cases h2 : a = i
        · subst h2; exact .inr ⟨h3, e⟩
        · exact .inl ⟨a, by omega, h3, e⟩
      · rintro (⟨a, h, h3, e⟩ | ⟨h3, e⟩)
        · exact ⟨a, by omega, h3, e⟩
        · exact ⟨i, by omega, h3, e⟩
    rw [e1, e2, spL]
    by_cases h : i + 1 < k
    · rw [if_pos h, List.mem_append, List.mem_append, ih, List.mem_singleton, List.mem_singleton]
      simp only [h, true_and]
      constructor
      · rintro (((h | h) | h) | h)
        · exact .inl (.inl h)
        · exact .inr (.inl h)
        · exact .inl (.inr h)
        · exact .inr (.inr h)
      · rintro ((h | h) | (h | h))
        · exact .inl (.inl (.inl h))
        · exact .inl (.inr h)
        · exact .inl (.inl (.inr h))
        · exact .inr h
    · rw [if_neg h, List.mem_append, ih, List.mem_singleton]
      simp only [h, false_and, or_false]
      constructor
      · rintro ((h | h) | h)
        · exact .inl (.inl h)
        · exact .inr h
        · exact .inl (.inr h)
      · rintro ((h | h) | h)
        · exact .inl (.inl h)
        · exact .inr h
        · exact .inl (.inr h)
theorem spL_has (rows : List Int) (k : Nat) (v : Int) : hasI (spL rows k k) v = hasI (svT rows k 2) v := by
  unfold hasI
  refine decide_eq_decide.2 ?_
  rw [spL_mem, svT_two, List.mem_append]
  unfold svR
  simp only [List.mem_map, List.mem_range]
  constructor
  · rintro (⟨a, h, e⟩ | ⟨a, h, h2, e⟩)
    · exact .inl ⟨a, h, e.symm⟩
    · exact .inr ⟨a, by omega, e.symm⟩
  · rintro (⟨a, h, e⟩ | ⟨a, h, e⟩)
    · exact .inl ⟨a, h, e.symm⟩
    · exact .inr ⟨a, by omega, by omega, e.symm⟩
theorem spL_len (rows : List Int) (k i : Nat) : (spL rows k i).length ≤ 2 * i := by
  induction i with
  | zero => simp [spL]
  | succ i ih =>
    rw [spL]
    split <;> simp <;> omega

/-- the finite heart: with small values, an exclusive or that is not nought can be made nought by lowering one of them -/
def xr (vs : List Nat) : Int := vs.foldl (fun (a : Int) (v : Nat) => bits .xor .i64 a (v : Int)) 0
def nimB (vs : List Nat) : Bool := decide (xr vs = 0) || (List.range vs.length).any fun i => (List.range (vs.getD i 0)).any fun y => decide (bits .xor .i64 (bits .xor .i64 (xr vs) ((vs.getD i 0 : Nat) : Int)) (y : Int) = 0)
theorem nim1 : ∀ a : Fin 5, nimB [a] = true := by decide +kernel
theorem nim2 : ∀ a b : Fin 5, nimB [a, b] = true := by decide +kernel
theorem nim3 : ∀ a b c : Fin 5, nimB [a, b, c] = true := by decide +kernel
theorem nim4 : ∀ a b c d : Fin 5, nimB [a, b, c, d] = true := by decide +kernel
theorem nim0 : ∀ v y : Fin 5, bits .xor .i64 (bits .xor .i64 0 ((v : Nat) : Int)) ((y : Nat) : Int) = 0 → y = v := by decide +kernel
theorem nim_all {vs : List Nat} (h1 : 1 ≤ vs.length) (h4 : vs.length ≤ 4) (hs : ∀ v ∈ vs, v < 5) : nimB vs = true := by
  match vs, h1, h4, hs with
  | [a], _, _, hs => exact nim1 ⟨a, hs a (by simp)⟩
  | [a, b], _, _, hs => exact nim2 ⟨a, hs a (by simp)⟩ ⟨b, hs b (by simp)⟩
  | [a, b, c], _, _, hs => exact nim3 ⟨a, hs a (by simp)⟩ ⟨b, hs b (by simp)⟩ ⟨c, hs c (by simp)⟩
  | [a, b, c, d], _, _, hs => exact nim4 ⟨a, hs a (by simp)⟩ ⟨b, hs b (by simp)⟩ ⟨c, hs c (by simp)⟩ ⟨d, hs d (by simp)⟩
theorem hm_cases (vals : List Int) (all : Int) (hs ms : List Int) : (∀ a, a < hs.length → ∀ b, b < ms.length → hmHit vals all (hs.getD a 0) (ms.getD b 0) = false) ∨
    ∃ a b, a < hs.length ∧ b < ms.length ∧ hmHit vals all (hs.getD a 0) (ms.getD b 0) = true ∧ hmFind vals all hs ms = ((a : Int), ms.getD b 0, true) := by
  by_cases hlt : (List.range (hs.length * ms.length)).findIdx (fun t : Nat => hmHit vals all (hs.getD (t / ms.length) 0) (ms.getD (t % ms.length) 0)) < hs.length * ms.length
  · right
    have hM : 0 < ms.length := by
      rcases Nat.eq_zero_or_pos ms.length with h0 | h0
      · rw [h0] at hlt; omega
      · exact h0
    have hp := List.findIdx_getElem (xs := List.range (hs.length * ms.length)) (p := fun t : Nat => hmHit vals all (hs.getD (t / ms.length) 0) (ms.getD (t % ms.length) 0)) (w := by simpa using hlt)
    simp only [List.getElem_range] at hp
    generalize hT : (List.range (hs.length * ms.length)).findIdx (fun t : Nat => hmHit vals all (hs.getD (t / ms.length) 0) (ms.getD (t % ms.length) 0)) = t at *
    refine ⟨t / ms.length, t % ms.length, (Nat.div_lt_iff_lt_mul hM).2 hlt, Nat.mod_lt t hM, hp, ?_⟩
    unfold hmFind
    rw [hT]
    simp only [hlt, if_true]
  · left
    intro a ha b hb
    cases hq : hmHit vals all (hs.getD a 0) (ms.getD b 0) with
    | false => rfl
    | true =>
      exfalso
      refine hlt ?_
      have hl := hm_lt ha hb
      obtain ⟨hd, hm⟩ := hm_div (i := a) hb
      have := List.findIdx_lt_length_of_exists (xs := List.range (hs.length * ms.length)) (p := fun t : Nat => hmHit vals all (hs.getD (t / ms.length) 0) (ms.getD (t % ms.length) 0)) ⟨a * ms.length + b, by simpa using hl, by simp only [hd, hm]; exact hq⟩
      simpa using this
end Go.Proofs.Ytajpieblbijciaa
