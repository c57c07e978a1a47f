/- The lists that never descend, in order: each is followed by the next one. Conditions: none, these are plain lemmas. -/
import Derived.Test.YthpboedpoipkcaaDivP
import Derived.Test.YthpboedpoipkcaaCmp
import Derived.Test.YthpboedpoipkcaaEq0
namespace Go.Proofs.Ythpboedpoipkcaa
open Go.ChangeShapes Go.WideShapes Go.ChangeAt Go.RowKit

def nxtL (m : Int) (xs : List Int) : Option (List Int) := bif nextB xs m then some (nextL xs m) else none
theorem npos_cons (g : Int) (t : List Int) (m : Int) (k : Nat) : npos (g :: t) m (k + 1) = match npos t m k with
    | 0 => if g < m then 1 else 0
    | j + 1 => j + 2 := by
  induction k with
  | zero => simp only [npos]; rfl
  | succ k ih =>
    rw [npos]
    have e : (g :: t).getD (k + 1) 0 = t.getD k 0 := by simp [List.getD]
    rw [e, ih]
    by_cases h : t.getD k 0 < m
    · rw [if_pos h]
      simp only [npos, if_pos h]
    · rw [if_neg h]
      simp only [npos, if_neg h]
theorem nxt_cons (g : Int) (t : List Int) (m : Int) : nxtL m (g :: t) = match nxtL m t with
    | some t' => some (g :: t')
    | none => if g < m then some (List.replicate (t.length + 1) (g + 1)) else none := by
  unfold nxtL nextB nextL
  rw [show (g :: t).length = t.length + 1 from rfl, npos_cons]
  cases h : npos t m t.length with
  | zero =>
    by_cases hg : g < m
    · simp [hg, List.getD]
    · simp [hg]
  | succ j =>
    simp [List.getD]
/-- each list is followed by the next one, the last one by e -/
def ChE (m : Int) : List (List Int) → Option (List Int) → Prop
  | [], _ => False
  | [x], e => nxtL m x = e
  | x :: y :: L, e => nxtL m x = some y ∧ ChE m (y :: L) e
theorem ChE.append {m : Int} {y : List Int} {L2 : List (List Int)} {e : Option (List Int)} (h2 : ChE m (y :: L2) e) : ∀ L1, ChE m L1 (some y) → ChE m (L1 ++ y :: L2) e
  | [], h => h.elim
  | [x], h => ⟨h, h2⟩
  | x :: z :: L, h => ⟨h.1, ChE.append h2 (z :: L) h.2⟩
theorem ChE.map {m : Int} (g : Int) {n : Nat} : ∀ L, (∀ q ∈ L, q.length = n) → ChE m L none → ChE m (L.map fun q => g :: q) (if g < m then some (List.replicate (n + 1) (g + 1)) else none)
  | [], _, h => h.elim
  | [x], hl, h => by
    show nxtL m (g :: x) = _
    rw [nxt_cons, show nxtL m x = none from h, hl x (by simp)]
  | x :: z :: L, hl, h => by
    refine ⟨?_, ChE.map g (z :: L) (fun q hq => hl q (by simp at hq ⊢; exact .inr hq)) h.2⟩
    show nxtL m (g :: x) = some (g :: z)
    rw [nxt_cons, h.1]
theorem ChE.at {m : Int} : ∀ L, ChE m L none → ∀ i, i < L.length → nxtL m (L.getD i []) = if i + 1 < L.length then some (L.getD (i + 1) []) else none
  | [], h, _, _ => h.elim
  | [x], h, i, hi => by
    obtain rfl : i = 0 := by simp at hi; omega
    exact h
  | x :: z :: L, h, 0, _ => by
    rw [if_pos (by simp)]
    exact h.1
  | x :: z :: L, h, i + 1, hi => by
    have := ChE.at (z :: L) h.2 i (by simp at hi ⊢; omega)
    have e1 : (x :: z :: L).getD (i + 1) [] = (z :: L).getD i [] := by simp [List.getD]
    have e2 : (x :: z :: L).getD (i + 1 + 1) [] = (z :: L).getD (i + 1) [] := by simp [List.getD]
    rw [e1, e2, this]
    by_cases h : i + 1 < (z :: L).length
    · rw [if_pos h, if_pos (by simp at h ⊢; omega)]
    · rw [if_neg h, if_neg (by simp at h ⊢; omega)]
theorem grow_head (m : Nat) : ∀ n f, f ≤ m → ∃ T, growL m n f = List.replicate n (f : Int) :: T
  | 0, _, _ => ⟨[], rfl⟩
  | n + 1, f, hf => by
    obtain ⟨T, hT⟩ := grow_head m n f hf
    rw [growL, show m + 1 - f = (m - f) + 1 by omega, List.range'_succ, List.flatMap_cons, hT]
    exact ⟨_, rfl⟩
/-- what each of the lists is -/
theorem grow_mem (m : Nat) : ∀ n f q, q ∈ growL m n f → q.length = n ∧ (∀ x ∈ q, (f : Int) ≤ x ∧ x ≤ (m : Int)) ∧ q.Pairwise (· ≤ ·)
  | 0, f, q, h => by
    simp [growL] at h
    subst h
    simp
  | n + 1, f, q, h => by
    simp only [growL, List.mem_flatMap, List.mem_map, List.mem_range'_1] at h
    obtain ⟨g, ⟨hg1, hg2⟩, t, ht, rfl⟩ := h
    obtain ⟨h1, h2, h3⟩ := grow_mem m n g t ht
    refine ⟨by simp [h1], fun x hx => ?_, List.pairwise_cons.2 ⟨fun x hx => (h2 x hx).1, h3⟩⟩
    rcases List.mem_cons.1 hx with rfl | hx
    · omega
    · have := h2 x hx
      omega
theorem grow_all (m n : Nat) (ih : ∀ f, f ≤ m → ChE m (growL m n f) none) : ∀ d f, d = m - f → f ≤ m → ChE m (growL m (n + 1) f) none
  | 0, f, hd, hf => by
    obtain rfl : f = m := by omega
    rw [growL, show f + 1 - f = 1 by omega]
    have h := ChE.map (f : Int) (n := n) _ (fun q hq => (grow_mem f n f q hq).1) (ih f hf)
    rw [if_neg (by omega)] at h
    simpa using h
  | d + 1, f, hd, hf => by
    have h2 := grow_all m n ih d (f + 1) (by omega) (by omega)
    obtain ⟨T, hT⟩ := grow_head m (n + 1) (f + 1) (by omega)
    have h1 := ChE.map (f : Int) (n := n) _ (fun q hq => (grow_mem m n f q hq).1) (ih f hf)
    rw [if_pos (by omega)] at h1
    have e : growL m (n + 1) f = ((growL m n f).map fun q => (f : Int) :: q) ++ growL m (n + 1) (f + 1) := by
      rw [growL, growL, show m + 1 - f = (m + 1 - (f + 1)) + 1 by omega, List.range'_succ, List.flatMap_cons]
    rw [e, hT]
    rw [hT] at h2
    refine ChE.append h2 _ ?_
    rw [show ((f + 1 : Nat) : Int) = (f : Int) + 1 by omega]
    exact h1
theorem grow_chain (m : Nat) : ∀ n f, f ≤ m → ChE m (growL m n f) none
  | 0, f, _ => by
    show nxtL m [] = none
    rfl
  | n + 1, f, hf => grow_all m n (grow_chain m n) (m - f) f rfl hf
theorem chain_gen {m n f : Nat} (hf : f ≤ m) : 0 < (growL m n f).length ∧ (growL m n f).getD 0 [] = List.replicate n (f : Int) ∧
    ∀ i, i < (growL m n f).length → nextB ((growL m n f).getD i []) m = decide (i + 1 < (growL m n f).length) ∧ (i + 1 < (growL m n f).length → nextL ((growL m n f).getD i []) m = (growL m n f).getD (i + 1) []) := by
  obtain ⟨T, hT⟩ := grow_head m n f hf
  refine ⟨by rw [hT]; simp, by rw [hT]; simp [List.getD], fun i hi => ?_⟩
  have h := ChE.at _ (grow_chain m n f hf) i hi
  unfold nxtL at h
  by_cases hlt : i + 1 < (growL m n f).length
  · rw [if_pos hlt] at h
    rw [decide_eq_true hlt]
    cases hb : nextB ((growL m n f).getD i []) m with
    | true =>
      rw [hb] at h
      exact ⟨rfl, fun _ => by injection h⟩
    | false => rw [hb] at h; cases h
  · rw [if_neg hlt] at h
    rw [decide_eq_false hlt]
    cases hb : nextB ((growL m n f).getD i []) m with
    | true => rw [hb] at h; cases h
    | false => exact ⟨rfl, fun h => absurd h hlt⟩
/-- a sorted list by its places -/
theorem sorted_at {q : List Int} (h : q.Pairwise (· ≤ ·)) {j : Nat} (hj : j < q.length) : q.getD 0 0 ≤ q.getD j 0 := by
  rcases Nat.eq_zero_or_pos j with e | e
  · subst e; exact Int.le_refl _
  · have := List.pairwise_iff_getElem.1 h 0 j (by omega) hj e
    simpa [List.getD, hj, show 0 < q.length by omega] using this
theorem getD_mem' {q : List Int} {j : Nat} (hj : j < q.length) : q.getD j 0 ∈ q := by simp [List.getD, hj]

/-- a first answer over the lists up to m + 1, where those with m + 1 have none -/
theorem findSome_flat {α β γ : Type} (G : β → Option γ) (h h' : α → List β) : ∀ l : List α, (∀ a ∈ l, (h a).findSome? G = (h' a).findSome? G) → (l.flatMap h).findSome? G = (l.flatMap h').findSome? G
  | [], _ => rfl
  | a :: l, hl => by
    rw [List.flatMap_cons, List.flatMap_cons, List.findSome?_append, List.findSome?_append, hl a (by simp), findSome_flat G h h' l (fun b hb => hl b (by simp [hb]))]
theorem grow_less {γ : Type} (m : Nat) : ∀ n f (G : List Int → Option γ), f ≤ m + 1 → (∀ q ∈ growL (m + 1) n f, ((m + 1 : Nat) : Int) ∈ q → G q = none) → (growL (m + 1) n f).findSome? G = (growL m n f).findSome? G
  | 0, _, _, _, _ => rfl
  | n + 1, f, G, hf, hG => by
    have e : growL (m + 1) (n + 1) f = ((List.range' f (m + 1 - f)).flatMap fun (g : Nat) => (growL (m + 1) n g).map fun q => (g : Int) :: q) ++ (growL (m + 1) n (m + 1)).map fun q => ((m + 1 : Nat) : Int) :: q := by
      rw [growL, show m + 1 + 1 - f = (m + 1 - f) + 1 by omega, List.range'_concat, List.flatMap_append]
      simp [show f + (m + 1 - f) = m + 1 by omega]
    have h2 : ((growL (m + 1) n (m + 1)).map fun q => ((m + 1 : Nat) : Int) :: q).findSome? G = none := by
      rw [List.findSome?_eq_none_iff]
      intro q hq
      refine hG q ?_ ?_
      · rw [e]; exact List.mem_append_right _ hq
      · obtain ⟨t, -, rfl⟩ := List.mem_map.1 hq
        simp
    rw [e, List.findSome?_append, h2, Option.or_none, growL]
    refine findSome_flat G _ _ _ fun g hg => ?_
    rw [List.mem_range'_1] at hg
    rw [List.findSome?_map, List.findSome?_map]
    refine grow_less m n g _ (by omega) fun q hq hm => ?_
    refine hG ((g : Int) :: q) ?_ (List.mem_cons_of_mem _ hm)
    rw [e]
    refine List.mem_append_left _ (List.mem_flatMap.2 ⟨g, List.mem_range'_1.2 hg, List.mem_map.2 ⟨q, hq, rfl⟩⟩)
/-- a die with so great a face divides nothing -/
theorem divP_big {fs want : List Int} (hf : ∃ j, j < fs.length ∧ want.length ≤ (fs.getD j 0).toNat + 1) : ∀ k s, divP fs want k = some s → s.2 = [] ∧ s.1.length = want.length
  | 0, s, h => by cases h; exact ⟨rfl, rfl⟩
  | k + 1, s, h => by
    rw [divP] at h
    cases hk : divP fs want k with
    | none => rw [hk] at h; cases h
    | some t =>
      rw [hk] at h
      have h : stepP fs k t = some s := h
      obtain ⟨h1, h2⟩ := divP_big hf k t hk
      unfold stepP at h
      by_cases h0 : t.1.getD k 0 = 0
      · rw [if_pos h0] at h
        injection h with h
        subst h
        exact ⟨h1, h2⟩
      · rw [if_neg h0] at h
        by_cases hc : t.1.getD k 0 < 0 ∨ t.1.getD k 0 % (cntE fs fs.length : Nat) ≠ 0 ∨ k < (fs.getD 0 0).toNat + 1 ∨ fs.length < t.2.length + (t.1.getD k 0 / (cntE fs fs.length : Nat)).toNat ∨ fitB t.1.length (k - (fs.getD 0 0).toNat) fs = false
        · rw [if_pos hc] at h; cases h
        · exfalso
          obtain ⟨j, hj, hj2⟩ := hf
          refine hc (.inr (.inr ?_))
          by_cases hk : k < (fs.getD 0 0).toNat + 1
          · exact .inl hk
          · refine .inr (.inr (fitB_no hj ?_))
            rw [h2]
            omega
theorem divR_big {fs want : List Int} (h1 : 0 < fs.length) (hf : ∃ j, j < fs.length ∧ want.length ≤ (fs.getD j 0).toNat + 1) : divR fs want = none := by
  unfold divR
  cases h : divP fs want want.length with
  | none => rfl
  | some s =>
    show endP fs s = none
    unfold endP
    rw [(divP_big hf _ s h).1, if_neg (by simp; omega)]
/-- the other pair that a die is the first one of -/
def pairX (d want x : List Int) : Option (List Int × List Int) :=
  match divR x want with
  | some y => bif !befL y x && !(eqL x d && eqL y d) then some (x, y) else none
  | none => none
end Go.Proofs.Ythpboedpoipkcaa
