/- All throws of some dice, and how often each number comes: plain facts. Conditions: none, these are plain lemmas. -/
import Derived.Test.YthpboedpoipkcaaBestP
namespace Go.Proofs.Ythpboedpoipkcaa
open Go.ChangeShapes Go.WideShapes Go.ChangeAt Go.RowKit

/-- all throws, the last die fastest -/
def prodL : List (List Int) → List (List Int)
  | [] => [[]]
  | D :: Ds => D.flatMap fun d => (prodL Ds).map fun t => d :: t
/-- the throw of a number, the first die fastest -/
def digT : List (List Int) → Nat → List Int
  | [], _ => []
  | D :: Ds, w => D.getD (w % D.length) 0 :: digT Ds (w / D.length)
def waysL : List (List Int) → Nat
  | [] => 1
  | D :: Ds => D.length * waysL Ds
def sumP (P : List Int → Nat) : List (List Int) → Nat
  | [] => 0
  | t :: T => P t + sumP P T
theorem sumP_append (P : List Int → Nat) (A B : List (List Int)) : sumP P (A ++ B) = sumP P A + sumP P B := by
  induction A with
  | nil => simp [sumP]
  | cons t A ih => simp only [List.cons_append, sumP, ih]; omega
theorem sumP_map (P : List Int → Nat) (d : Int) (A : List (List Int)) : sumP P (A.map fun t => d :: t) = sumP (fun t => P (d :: t)) A := by
  induction A with
  | nil => rfl
  | cons t A ih => simp only [List.map_cons, sumP, ih]
theorem sN_cons (g : Int → Nat) (x : Int) (xs : List Int) : sN (fun r => g ((x :: xs).getD r 0)) (x :: xs).length = g x + sN (fun r => g (xs.getD r 0)) xs.length := by
  rw [show (x :: xs).length = 1 + xs.length by simp; omega, sN_more]
  have h1 : sN (fun r => g ((x :: xs).getD r 0)) 1 = g x := by simp [sN]
  rw [h1]
  congr 1
  refine sN_congr fun r _ => ?_
  rw [show 1 + r = r + 1 by omega]
  simp [List.getD]
theorem sumP_flat (P : List Int → Nat) (h : Int → List (List Int)) : ∀ D : List Int, sumP P (D.flatMap h) = sN (fun r => sumP P (h (D.getD r 0))) D.length
  | [] => rfl
  | d :: D => by rw [List.flatMap_cons, sumP_append, sN_cons (fun x => sumP P (h x)), sumP_flat P h D]
/-- both orders throw the same -/
theorem dig_prod : ∀ (dice : List (List Int)) (P : List Int → Nat), (∀ D ∈ dice, 0 < D.length) → sN (fun w => P (digT dice w)) (waysL dice) = sumP P (prodL dice)
  | [], P, _ => by simp [sN, waysL, prodL, sumP, digT]
  | D :: Ds, P, h => by
    have h0 := h D (by simp)
    rw [waysL, sN_blocks, prodL, sumP_flat]
    have e : ∀ q, q < waysL Ds → sN (fun r => P (digT (D :: Ds) (D.length * q + r))) D.length = sN (fun r => P (D.getD r 0 :: digT Ds q)) D.length := fun q _ => sN_congr fun r hr => by
      rw [digT, Nat.mul_add_mod, Nat.mod_eq_of_lt hr, Nat.mul_add_div h0, Nat.div_eq_of_lt hr, Nat.add_zero]
    rw [sN_congr e, sN_swap]
    refine sN_congr fun r _ => ?_
    rw [sumP_map]
    exact dig_prod Ds (fun t => P (D.getD r 0 :: t)) (fun D' h' => h D' (by simp [h']))
theorem prod_mem : ∀ {dice : List (List Int)} {t : List Int}, t ∈ prodL dice → t.length = dice.length ∧ ∀ i, i < dice.length → t.getD i 0 ∈ dice.getD i []
  | [], t, h => by
    simp [prodL] at h
    subst h
    exact ⟨rfl, fun i hi => by simp at hi⟩
  | D :: Ds, t, h => by
    simp only [prodL, List.mem_flatMap, List.mem_map] at h
    obtain ⟨d, hd, t', ht', rfl⟩ := h
    obtain ⟨h1, h2⟩ := prod_mem ht'
    refine ⟨by simp [h1], fun i hi => ?_⟩
    rcases i with _ | i
    · simpa [List.getD] using hd
    · have := h2 i (by simpa using hi)
      simpa [List.getD] using this
theorem prod_of : ∀ {dice : List (List Int)} {t : List Int}, t.length = dice.length → (∀ i, i < dice.length → t.getD i 0 ∈ dice.getD i []) → t ∈ prodL dice
  | [], [], _, _ => by simp [prodL]
  | [], _ :: _, h, _ => by simp at h
  | _ :: _, [], h, _ => by simp at h
  | D :: Ds, d :: t, h, hm => by
    simp only [prodL, List.mem_flatMap, List.mem_map]
    refine ⟨d, by simpa [List.getD] using hm 0 (by simp), t, prod_of (by simpa using h) (fun i hi => ?_), rfl⟩
    have := hm (i + 1) (by simpa using hi)
    simpa [List.getD] using this
theorem sumP_zero {P : List Int → Nat} : ∀ {T : List (List Int)}, (∀ t ∈ T, P t = 0) → sumP P T = 0
  | [], _ => rfl
  | t :: T, h => by simp only [sumP]; rw [h t (by simp), sumP_zero (fun u hu => h u (by simp [hu]))]
theorem sumP_pos {P : List Int → Nat} : ∀ {T : List (List Int)} {t : List Int}, t ∈ T → 0 < P t → 0 < sumP P T
  | [], _, h, _ => by simp at h
  | u :: T, t, h, hp => by
    simp only [sumP]
    rcases List.mem_cons.1 h with e | h
    · subst e; omega
    · have := sumP_pos h hp; omega
theorem sN_pos {f : Nat → Nat} {n : Nat} (h : 0 < sN f n) : ∃ i, i < n ∧ 0 < f i := by
  induction n with
  | zero => simp [sN] at h
  | succ n ih =>
    simp only [sN] at h
    by_cases e : 0 < f n
    · exact ⟨n, by omega, e⟩
    · obtain ⟨i, hi, h2⟩ := ih (by omega)
      exact ⟨i, by omega, h2⟩
theorem sN_none {f : Nat → Nat} {n : Nat} (h : sN f n = 0) : ∀ i, i < n → f i = 0 := by
  induction n with
  | zero => intro i hi; omega
  | succ n ih =>
    simp only [sN] at h
    intro i hi
    by_cases e : i = n
    · subst e; omega
    · exact ih (by omega) i (by omega)
/-- one more at the number of each throw -/
def runC (b : List Int → Nat) (T : List (List Int)) (c : List Int) : List Int := T.foldl (fun c t => bmp c (b t) 1) c
def ind (b : List Int → Nat) (s : Nat) (t : List Int) : Nat := if b t = s then 1 else 0
theorem runC_append (b : List Int → Nat) (A B : List (List Int)) (c : List Int) : runC b (A ++ B) c = runC b B (runC b A c) := by simp [runC, List.foldl_append]
theorem runC_len (b : List Int → Nat) : ∀ (T : List (List Int)) (c : List Int), (runC b T c).length = c.length
  | [], _ => rfl
  | t :: T, c => by
    show (runC b T (bmp c (b t) 1)).length = c.length
    rw [runC_len b T]
    simp [bmp]
theorem bmp_at (xs : List Int) (j k : Nat) (x : Int) (hj : j < xs.length) : (bmp xs j x).getD k 0 = if k = j then xs.getD j 0 + x else xs.getD k 0 := by
  unfold bmp
  by_cases e : k = j
  · subst e
    simp [List.getD, hj]
  · rw [if_neg e]
    simp [List.getD, List.getElem?_set_ne (fun h => e h.symm)]
theorem runC_get (b : List Int → Nat) (s : Nat) : ∀ (T : List (List Int)) (c : List Int), (∀ t ∈ T, b t < c.length) → (runC b T c).getD s 0 = c.getD s 0 + (sumP (ind b s) T : Nat)
  | [], c, _ => by simp [runC, sumP]
  | t :: T, c, h => by
    show (runC b T (bmp c (b t) 1)).getD s 0 = _
    have ht := h t (by simp)
    rw [runC_get b s T _ (fun u hu => by rw [show (bmp c (b t) 1).length = c.length by simp [bmp]]; exact h u (by simp [hu])), bmp_at _ _ _ _ ht]
    simp only [sumP, ind]
    by_cases e : b t = s
    · rw [if_pos e.symm, if_pos e, e]; omega
    · rw [if_neg (fun h => e h.symm), if_neg e]; omega
/-- the list grown so that it has place s -/
def growC (c : List Int) (s : Nat) : List Int := c ++ List.replicate (s + 1 - c.length) 0
theorem growC_len (c : List Int) (s : Nat) : (growC c s).length = max c.length (s + 1) := by simp [growC]; omega
theorem growC_get (c : List Int) (s k : Nat) : (growC c s).getD k 0 = c.getD k 0 := by
  unfold growC
  by_cases h : k < c.length
  · simp [List.getD, List.getElem?_append_left h]
  · simp only [List.getD, List.getElem?_append_right (show c.length ≤ k by omega), List.getElem?_replicate]
    rw [List.getElem?_eq_none (by omega)]
    split <;> rfl
def spW (b : List Int → Nat) (dice : List (List Int)) : Nat → List Int
  | 0 => []
  | w + 1 => bmp (growC (spW b dice w) (b (digT dice w))) (b (digT dice w)) 1
theorem spW_facts (b : List Int → Nat) (dice : List (List Int)) (w : Nat) : (∀ s, (spW b dice w).getD s 0 = (sN (fun i => ind b s (digT dice i)) w : Nat)) ∧ (∀ i, i < w → b (digT dice i) < (spW b dice w).length) ∧ (0 < (spW b dice w).length → ∃ i, i < w ∧ b (digT dice i) + 1 = (spW b dice w).length) := by
  induction w with
  | zero => exact ⟨fun s => by simp [spW, sN], fun i hi => by omega, fun h => by simp [spW] at h⟩
  | succ w ih =>
    obtain ⟨h1, h2, h3⟩ := ih
    have hl : (spW b dice (w + 1)).length = max (spW b dice w).length (b (digT dice w) + 1) := by
      rw [spW, show ∀ (xs : List Int) (j : Nat) (x : Int), (bmp xs j x).length = xs.length from fun xs j x => by simp [bmp], growC_len]
    refine ⟨fun s => ?_, fun i hi => ?_, fun _ => ?_⟩
    · rw [spW, bmp_at _ _ _ _ (by rw [growC_len]; omega), growC_get, growC_get, h1, h1]
      simp only [sN, ind]
      by_cases e : b (digT dice w) = s
      · rw [if_pos e.symm, if_pos e, e]; omega
      · rw [if_neg (fun h => e h.symm), if_neg e]; omega
    · rw [hl]
      by_cases e : i = w
      · subst e; omega
      · have := h2 i (by omega); omega
    · rw [hl]
      by_cases e : (spW b dice w).length ≤ b (digT dice w) + 1
      · exact ⟨w, by omega, by omega⟩
      · obtain ⟨i, hi, h4⟩ := h3 (by omega)
        exact ⟨i, by omega, by omega⟩
/-- both ways of counting come to the same -/
theorem spW_runC {b : List Int → Nat} {dice : List (List Int)} {M : Nat} {tm : List Int} (hd : ∀ D ∈ dice, 0 < D.length) (hM : ∀ t ∈ prodL dice, b t ≤ M) (htm : tm ∈ prodL dice) (hb : b tm = M) : spW b dice (waysL dice) = runC b (prodL dice) (List.replicate (M + 1) 0) := by
  obtain ⟨h1, h2, h3⟩ := spW_facts b dice (waysL dice)
  have hz : ∀ i, i < waysL dice → b (digT dice i) ≤ M := fun i hi => by
    have h := dig_prod dice (fun t => if M < b t then 1 else 0) hd
    rw [sumP_zero (fun t ht => by have := hM t ht; rw [if_neg (by omega)])] at h
    have := sN_none h i hi
    split at this
    · omega
    · omega
  have hp : ∃ i, i < waysL dice ∧ b (digT dice i) = M := by
    have h := dig_prod dice (ind b M) hd
    have hpos := sumP_pos (P := ind b M) htm (by simp [ind, hb])
    rw [← h] at hpos
    obtain ⟨i, hi, hi2⟩ := sN_pos hpos
    refine ⟨i, hi, ?_⟩
    simp only [ind] at hi2
    split at hi2
    · assumption
    · omega
  obtain ⟨i0, hi0, hb0⟩ := hp
  have hlen : (spW b dice (waysL dice)).length = M + 1 := by
    have g1 := h2 i0 hi0
    obtain ⟨i, hi, g2⟩ := h3 (by omega)
    have := hz i hi
    omega
  have hlr : (runC b (prodL dice) (List.replicate (M + 1) 0)).length = M + 1 := by rw [runC_len]; simp
  refine List.ext_getElem (by omega) fun s g1 g2 => ?_
  have e1 := h1 s
  have e2 := runC_get b s (prodL dice) (List.replicate (M + 1) 0) (fun t ht => by have := hM t ht; simp; omega)
  rw [dig_prod dice (ind b s) hd] at e1
  have e3 : (List.replicate (M + 1) (0 : Int)).getD s 0 = 0 := by simp [List.getD, List.getElem?_replicate]; split <;> rfl
  rw [e3, Int.zero_add, ← e1] at e2
  simpa [List.getD, g1, g2] using e2.symm
end Go.Proofs.Ythpboedpoipkcaa
