/- The best faces of a throw, and how often each sum is thrown: plain facts. Conditions: none, these are plain lemmas. -/
import Derived.Test.YthpboedpoipkcaaSumP
namespace Go.Proofs.Ythpboedpoipkcaa
open Go.ChangeShapes Go.WideShapes Go.ChangeAt Go.RowKit

/-- a sum over the numbers below n -/
def sN (f : Nat → Nat) : Nat → Nat
  | 0 => 0
  | n + 1 => sN f n + f n
theorem sN_add (f g : Nat → Nat) (n : Nat) : sN (fun i => f i + g i) n = sN f n + sN g n := by
  induction n with
  | zero => rfl
  | succ n ih => simp only [sN, ih]; omega
theorem sN_zero (n : Nat) : sN (fun _ => 0) n = 0 := by
  induction n with
  | zero => rfl
  | succ n ih => simp only [sN, ih]
theorem sN_congr {f g : Nat → Nat} {n : Nat} (h : ∀ i, i < n → f i = g i) : sN f n = sN g n := by
  induction n with
  | zero => rfl
  | succ n ih => simp only [sN]; rw [ih (fun i hi => h i (by omega)), h n (by omega)]
theorem sN_le {f g : Nat → Nat} {n : Nat} (h : ∀ i, i < n → f i ≤ g i) : sN f n ≤ sN g n := by
  induction n with
  | zero => exact Nat.le_refl _
  | succ n ih => simp only [sN]; have := ih (fun i hi => h i (by omega)); have := h n (by omega); omega
theorem sN_swap (P : Nat → Nat → Nat) (m n : Nat) : sN (fun a => sN (fun b => P a b) m) n = sN (fun b => sN (fun a => P a b) n) m := by
  induction n with
  | zero => simp only [sN, sN_zero]
  | succ n ih => simp only [sN, ih, sN_add]
theorem sN_more (f : Nat → Nat) (a b : Nat) : sN f (a + b) = sN f a + sN (fun r => f (a + r)) b := by
  induction b with
  | zero => rfl
  | succ b ih => rw [← Nat.add_assoc]; simp only [sN, ih]; omega
theorem sN_blocks (f : Nat → Nat) (n W : Nat) : sN f (n * W) = sN (fun q => sN (fun r => f (n * q + r)) n) W := by
  induction W with
  | zero => rfl
  | succ W ih => rw [Nat.mul_succ, sN_more, ih]; rfl
theorem sN_below (v n : Nat) (h : v ≤ n) : sN (fun t => if t < v then 1 else 0) n = v := by
  induction n with
  | zero => simp [sN]; omega
  | succ n ih =>
    simp only [sN]
    by_cases e : v ≤ n
    · rw [ih e, if_neg (by omega), Nat.add_zero]
    · have hv : v = n + 1 := by omega
      have h1 : sN (fun t => if t < v then 1 else 0) n = n := by
        rw [sN_congr (g := fun _ => 1) (fun i hi => if_pos (by omega))]
        clear ih h e hv
        induction n with
        | zero => rfl
        | succ n ih => simp only [sN, ih]
      rw [h1, if_pos (by omega)]
      omega

/-- how many of the numbers are greater than t -/
def cG (t : Int) : List Int → Nat
  | [] => 0
  | x :: xs => (if t < x then 1 else 0) + cG t xs
theorem cG_append (t : Int) (xs ys : List Int) : cG t (xs ++ ys) = cG t xs + cG t ys := by
  induction xs with
  | nil => simp [cG]
  | cons x xs ih => simp only [List.cons_append, cG, ih]; omega
theorem cG_perm {t : Int} {xs ys : List Int} (h : xs.Perm ys) : cG t xs = cG t ys := by
  induction h with
  | nil => rfl
  | cons x _ ih => simp only [cG, ih]
  | swap x y l => simp only [cG]; omega
  | trans _ _ ih1 ih2 => exact ih1.trans ih2
theorem cG_set (t : Int) : ∀ (xs : List Int) (i : Nat) (y : Int), i < xs.length → cG t (xs.set i y) + (if t < xs.getD i 0 then 1 else 0) = cG t xs + (if t < y then 1 else 0)
  | [], _, _, h => by simp at h
  | x :: xs, 0, y, _ => by
    show (if t < y then 1 else 0) + cG t xs + (if t < x then 1 else 0) = (if t < x then 1 else 0) + cG t xs + (if t < y then 1 else 0)
    omega
  | x :: xs, i + 1, y, h => by
    have ih := cG_set t xs i y (by simpa using h)
    have e : (x :: xs).getD (i + 1) 0 = xs.getD i 0 := by simp [List.getD]
    rw [e, List.set_cons_succ]
    simp only [cG]
    omega
theorem cG_zero {t : Int} {xs : List Int} (h : ∀ x ∈ xs, x ≤ t) : cG t xs = 0 := by
  induction xs with
  | nil => rfl
  | cons x xs ih => simp only [cG]; rw [ih (fun y hy => h y (by simp [hy])), if_neg (by have := h x (by simp); omega)]
theorem cG_pos {t : Int} {xs : List Int} {i : Nat} (hi : i < xs.length) (h : t < xs.getD i 0) : 1 ≤ cG t xs := by
  have h1 := cG_set t xs i t hi
  rw [if_pos h, if_neg (Int.lt_irrefl t)] at h1
  omega
theorem cG_all {t : Int} {xs : List Int} (h : ∀ x ∈ xs, t < x) : cG t xs = xs.length := by
  induction xs with
  | nil => rfl
  | cons x xs ih => simp only [cG]; rw [ih (fun y hy => h y (by simp [hy])), if_pos (h x (by simp))]; simp; omega
theorem cG_mono {t : Int} : ∀ {xs ys : List Int}, xs.length = ys.length → (∀ i, i < xs.length → xs.getD i 0 ≤ ys.getD i 0) → cG t xs ≤ cG t ys
  | [], _, _, _ => Nat.zero_le _
  | x :: xs, [], h, _ => by simp at h
  | x :: xs, y :: ys, h, hle => by
    have h0 : x ≤ y := hle 0 (by simp)
    have ih := cG_mono (t := t) (xs := xs) (ys := ys) (by simpa using h) (fun i hi => by have := hle (i + 1) (by simpa using hi); simpa [List.getD] using this)
    simp only [cG]
    by_cases e : t < x
    · rw [if_pos e, if_pos (by omega)]; omega
    · rw [if_neg e]; omega
/-- the sum of the k greatest of numbers from 0 to 20 -/
def bestN (k : Nat) (xs : List Int) : Nat := sN (fun t => min k (cG (t : Int) xs)) 20
theorem bestN_perm {k : Nat} {xs ys : List Int} (h : xs.Perm ys) : bestN k xs = bestN k ys := by
  unfold bestN
  exact sN_congr fun t _ => by rw [cG_perm h]
theorem bestN_mono {k : Nat} {xs ys : List Int} (h : xs.length = ys.length) (hle : ∀ i, i < xs.length → xs.getD i 0 ≤ ys.getD i 0) : bestN k xs ≤ bestN k ys := by
  unfold bestN
  exact sN_le fun t _ => by have := cG_mono (t := (t : Int)) h hle; omega
theorem bestN_zero (xs : List Int) : bestN 0 xs = 0 := by
  unfold bestN
  rw [sN_congr (g := fun _ => 0) (fun t _ => by omega), sN_zero]
/-- the greatest number goes first -/
theorem bestN_take {k v : Nat} {xs ys : List Int} (hv : v ≤ 20) (hmax : ∀ x ∈ xs, x ≤ (v : Int)) (hc : ∀ t : Nat, cG (t : Int) ys + (if (t : Int) < (v : Int) then 1 else 0) = cG (t : Int) xs) : bestN (k + 1) xs = v + bestN k ys := by
  unfold bestN
  have h1 : ∀ t : Nat, t < 20 → min (k + 1) (cG (t : Int) xs) = (if t < v then 1 else 0) + min k (cG (t : Int) ys) := fun t _ => by
    have h := hc t
    by_cases e : t < v
    · rw [if_pos (by omega)] at h
      rw [if_pos e]
      omega
    · rw [if_neg (by omega)] at h
      rw [if_neg e]
      have := cG_zero (t := (t : Int)) (xs := xs) (fun x hx => by have := hmax x hx; omega)
      omega
  rw [sN_congr h1, sN_add, sN_below v 20 hv]
theorem bestN_le (k : Nat) (xs : List Int) : bestN k xs ≤ 20 * k := by
  unfold bestN
  have h := sN_le (f := fun t => min k (cG (t : Int) xs)) (g := fun _ => k) (n := 20) (fun t _ => Nat.min_le_left _ _)
  have e : sN (fun _ => k) 20 = 20 * k := by simp only [sN]; omega
  omega
/-- sorted numbers: the last ones are the best -/
theorem bestN_sorted : ∀ (k : Nat) (ys : List Int), ys.Pairwise (· ≤ ·) → (∀ y ∈ ys, 0 ≤ y ∧ y ≤ 20) → k ≤ ys.length → sumL (ys.drop (ys.length - k)) = (bestN k ys : Int)
  | 0, ys, _, _, _ => by rw [bestN_zero, Nat.sub_zero, List.drop_length]; rfl
  | k + 1, ys, hs, hr, hk => by
    obtain ⟨zs, v, rfl⟩ : ∃ zs v, ys = zs ++ [v] := ⟨ys.dropLast, ys.getLast (by intro e; subst e; simp at hk), (List.dropLast_concat_getLast _).symm⟩
    rw [List.pairwise_append] at hs
    have hv := hr v (by simp)
    have ih := bestN_sorted k zs hs.1 (fun y hy => hr y (by simp [hy])) (by simp at hk; omega)
    have hlen : (zs ++ [v]).length = zs.length + 1 := by simp
    obtain ⟨m, rfl⟩ : ∃ m : Nat, v = (m : Int) := ⟨v.toNat, by omega⟩
    rw [bestN_take (v := m) (ys := zs) (by omega) (fun x hx => by
      rcases List.mem_append.1 hx with h | h
      · exact hs.2.2 x h _ (by simp)
      · simp at h; omega) (fun t => by rw [cG_append]; simp [cG])]
    rw [hlen, show zs.length + 1 - (k + 1) = zs.length - k by omega, List.drop_append_of_le_length (by omega)]
    have e : ∀ a b : List Int, sumL (a ++ b) = sumL a + sumL b := fun a b => by
      induction a with
      | nil => simp [sumL]
      | cons x a ih => simp only [List.cons_append, sumL, ih]; omega
    rw [e, ih]
    simp only [sumL]
    omega
/-- the first place of the greatest number among the first i -/
def amTo (xs : List Int) : Nat → Nat
  | 0 => 0
  | i + 1 => if xs.getD (amTo xs i) 0 < xs.getD i 0 then i else amTo xs i
theorem amTo_lt (xs : List Int) (i : Nat) (h : 0 < i) : amTo xs i < i := by
  induction i with
  | zero => omega
  | succ i ih =>
    rw [amTo]
    split
    · omega
    · rcases Nat.eq_zero_or_pos i with e | e
      · subst e; simp [amTo]
      · have := ih e; omega
theorem amTo_max (xs : List Int) (i : Nat) : ∀ j, j < i → xs.getD j 0 ≤ xs.getD (amTo xs i) 0 := by
  induction i with
  | zero => intro j hj; omega
  | succ i ih =>
    intro j hj
    rw [amTo]
    by_cases e : xs.getD (amTo xs i) 0 < xs.getD i 0
    · rw [if_pos e]
      by_cases h : j = i
      · subst h; exact Int.le_refl _
      · have := ih j (by omega); omega
    · rw [if_neg e]
      by_cases h : j = i
      · subst h; omega
      · exact ih j (by omega)
/-- k times the greatest number is taken -/
def selT (xs : List Int) : Nat → Int × List Int
  | 0 => (0, xs)
  | k + 1 => ((selT xs k).1 + (selT xs k).2.getD (amTo (selT xs k).2 (selT xs k).2.length) 0, (selT xs k).2.set (amTo (selT xs k).2 (selT xs k).2.length) (-1))
theorem selT_inv (xs : List Int) (hr : ∀ x ∈ xs, 0 ≤ x ∧ x ≤ 20) (K : Nat) (hK : K ≤ xs.length) : ∀ k, k ≤ K → (selT xs k).2.length = xs.length ∧ (∀ x ∈ (selT xs k).2, -1 ≤ x ∧ x ≤ 20) ∧ xs.length ≤ cG (-1) (selT xs k).2 + k ∧ (selT xs k).1 + (bestN (K - k) (selT xs k).2 : Int) = (bestN K xs : Int) ∧ 0 ≤ (selT xs k).1 := by
  intro k
  induction k with
  | zero =>
    intro _
    refine ⟨rfl, fun x hx => by have := hr x hx; omega, ?_, by simp [selT], by simp [selT]⟩
    rw [show (selT xs 0).2 = xs from rfl, cG_all (fun x hx => by have := hr x hx; omega)]
    omega
  | succ k ih =>
    intro hk
    obtain ⟨h1, h2, h3, h4, h5⟩ := ih (by omega)
    simp only [selT]
    generalize (selT xs k).2 = ys at *
    generalize (selT xs k).1 = s at *
    have hn : 0 < ys.length := by omega
    have ham := amTo_lt ys ys.length hn
    have hmx := amTo_max ys ys.length
    have hmem : ys.getD (amTo ys ys.length) 0 ∈ ys := by simp [List.getD, ham]
    have hrng := h2 _ hmem
    have hpos : 0 ≤ ys.getD (amTo ys ys.length) 0 := by
      by_cases e : 0 ≤ ys.getD (amTo ys ys.length) 0
      · exact e
      · have := cG_zero (t := -1) (xs := ys) (fun x hx => by
          obtain ⟨j, hj, e2⟩ := List.mem_iff_getElem.1 hx
          have := hmx j hj
          simp [List.getD, hj, e2] at this
          simp [List.getD] at e
          omega)
        omega
    have hset := fun t : Int => cG_set t ys (amTo ys ys.length) (-1) ham
    obtain ⟨v, hv⟩ : ∃ v : Nat, ys.getD (amTo ys ys.length) 0 = (v : Int) := ⟨(ys.getD (amTo ys ys.length) 0).toNat, by omega⟩
    rw [hv] at hrng hpos ⊢
    refine ⟨by simpa using h1, fun x hx => ?_, ?_, ?_, by omega⟩
    · rcases List.mem_or_eq_of_mem_set hx with h | h
      · exact h2 x h
      · omega
    · have := hset (-1)
      rw [hv, if_pos (by omega), if_neg (by omega)] at this
      omega
    · have htk := bestN_take (k := K - (k + 1)) (v := v) (xs := ys) (ys := ys.set (amTo ys ys.length) (-1)) (by omega) (fun x hx => by
        obtain ⟨j, hj, e2⟩ := List.mem_iff_getElem.1 hx
        have := hmx j hj
        rw [hv] at this
        simp [List.getD, hj, e2] at this
        omega) (fun t => by
        have := hset (t : Int)
        rw [hv, if_neg (show ¬ (t : Int) < -1 by omega)] at this
        omega)
      rw [show K - (k + 1) + 1 = K - k by omega] at htk
      rw [← h4, htk]
      omega
theorem selT_best (xs : List Int) (hr : ∀ x ∈ xs, 0 ≤ x ∧ x ≤ 20) (K : Nat) (hK : K ≤ xs.length) : (selT xs K).1 = (bestN K xs : Int) := by
  have h := (selT_inv xs hr K hK K (Nat.le_refl _)).2.2.2.1
  rw [Nat.sub_self, bestN_zero] at h
  omega
end Go.Proofs.Ythpboedpoipkcaa
