/- The clock of piles, plainly: the piles as they are dealt, and what is turned, round by round. Conditions: none, these are plain lemmas. -/
import Derived.Test.YtkbeelbklganaaaVal
import Derived.Test.YtkbeelbklganaaaNum
namespace Go.Proofs.Ytkbeelbklganaaa
open Go.ChangeShapes Go.WideShapes Go.ChangeAt Go.RowKit

/-- a deck is an order of 0 to n - 1 -/
def ordBad (xs : List Int) (i : Nat) : Bool := !inB (xs.getD i 0) 0 ((xs.length : Int) - 1) || (xs.take i).any (xs.getD i 0 == ·)
def ordB (xs : List Int) : Bool := (List.range xs.length).all fun i => !ordBad xs i
theorem ordB_t {xs : List Int} (h : ∀ i, i < xs.length → ordBad xs i = false) : ordB xs = true := by
  unfold ordB
  rw [List.all_eq_true]
  intro i hi
  rw [h i (List.mem_range.1 hi)]
  rfl
theorem ordB_f {xs : List Int} {i : Nat} (hi : i < xs.length) (h : ordBad xs i = true) : ordB xs = false := by
  unfold ordB
  rw [List.all_eq_false]
  exact ⟨i, List.mem_range.2 hi, by simp [h]⟩
theorem ordB_in {xs : List Int} (h : ordB xs = true) {i : Nat} (hi : i < xs.length) : 0 ≤ xs.getD i 0 ∧ xs.getD i 0 ≤ (xs.length : Int) - 1 := by
  unfold ordB at h
  rw [List.all_eq_true] at h
  have := h i (List.mem_range.2 hi)
  unfold ordBad at this
  rw [Bool.not_eq_true', Bool.or_eq_false_iff] at this
  have h1 := this.1
  rw [Bool.not_eq_false'] at h1
  exact inB_iff.1 h1
def deckB (xs : List Int) : Bool := decide (1 ≤ xs.length) && (decide (xs.length ≤ 52) && ordB xs)

/-- the first q cards of pile k -/
def ckG (xs : List Int) (p k q : Nat) : List Int := (List.range q).map fun j => xs.getD (j * p + k) 0
theorem ckG_len (xs : List Int) (p k q : Nat) : (ckG xs p k q).length = q := by simp [ckG]
theorem ckG_succ (xs : List Int) (p k q : Nat) : ckG xs p k (q + 1) = ckG xs p k q ++ [xs.getD (q * p + k) 0] := by simp [ckG, List.range_succ]
theorem ckG_get (xs : List Int) (p k : Nat) {q j : Nat} (h : j < q) : (ckG xs p k q).getD j 0 = xs.getD (j * p + k) 0 := by simp [ckG, List.getD, h]
theorem ckG_take (xs : List Int) (p k : Nat) {q r : Nat} (h : r ≤ q) : (ckG xs p k q).take r = ckG xs p k r := by
  unfold ckG
  rw [← List.map_take, List.take_range, Nat.min_eq_left h]

/-- how many cards are turned: l is what is left in each pile, a the pile that is next, t what has been turned -/
def cdR (xs : List Int) (p : Nat) : Nat → List Nat → Nat → Nat → Nat
  | 0, _, _, t => t
  | k + 1, l, a, t => if l.getD a 0 = 0 then t else cdR xs p k (l.set a (l.getD a 0 - 1)) ((xs.getD ((l.getD a 0 - 1) * p + a) 0).toNat % p) (t + 1)
theorem cdR_stop {xs : List Int} {p a t : Nat} {l : List Nat} (h : l.getD a 0 = 0) (k : Nat) : cdR xs p k l a t = t := by
  cases k with
  | zero => rfl
  | succ k => rw [cdR, if_pos h]
theorem sum_set : ∀ (l : List Nat) (a v : Nat), a < l.length → (l.set a v).sum + l.getD a 0 = l.sum + v
  | [], a, v, h => absurd h (by simp)
  | x :: l, 0, v, _ => by simp [List.getD]; omega
  | x :: l, a + 1, v, h => by
    have := sum_set l a v (by simpa using h)
    simp only [List.set_cons_succ, List.sum_cons]
    have e : (x :: l).getD (a + 1) 0 = l.getD a 0 := by simp [List.getD]
    rw [e]
    omega
theorem cdR_go {xs : List Int} {p a t v : Nat} {l : List Nat} (ha : a < l.length) (h : l.getD a 0 = v + 1) :
    (l.set a v).sum + 1 = l.sum ∧ cdR xs p l.sum l a t = cdR xs p (l.set a v).sum (l.set a v) ((xs.getD (v * p + a) 0).toNat % p) (t + 1) := by
  have hs := sum_set l a v ha
  have h1 : (l.set a v).sum + 1 = l.sum := by omega
  refine ⟨h1, ?_⟩
  rw [← h1, cdR, h, if_neg (by omega)]
  rfl
theorem getD_setN (l : List Nat) (a b v : Nat) : (l.set a v).getD b 0 = if a = b ∧ a < l.length then v else l.getD b 0 := by
  by_cases h : a = b
  · subst h
    by_cases h2 : a < l.length
    · simp [List.getD, h2]
    · simp [List.getD, h2]
  · simp [List.getD, List.getElem?_set, h]
/-- what is left never is more than what was dealt -/
def leftOK (m p : Nat) (l : List Nat) : Prop := l.length = p ∧ ∀ k, l.getD k 0 ≤ m
theorem leftOK.start (m p : Nat) : leftOK m p (List.replicate p m) := by
  refine ⟨by simp, fun k => ?_⟩
  by_cases h : k < p
  · simp [List.getD, h]
  · simp [List.getD, h]
theorem leftOK.set {m p a v : Nat} {l : List Nat} (h : leftOK m p l) (hv : l.getD a 0 = v + 1) : leftOK m p (l.set a v) := by
  refine ⟨by simp [h.1], fun k => ?_⟩
  rw [getD_setN]
  split
  · have := h.2 a; omega
  · exact h.2 k
theorem place_lt {m p v a n : Nat} (hn : n = m * p) (hv : v < m) (ha : a < p) : v * p + a < n := by
  subst hn
  have : (v + 1) * p ≤ m * p := Nat.mul_le_mul_right p (by omega)
  rw [Nat.succ_mul] at this
  omega
/-- the whole -/
def ckOk (xs : List Int) (p : Int) : Bool := deckB xs && (inB p 1 13 && decide ((xs.length : Int) % p = 0))
def ckN (xs : List Int) (p : Nat) : Nat := cdR xs p (List.replicate p (xs.length / p)).sum (List.replicate p (xs.length / p)) (p - 1) 0
theorem sum_rep (p m : Nat) : (List.replicate p m).sum = p * m := by simp
theorem cdR_le (xs : List Int) (p : Nat) : ∀ (k : Nat) (l : List Nat) (a t : Nat), cdR xs p k l a t ≤ t + k
  | 0, l, a, t => by rw [cdR]; omega
  | k + 1, l, a, t => by
    rw [cdR]
    split
    · omega
    · have := cdR_le xs p k (l.set a (l.getD a 0 - 1)) ((xs.getD ((l.getD a 0 - 1) * p + a) 0).toNat % p) (t + 1)
      omega
def RClockDeal (xs : List Int) (p : Int) : Int × Bool × Bool := if ckOk xs p = true then ((ckN xs p.toNat : Int), decide (ckN xs p.toNat = xs.length), true) else (0, false, false)
end Go.Proofs.Ytkbeelbklganaaa
