/- The convolution of dice as plain lists: its length, its sum, its bounds. Conditions: none, these are plain lemmas. -/
import Derived.Test.YtjeaiihgedennaaDiceM
import Derived.Test.YtjeaiihgedennaaNum
namespace Go.Proofs.Ytjeaiihgedennaa
open Go.ChangeShapes Go.WideShapes Go.ChangeAt Go.RowKit

def bmp (xs : List Int) (j : Nat) (x : Int) : List Int := xs.set j (xs.getD j 0 + x)
def sumL : List Int → Int
  | [] => 0
  | x :: xs => x + sumL xs
def sumTo (xs : List Int) : Nat → Int
  | 0 => 0
  | k + 1 => sumTo xs k + xs.getD k 0
theorem sumL_set (xs : List Int) (j : Nat) (y : Int) (h : j < xs.length) : sumL (xs.set j y) = sumL xs - xs.getD j 0 + y := by
  induction xs generalizing j with
  | nil => simp at h
  | cons a xs ih =>
    cases j with
    | zero => simp [sumL, List.getD]; omega
    | succ j =>
      have := ih j (by simpa using h)
      simp only [List.set_cons_succ, sumL, this, List.getD_cons_succ]
      omega
theorem sumL_bmp (xs : List Int) (j : Nat) (x : Int) (h : j < xs.length) : sumL (bmp xs j x) = sumL xs + x := by
  rw [bmp, sumL_set xs j _ h]
  omega
theorem sumL_zero (n : Nat) : sumL (List.replicate n 0) = 0 := by
  induction n with
  | zero => rfl
  | succ n ih => simp [List.replicate_succ, sumL, ih]
theorem sumTo_cons (a : Int) (xs : List Int) (k : Nat) : sumTo (a :: xs) (k + 1) = a + sumTo xs k := by
  induction k with
  | zero => simp [sumTo, List.getD]
  | succ k ih =>
    rw [sumTo, ih, sumTo, List.getD_cons_succ]
    omega
theorem sumTo_all (xs : List Int) : sumTo xs xs.length = sumL xs := by
  induction xs with
  | nil => rfl
  | cons a xs ih => rw [List.length_cons, sumTo_cons, ih, sumL]
/-- a list of L numbers, none below 0, whose sum is S -/
structure Gd (L : Nat) (S : Int) (xs : List Int) : Prop where
  len : xs.length = L
  nn : ∀ j, 0 ≤ xs.getD j 0
  sum : sumL xs = S
theorem getD_le_sum {xs : List Int} (h : ∀ j, 0 ≤ xs.getD j 0) : 0 ≤ sumL xs ∧ ∀ k, xs.getD k 0 ≤ sumL xs := by
  induction xs with
  | nil => simp [sumL, List.getD]
  | cons a xs ih =>
    have h0 := h 0
    have i := ih fun j => by simpa using h (j + 1)
    simp only [List.getD_cons_zero] at h0
    refine ⟨by simp only [sumL]; omega, fun k => ?_⟩
    cases k with
    | zero => simp only [List.getD_cons_zero, sumL]; omega
    | succ k => have := i.2 k; simp only [List.getD_cons_succ, sumL]; omega
theorem Gd.at {L : Nat} {S : Int} {xs : List Int} (h : Gd L S xs) (k : Nat) : 0 ≤ xs.getD k 0 ∧ xs.getD k 0 ≤ S := ⟨h.nn k, by rw [← h.sum]; exact (getD_le_sum h.nn).2 k⟩
theorem Gd.zero (n : Nat) : Gd n 0 (List.replicate n 0) := ⟨by simp, fun j => by simp [List.getD, List.getElem?_replicate]; split <;> simp, sumL_zero n⟩
theorem Gd.bmp {L : Nat} {S c : Int} {xs : List Int} (h : Gd L S xs) {j : Nat} (hj : j < L) (hc : 0 ≤ c) : Gd L (S + c) (bmp xs j c) := by
  refine ⟨by simp [Proofs.Ytjeaiihgedennaa.bmp, h.len], fun i => ?_, by rw [sumL_bmp xs j c (by rw [h.len]; exact hj), h.sum]⟩
  have h1 := h.nn i
  have h2 := h.nn j
  by_cases e : j = i
  · subst e
    have e2 : (Proofs.Ytjeaiihgedennaa.bmp xs j c).getD j 0 = xs.getD j 0 + c := by simp [Proofs.Ytjeaiihgedennaa.bmp, List.getD, h.len, hj]
    rw [e2]
    omega
  · simpa [Proofs.Ytjeaiihgedennaa.bmp, List.getD, List.getElem?_set, e] using h1
theorem Gd.to {L : Nat} {S : Int} {xs : List Int} (h : Gd L S xs) (k : Nat) (hk : k ≤ L) : 0 ≤ sumTo xs k ∧ sumTo xs k ≤ S := by
  have hmono : ∀ a b, a ≤ b → sumTo xs a ≤ sumTo xs b := by
    intro a b hab
    induction b with
    | zero => rw [Nat.le_zero.1 hab]; exact Int.le_refl _
    | succ b ih =>
      by_cases e : a = b + 1
      · subst e; exact Int.le_refl _
      · have := ih (by omega); have := h.nn b; rw [sumTo]; omega
  have h0 := hmono 0 k (Nat.zero_le _)
  have h1 := hmono k L hk
  rw [show sumTo xs L = S from by rw [← h.len, sumTo_all, h.sum]] at h1
  exact ⟨h0, h1⟩

def cnF (fs : List Int) (k : Nat) (c : Int) (acc : List Int) : Nat → List Int
  | 0 => acc
  | j + 1 => bmp (cnF fs k c acc j) (k + (fs.getD j 0).toNat) c
def cnK (cs fs acc : List Int) : Nat → List Int
  | 0 => acc
  | k + 1 => cnF fs k (cs.getD k 0) (cnK cs fs acc k) fs.length
def lastF (fs : List Int) : Nat := (fs.getD (fs.length - 1) 0).toNat
def cnD (xss : List (List Int)) : Nat → List Int
  | 0 => [1]
  | k + 1 => cnK (cnD xss k) (xss.getD k []) (List.replicate ((cnD xss k).length + lastF (xss.getD k [])) 0) (cnD xss k).length
def prD (xss : List (List Int)) : Nat → Int
  | 0 => 1
  | k + 1 => prD xss k * ((xss.getD k []).length : Int)
theorem cnF_gd {fs : List Int} {k L : Nat} {c S : Int} {acc : List Int} (h : Gd L S acc) (hc : 0 ≤ c) (hf : ∀ j, j < fs.length → k + (fs.getD j 0).toNat < L) (j : Nat) (hj : j ≤ fs.length) : Gd L (S + (j : Int) * c) (cnF fs k c acc j) := by
  induction j with
  | zero => simpa [cnF] using h
  | succ j ih =>
    have := (ih (by omega)).bmp (hf j (by omega)) hc
    rw [show S + ((j + 1 : Nat) : Int) * c = S + (j : Int) * c + c from by rw [show ((j + 1 : Nat) : Int) = (j : Int) + 1 from by simp, Int.add_mul]; omega]
    exact this
theorem cnK_gd {cs fs acc : List Int} {L M : Nat} {T : Int} (h : Gd L 0 acc) (hcs : Gd M T cs) (hf : ∀ k, k < M → ∀ j, j < fs.length → k + (fs.getD j 0).toNat < L) (k : Nat) (hk : k ≤ M) : Gd L ((fs.length : Int) * sumTo cs k) (cnK cs fs acc k) := by
  induction k with
  | zero => simpa [cnK, sumTo] using h
  | succ k ih =>
    have := cnF_gd (ih (by omega)) (hcs.nn k) (hf k (by omega)) fs.length (Nat.le_refl _)
    rw [sumTo, Int.mul_add]
    exact this

/-- the faces of a die are sorted: the last is the greatest -/
theorem die_sorted {xs : List Int} (h : dieB xs = true) {i : Nat} (hi : i + 1 < xs.length) : xs.getD i 0 ≤ xs.getD (i + 1) 0 := by
  cases hq : badF xs (i + 1) with
  | true => rw [dieB_bad hi hq] at h; cases h
  | false =>
    simp only [badF, Bool.or_eq_false_iff, Bool.not_eq_false', Nat.add_sub_cancel, Bool.and_eq_false_iff, decide_eq_false_iff_not] at hq
    omega
theorem die_mono {xs : List Int} (h : dieB xs = true) {i j : Nat} (hij : i ≤ j) (hj : j < xs.length) : xs.getD i 0 ≤ xs.getD j 0 := by
  induction j with
  | zero => rw [Nat.le_zero.1 hij]; exact Int.le_refl _
  | succ j ih =>
    by_cases e : i = j + 1
    · subst e; exact Int.le_refl _
    · have := ih (by omega) (by omega); have := die_sorted h hj; omega
theorem die_in {xs : List Int} (h : dieB xs = true) {j : Nat} (hj : j < xs.length) : 0 ≤ xs.getD j 0 ∧ xs.getD j 0 ≤ 20 := by
  cases hq : badF xs j with
  | true => rw [dieB_bad hj hq] at h; cases h
  | false =>
    simp only [badF, Bool.or_eq_false_iff, Bool.not_eq_false', inB_iff] at hq
    exact hq.1
theorem cnD_gd {xss : List (List Int)} (hd : ∀ k, k < xss.length → dieB (xss.getD k []) = true) (k : Nat) (hk : k ≤ xss.length) :
    Gd (cnD xss k).length (prD xss k) (cnD xss k) ∧ 1 ≤ (cnD xss k).length ∧ (cnD xss k).length ≤ 1 + 20 * k ∧ 1 ≤ prD xss k ∧ prD xss k ≤ ((12 ^ k : Nat) : Int) := by
  induction k with
  | zero => exact ⟨⟨rfl, fun j => by cases j <;> simp [cnD, List.getD], rfl⟩, by simp [cnD], by simp [cnD], by simp [prD], by simp [prD]⟩
  | succ k ih =>
    obtain ⟨g, l1, l2, p1, p2⟩ := ih (by omega)
    have hdk := hd k (by omega)
    have hl := dieB_len hdk
    have hlast := die_in hdk (j := (xss.getD k []).length - 1) (by omega)
    have hg := cnK_gd (Gd.zero ((cnD xss k).length + lastF (xss.getD k []))) g (fs := xss.getD k []) (fun k' hk' j hj => by
      have h1 := die_mono hdk (i := j) (j := (xss.getD k []).length - 1) (by omega) (by omega)
      have h2 := die_in hdk hj
      unfold lastF
      omega) (cnD xss k).length (Nat.le_refl _)
    rw [show sumTo (cnD xss k) (cnD xss k).length = prD xss k from by rw [sumTo_all, g.sum]] at hg
    have hlen : (cnD xss (k + 1)).length = (cnD xss k).length + lastF (xss.getD k []) := hg.len
    have hlf : lastF (xss.getD k []) ≤ 20 := by unfold lastF; omega
    refine ⟨?_, by omega, by omega, ?_, ?_⟩
    · rw [hlen, prD, Int.mul_comm]; exact hg
    · rw [prD]
      have : (1 : Int) * 1 ≤ prD xss k * ((xss.getD k []).length : Int) := Int.mul_le_mul p1 (by omega) (by omega) (by omega)
      omega
    · rw [prD, Nat.pow_succ]
      have : prD xss k * ((xss.getD k []).length : Int) ≤ ((12 ^ k : Nat) : Int) * 12 := Int.mul_le_mul p2 (by omega) (by omega) (by omega)
      rw [Int.natCast_mul]
      exact this
end Go.Proofs.Ytjeaiihgedennaa
