/- The plain dice of 1 to 6 faces: their other pairs have the same sums. Conditions: none, by the kernel. -/
import Derived.Test.YthpboedpoipkcaaPairP
import Derived.Test.YthpboedpoipkcaaSameS
import Derived.Test.YthpboedpoipkcaaPlain
namespace Go.Proofs.Ythpboedpoipkcaa
open Go.ChangeShapes Go.WideShapes Go.ChangeAt Go.RowKit

/-- what is asked of the other pair of a plain die -/
def pairOk (d : List Int) : Bool :=
  match ROther d with
  | none => true
  | some (x, y) => (RSameSums [x, y] [d, d]).1 && (RSameSums [x, y] [d, d]).2 && !(eqL x d && eqL y d)
theorem pair1 : pairOk (pl 2) = true := by decide +kernel
theorem pair2 : pairOk (pl 3) = true := by decide +kernel
theorem pair3 : pairOk (pl 4) = true := by decide +kernel
theorem pair4 : pairOk (pl 5) = true := by decide +kernel
theorem pair5 : pairOk (pl 6) = true := by decide +kernel
theorem pair6 : pairOk (pl 7) = true := by decide +kernel

theorem pair_plain {n : Nat} (h1 : 1 ≤ n) (h6 : n ≤ 6) : pairOk (pl (n + 1)) = true := by
  match n, h1, h6 with
  | 1, _, _ => exact pair1
  | 2, _, _ => exact pair2
  | 3, _, _ => exact pair3
  | 4, _, _ => exact pair4
  | 5, _, _ => exact pair5
  | 6, _, _ => exact pair6
/-- three equal dice are no ring; a plain die is a die -/
theorem ring_plain : ∀ n : Fin 6, RIsRing [pl (n.val + 2), pl (n.val + 2), pl (n.val + 2)] = (false, true) ∧ dieB (pl (n.val + 2)) = true := by decide +kernel

/-- a sum over the numbers below n -/
def sumN (f : Nat → Nat) : Nat → Nat
  | 0 => 0
  | n + 1 => sumN f n + f n
theorem sumN_add (f g : Nat → Nat) (n : Nat) : sumN (fun i => f i + g i) n = sumN f n + sumN g n := by
  induction n with
  | zero => rfl
  | succ n ih => simp only [sumN, ih]; omega
theorem sumN_zero (n : Nat) : sumN (fun _ => 0) n = 0 := by
  induction n with
  | zero => rfl
  | succ n ih => simp only [sumN, ih]
theorem sumN_swap (P : Nat → Nat → Nat) (m n : Nat) : sumN (fun a => sumN (fun b => P a b) m) n = sumN (fun b => sumN (fun a => P a b) n) m := by
  induction n with
  | zero => simp only [sumN, sumN_zero]
  | succ n ih => simp only [sumN, ih, sumN_add]
def c1 (f g : Int) : Nat := if g < f then 1 else 0
def c3 (f g : Int) : Nat := if g < f then 0 else if f < g then 0 else 1
theorem btAdd_c (f g : Int) (s : St3) : btAdd f g s = (s.1 + c1 f g, s.2.1 + c1 g f, s.2.2 + c3 f g) := by
  unfold btAdd c1 c3
  by_cases h1 : g < f
  · rw [if_pos h1, if_pos h1, if_pos h1, if_neg (by omega)]; rfl
  · by_cases h2 : f < g
    · rw [if_neg h1, if_neg h1, if_neg h1, if_pos h2, if_pos h2, if_pos h2]; rfl
    · rw [if_neg h1, if_neg h1, if_neg h1, if_neg h2, if_neg h2, if_neg h2]; rfl
theorem btRow_c (f : Int) (ys : List Int) (s : St3) (j : Nat) : btRow f ys s j = (s.1 + sumN (fun b => c1 f (ys.getD b 0)) j, s.2.1 + sumN (fun b => c1 (ys.getD b 0) f) j, s.2.2 + sumN (fun b => c3 f (ys.getD b 0)) j) := by
  induction j with
  | zero => rfl
  | succ j ih => rw [btRow, ih, btAdd_c]; simp only [sumN]; simp [Nat.add_assoc]
theorem btAll_c (xs ys : List Int) (i : Nat) : btAll xs ys i = (sumN (fun a => sumN (fun b => c1 (xs.getD a 0) (ys.getD b 0)) ys.length) i, sumN (fun a => sumN (fun b => c1 (ys.getD b 0) (xs.getD a 0)) ys.length) i, sumN (fun a => sumN (fun b => c3 (xs.getD a 0) (ys.getD b 0)) ys.length) i) := by
  induction i with
  | zero => rfl
  | succ i ih => rw [btAll, ih, btRow_c]; simp only [sumN]
theorem c3_swap (f g : Int) : c3 f g = c3 g f := by
  unfold c3
  by_cases h1 : g < f
  · rw [if_pos h1, if_neg (by omega), if_pos h1]
  · by_cases h2 : f < g
    · rw [if_neg h1, if_pos h2, if_pos h2]
    · rw [if_neg h1, if_neg h2, if_neg h2, if_neg h1]
/-- turned around, wins are losses -/
theorem bt_swap (xs ys : List Int) : bt ys xs = ((bt xs ys).2.1, (bt xs ys).1, (bt xs ys).2.2) := by
  unfold bt
  rw [btAll_c, btAll_c]
  simp only
  rw [sumN_swap, sumN_swap (fun a b => c1 (xs.getD b 0) (ys.getD a 0)), sumN_swap (fun a b => c3 (ys.getD a 0) (xs.getD b 0))]
  have e : ∀ a b, c3 (ys.getD a 0) (xs.getD b 0) = c3 (xs.getD b 0) (ys.getD a 0) := fun a b => c3_swap _ _
  simp only [e]
theorem bt_sum (xs ys : List Int) : (bt xs ys).1 + (bt xs ys).2.1 + (bt xs ys).2.2 = xs.length * ys.length := btAll_sum xs ys xs.length
end Go.Proofs.Ythpboedpoipkcaa
