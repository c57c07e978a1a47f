/- Contracts of PegMoves, both sides. Conditions: lengths at most 2^20. -/
import Derived.Test.YtkbeelbklganaaaBools
import Derived.Laws.BitsAllLaws
import Derived.Lib.QuoteBits
import Derived.Lib.RabinKarpLaws
namespace Go.Proofs.Ytkbeelbklganaaa
open Go.ChangeShapes Go.WideShapes Go.ChangeAt Go.RowKit

/-- the moves of the peg at a place, to the left and to the right -/
def m1 (T : Nat → Bool) (k : Nat) (a : List Int) : List Int := if (decide (2 ≤ k) && (T (k - 1) && !T (k - 2))) = true then a ++ [(k : Int), (k : Int) - 2] else a
def m2 (n : Nat) (T : Nat → Bool) (k : Nat) (a : List Int) : List Int := if (decide (k + 2 < n) && (T (k + 1) && !T (k + 2))) = true then a ++ [(k : Int), (k : Int) + 2] else a
def mvS (n : Nat) (T : Nat → Bool) (k : Nat) (a : List Int) : List Int := if T k = true then m2 n T k (m1 T k a) else a
def mvN (n : Nat) (T : Nat → Bool) : Nat → List Int
  | 0 => []
  | k + 1 => mvS n T k (mvN n T k)
theorem mvN_len (n : Nat) (T : Nat → Bool) (k : Nat) : (mvN n T k).length ≤ 4 * k := by
  induction k with
  | zero => simp [mvN]
  | succ k ih =>
    simp only [mvN, mvS, m2, m1]
    repeat' split
    all_goals first | omega | (simp only [List.length_append, List.length_cons, List.length_nil]; omega)
theorem m1_len {T : Nat → Bool} {k : Nat} {a : List Int} {c : Nat} (h : a.length ≤ c) : (m1 T k a).length ≤ c + 2 := by
  unfold m1
  split
  · simp; omega
  · omega
theorem mv_f {n : Nat} {T : Nat → Bool} {k : Nat} (h : T k = false) : mvN n T (k + 1) = mvN n T k := by rw [mvN, mvS, if_neg (by rw [h]; simp)]
theorem mv_t {n : Nat} {T : Nat → Bool} {k : Nat} (h : T k = true) : mvN n T (k + 1) = m2 n T k (m1 T k (mvN n T k)) := by rw [mvN, mvS, if_pos h]
theorem m1_n {T : Nat → Bool} {k : Nat} {a : List Int} (h : ¬ 2 ≤ k ∨ T (k - 1) = false ∨ T (k - 2) = true) : m1 T k a = a := by
  unfold m1
  rw [if_neg]
  rcases h with h | h | h <;> simp [h]
theorem m1_y {T : Nat → Bool} {k : Nat} {a : List Int} (h1 : 2 ≤ k) (h2 : T (k - 1) = true) (h3 : T (k - 2) = false) : m1 T k a = a ++ [(k : Int), (k : Int) - 2] := by
  unfold m1
  rw [if_pos]
  simp [h1, h2, h3]
theorem m2_n {n : Nat} {T : Nat → Bool} {k : Nat} {a : List Int} (h : ¬ k + 2 < n ∨ T (k + 1) = false ∨ T (k + 2) = true) : m2 n T k a = a := by
  unfold m2
  rw [if_neg]
  rcases h with h | h | h <;> simp [h]
theorem m2_y {n : Nat} {T : Nat → Bool} {k : Nat} {a : List Int} (h1 : k + 2 < n) (h2 : T (k + 1) = true) (h3 : T (k + 2) = false) : m2 n T k a = a ++ [(k : Int), (k : Int) + 2] := by
  unfold m2
  rw [if_pos]
  simp [h1, h2, h3]
/-- 'append(out, x, y)', behind the new block of two cells that the translation lays -/
theorem app2 {w : World} {ops : Array Oper} {rest : List Oper} {o : Oper} {a : Act} {Q : Exit → Act → World → Prop} {lo : Nat} {v : Value} {xs : List Int} {y z : Int}
    (hown : OwnL w lo v xs) (hn : xs.length ≤ 1048576) (hlo : lo ≤ w.heap.size) (hgd : o.guard = none) {s x : Operand}
    (ho : o.op = .call { callee := .builtin .append, args := #[s, x], argTypes := #[22, 22] })
    (hs : a.eval s = v) (hx : a.eval x = .slice (some ⟨w.heap.size, 0, none⟩) 2 2)
    (h : ∀ v' w', OwnL w' lo v' (xs ++ [y, z]) → w.grownBy w' v.ownBlock → wpList Try.prog ops Q rest (a.put o.dst v') w') :
    wpList Try.prog ops Q (o :: rest) a (w.alloc (.cells #[.int .i64 y, .int .i64 z] 2)) := by
  have hB : Bk (w.alloc (.cells #[.int .i64 y, .int .i64 z] 2)) w.heap.size 2 (iv [y, z]) := Bk.new w 2 _
  refine appR (hown.below ((Below.refl _ _).alloc (Nat.le_refl _) _)) (hB.rdi (n := 2) rfl) (by omega) (Nat.le_trans hlo ((Below.refl w.heap.size w).alloc (Nat.le_refl _) _).size) hgd ho hs hx ?_
  intro v' w' h1 h2 _
  exact h v' w' h1 ((World.grownBy_alloc w _ _).trans h2)

/-- a board's bits -/
def toNk (b : List Bool) : Nat → Nat
  | 0 => 0
  | k + 1 => if b.getD k false = true then toNk b k ||| 2 ^ k else toNk b k
theorem toNk_lt (b : List Bool) (k : Nat) : toNk b k < 2 ^ k := by
  induction k with
  | zero => simp [toNk]
  | succ k ih =>
    have h1 : 2 ^ k < 2 ^ (k + 1) := Nat.pow_lt_pow_right (by omega) (by omega)
    rw [toNk]
    split
    · exact Nat.or_lt_two_pow (by omega) h1
    · omega
theorem toNk_bit (b : List Bool) (k i : Nat) : (toNk b k).testBit i = (decide (i < k) && b.getD i false) := by
  induction k with
  | zero => simp [toNk]
  | succ k ih =>
    rw [toNk]
    by_cases hk : b.getD k false = true
    · rw [if_pos hk, Nat.testBit_or, ih, Nat.testBit_two_pow]
      by_cases hi : i = k
      · subst hi; rw [hk]; simp
      · have : ¬ k = i := fun e => hi e.symm
        generalize b.getD i false = y
        by_cases hlt : i < k
        · simp [hlt, this, show i < k + 1 by omega]
        · simp [hlt, this, show ¬ i < k + 1 by omega]
    · rw [if_neg hk, ih]
      have hf : b.getD k false = false := by simpa only [Bool.not_eq_true] using hk
      by_cases hi : i = k
      · subst hi; rw [hf]; simp
      · generalize b.getD i false = y
        by_cases hlt : i < k
        · simp [hlt, show i < k + 1 by omega]
        · simp [hlt, show ¬ i < k + 1 by omega]
theorem bits_or (a b : Nat) (ha : a < 65536) (hb : b < 65536) : bits BinOp.or IntKind.i64 (a : Int) (b : Int) = ((a ||| b : Nat) : Int) := by
  show IntKind.i64.wrap ((BitVec.ofInt 64 (a : Int) ||| BitVec.ofInt 64 (b : Int)).toNat : Int) = _
  rw [BitVec.toNat_or, ofInt_u64 a (by omega), ofInt_u64 b (by omega)]
  have : a ||| b < 2 ^ 16 := Nat.or_lt_two_pow (by omega) (by omega)
  exact Lib.wrap_i64_small _ (by omega)
theorem bits_and1 (x i : Nat) (hx : x < 65536) : (bits BinOp.and IntKind.i64 ((x : Int) / 2 ^ i) 1 == 1) = x.testBit i := by
  have e : (x : Int) / 2 ^ i = ((x / 2 ^ i : Nat) : Int) := by simp
  have hlt : x / 2 ^ i < 9223372036854775808 := Nat.lt_of_le_of_lt (Nat.div_le_self _ _) (by omega)
  have hm : bits BinOp.and IntKind.i64 ((x / 2 ^ i : Nat) : Int) 1 = ((x / 2 ^ i % 2 : Nat) : Int) := by
    show IntKind.i64.wrap ((BitVec.ofInt 64 ((x / 2 ^ i : Nat) : Int) &&& BitVec.ofInt 64 ((1 : Nat) : Int)).toNat : Int) = _
    rw [BitVec.toNat_and, ofInt_u64 _ (by omega), ofInt_u64 1 (by omega), Nat.and_one_is_mod]
    exact Lib.wrap_i64_small _ (by omega)
  rw [e, hm, Nat.testBit_eq_decide_div_mod_eq]
  generalize x / 2 ^ i % 2 = r
  by_cases h : r = 1
  · subst h; rfl
  · have h2 : ¬ (r : Int) = 1 := by omega
    simp [h, h2]
theorem pow_small {i : Nat} (h : i < 14) : 2 ^ i ≤ 8192 := by
  have : 2 ^ i ≤ 2 ^ 13 := Nat.pow_le_pow_right (by omega) (by omega)
  omega

set_option maxHeartbeats 400000 in
theorem sHas (T : Nat → Bool) (x i : Nat) (j : Int) (w : World) (hx : x < 65536) (hi : i < 14) (hj : j = (i : Int)) (hT : x.testBit i = T i) :
    Calls Try.prog 70 #[.int .i64 x, .int .i64 j] w fun e w' => e = .returned (.bool (T i)) ∧ w = w' := by
  subst hj
  have H := hide (bits_and1 x i hx)
  rw [hT] at H
  clear hT
  go_enter Try.func70, Try.ntmps70
  go_wp2
  go_ret
  exact ⟨ret_bool (by rw [← H.out]), rfl⟩
end Go.Proofs.Ytkbeelbklganaaa
