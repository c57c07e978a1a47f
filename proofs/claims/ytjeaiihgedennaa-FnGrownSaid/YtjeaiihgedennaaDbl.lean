/- Plain lemmas on doubles: exact doubling and halving, bounds of rounded results, the order, whole numbers. Conditions: what is stated. -/
import Derived.Test.YtjeaiihgedennaaFloat
namespace Go.Proofs.Ytjeaiihgedennaa
open Ieee Go.ChangeShapes Go.WideShapes Go.ChangeAt Go.RowKit

/-- the magnitude m * 2 ^ e is at most 2 ^ k -/
def LeV (m : Nat) (e k : Int) : Prop := m * 2 ^ (e + 3000).toNat ≤ 2 ^ (k + 3000).toNat
/-- the word is a number of magnitude at most 2 ^ k -/
def LeP (f : Format) (k : Int) (b : Nat) : Prop := ∃ s m e, f.read b = .number s m e ∧ LeV m e k ∧ -1100 ≤ e ∧ e ≤ 1100
theorem LeV_zero (e k : Int) : LeV 0 e k := by unfold LeV; rw [Nat.zero_mul]; exact Nat.zero_le _
theorem LeV_pow {m d : Nat} {e k : Int} (h : m ≤ 2 ^ d) (hk : e + d ≤ k) (he : -3000 ≤ e) : LeV m e k := by
  unfold LeV
  refine Nat.le_trans (Nat.mul_le_mul_right _ h) ?_
  rw [← Nat.pow_add]
  exact Nat.pow_le_pow_right (by omega) (by omega)
theorem cut_ge (s : Bool) (n d N : Nat) (h : N * 2 ^ d ≤ n) : N ≤ Toward.even.cut s n d := by
  unfold Toward.cut
  have h2 : n < 2 ^ (n.log2 + 1) := Nat.lt_log2_self
  have hg : N ≤ n / 1 <<< min d (n.log2 + 2) := by
    rw [Nat.shiftLeft_eq, Nat.one_mul, Nat.le_div_iff_mul_le (Nat.two_pow_pos _)]
    refine Nat.le_trans (Nat.mul_le_mul_left _ ?_) h
    exact Nat.pow_le_pow_right (by omega) (by omega)
  exact Nat.le_trans hg (Nat.le_add_right _ _)
theorem cut_le (s : Bool) (n d N : Nat) (h : n ≤ N * 2 ^ d) : Toward.even.cut s n d ≤ N := by
  have h2 : n < 2 ^ (n.log2 + 1) := Nat.lt_log2_self
  have hg : n ≤ N * 2 ^ (min d (n.log2 + 2)) ∨ n = 0 := by
    by_cases hc : d ≤ n.log2 + 2
    · rw [Nat.min_eq_left hc]; exact .inl h
    · rw [Nat.min_eq_right (by omega)]
      by_cases hN : N = 0
      · right; subst hN; simpa using h
      · left
        refine Nat.le_trans (Nat.le_of_lt h2) ?_
        refine Nat.le_trans (Nat.pow_le_pow_right (n := 2) (by omega) (show n.log2 + 1 ≤ n.log2 + 2 by omega)) ?_
        exact Nat.le_mul_of_pos_left _ (by omega)
  unfold Toward.cut
  simp only [Nat.shiftLeft_eq, Nat.one_mul]
  generalize min d (n.log2 + 2) = g at *
  have hp := Nat.two_pow_pos g
  generalize 2 ^ g = G at *
  have hdm := Nat.div_add_mod n G
  have hml := Nat.mod_lt n hp
  rcases hg with hg | rfl
  · by_cases hlt : n / G < N
    · cases (decide (G < 2 * (n % G)) || G == 2 * (n % G) && n / G % 2 == 1) <;> simp <;> omega
    · have hle : n / G ≤ N := Nat.div_le_of_le_mul (by rw [Nat.mul_comm]; exact hg)
      have heq : n / G = N := by omega
      have hr : n % G = 0 := by
        rw [heq, Nat.mul_comm] at hdm
        omega
      rw [hr, heq]
      have h0 : (G == 0) = false := by simp; omega
      simp [h0]
  · have h0 : (G == 0) = false := by simp; omega
    simp [h0]
/-- the double with biased exponent E and significand f -/
def D (E f : Nat) : Nat := (E - 1) * 4503599627370496 + f
def InD (E f : Nat) : Prop := 1 ≤ E ∧ E ≤ 2046 ∧ 4503599627370496 ≤ f ∧ f < 9007199254740992
theorem c1 : double.signWeight = 9223372036854775808 := by decide
theorem c2 : double.binade = 4503599627370496 := by decide
theorem c3 : double.infRung = 9218868437227405312 := by decide
theorem c4 : double.leastPlace = -1074 := by decide
theorem c5 : double.fractionBits = 52 := rfl
theorem read_word64 (s : Bool) (rung : Nat) (h : rung < 9223372036854775808) : double.read (double.word s rung) =
    (if rung < 4503599627370496 then .number s rung (-1074) else if rung < 9218868437227405312 then .number s (4503599627370496 + rung % 4503599627370496) (-1074 + (rung / 4503599627370496 - 1 : Nat)) else if rung = 9218868437227405312 then .infinity s else .nan s (rung - 9218868437227405312)) := by
  have hm : double.word s rung % 9223372036854775808 = rung := by
    unfold Format.word
    rw [c1]
    cases s <;> simp <;> omega
  have hs : (double.word s rung / 9223372036854775808 % 2 == 1) = s := by
    unfold Format.word
    rw [c1]
    cases s
    · simp only [Bool.false_eq_true, if_false, beq_eq_false_iff_ne]; omega
    · simp only [if_true, beq_iff_eq]; omega
  unfold Format.read
  simp only [c1, c2, c3, c4, hm, hs]
theorem read_D {E f : Nat} (h : InD E f) : double.read (D E f) = .number false f (-1075 + (E : Int)) := by
  obtain ⟨h1, h2, h3, h4⟩ := h
  have hr : D E f < 9218868437227405312 := by unfold D; omega
  have hr2 : ¬ D E f < 4503599627370496 := by unfold D; omega
  have e : D E f = double.word false (D E f) := rfl
  rw [e, read_word64 false _ (by omega), if_neg hr2, if_pos hr]
  have e1 : 4503599627370496 + D E f % 4503599627370496 = f := by unfold D; omega
  have e2 : D E f / 4503599627370496 = E := by unfold D; omega
  rw [e1, e2]
  congr 1
  omega
theorem cut_exact (s : Bool) (f a : Nat) : Toward.even.cut s (f <<< a) a = f := by
  unfold Toward.cut
  have hlog : a ≤ (f <<< a).log2 + 2 ∨ f = 0 := by
    by_cases h : f = 0
    · exact .inr h
    · left
      have h0 : f <<< a ≠ 0 := by
        rw [Nat.shiftLeft_eq]
        exact Nat.mul_ne_zero h (Nat.ne_of_gt (Nat.two_pow_pos a))
      have : a ≤ (f <<< a).log2 := (Nat.le_log2 h0).2 (by rw [Nat.shiftLeft_eq]; exact Nat.le_mul_of_pos_left _ (by omega))
      omega
  rcases hlog with hl | rfl
  · have e : min a ((f <<< a).log2 + 2) = a := by omega
    have h1 : f <<< a / 1 <<< a = f := by
      rw [Nat.shiftLeft_eq, Nat.shiftLeft_eq, Nat.one_mul, Nat.mul_div_cancel _ (Nat.two_pow_pos a)]
    have h2 : f <<< a % 1 <<< a = 0 := by
      rw [Nat.shiftLeft_eq, Nat.shiftLeft_eq, Nat.one_mul, Nat.mul_mod_left]
    have h3 : 0 < 1 <<< a := by rw [Nat.shiftLeft_eq]; have := Nat.two_pow_pos a; omega
    simp only [e, h1, h2]
    generalize 1 <<< a = g at *
    have : ¬ g = 0 := by omega
    simp [this]
  · simp [Nat.zero_shiftLeft, Nat.log2_zero]
theorem log2_shift {f a : Nat} (h3 : 4503599627370496 ≤ f) (h4 : f < 9007199254740992) : (f <<< a).log2 = 52 + a := by
  rw [Nat.shiftLeft_eq]
  have hp := Nat.two_pow_pos a
  have h0 : f * 2 ^ a ≠ 0 := Nat.mul_ne_zero (by omega) (by omega)
  have h5 : (f * 2 ^ a).log2 < 53 + a := (Nat.log2_lt h0).2 (by rw [Nat.pow_add]; exact Nat.mul_lt_mul_of_pos_right (by omega) hp)
  have h6 : 52 + a ≤ (f * 2 ^ a).log2 := (Nat.le_log2 h0).2 (by rw [Nat.pow_add]; exact Nat.mul_le_mul_right _ (by omega))
  omega
theorem word_pos (r : Nat) : double.word false r = r := by unfold Format.word; simp
theorem min_rung {E f : Nat} (h : InD E f) : min ((E - 1) * 4503599627370496 + f) 9218868437227405312 = D E f := by
  obtain ⟨h1, h2, h3, h4⟩ := h
  unfold D
  omega
theorem near_D {E f : Nat} (h : InD E f) (a : Nat) (p : Int) (hp : p + a = -1075 + (E : Int)) : double.nearest false (f <<< a) p = D E f := by
  obtain ⟨h1, h2, h3, h4⟩ := h
  have hl := log2_shift (a := a) h3 h4
  unfold Format.nearest
  have h0 : ¬ f <<< a = 0 := by
    rw [Nat.shiftLeft_eq]
    have := Nat.two_pow_pos a
    have := Nat.mul_pos (show 0 < f by omega) this
    omega
  rw [if_neg h0, hl]
  simp only [c2, c3, c4, c5]
  have hlast : max (p + ((52 + a : Nat) : Int) - (52 : Nat)) (-1074) = -1075 + (E : Int) := by omega
  rw [hlast]
  have e1 : (p - (-1075 + (E : Int))).toNat = 0 := by omega
  have e2 : (-1075 + (E : Int) - p).toNat = a := by omega
  rw [e1, e2, Nat.shiftLeft_zero, cut_exact]
  have e3 : (-1075 + (E : Int) - -1074).toNat = E - 1 := by omega
  rw [e3, word_pos, min_rung ⟨h1, h2, h3, h4⟩]
theorem mul2 {E f : Nat} (h : InD E f) (hE : E ≤ 2045) : double.mul (D E f) 4611686018427387904 = some (D (E + 1) f) := by
  have e2 : double.read 4611686018427387904 = .number false 4503599627370496 (-51) := by decide +kernel
  unfold Format.mul
  rw [read_D h, e2]
  simp only [Datum.product, Option.map_some, Format.write]
  have e : f * 4503599627370496 = f <<< 52 := by rw [Nat.shiftLeft_eq]
  rw [e]
  exact congrArg some (near_D (E := E + 1) ⟨by omega, by omega, h.2.2⟩ 52 _ (by omega))
theorem half {E f : Nat} (h : InD E f) (hE : 2 ≤ E) : double.div (D E f) 4611686018427387904 = some (D (E - 1) f) := by
  have e2 : double.read 4611686018427387904 = .number false 4503599627370496 (-51) := by decide +kernel
  have hl : f.log2 = 52 := by have := log2_shift (a := 0) h.2.2.1 h.2.2.2; simpa using this
  unfold Format.div
  rw [read_D h, e2]
  have hl2 : Nat.log2 4503599627370496 = 52 := by decide +kernel
  simp only [Datum.quotient, if_neg (show ¬ 4503599627370496 = 0 by omega), c5, hl, hl2, Option.map_some, Format.write]
  have q1 : f <<< (52 + 2 + 52 - 52) / 4503599627370496 = 4 * f := by
    rw [Nat.shiftLeft_eq, show (2 : Nat) ^ (52 + 2 + 52 - 52) = 4 * 4503599627370496 by decide, ← Nat.mul_assoc, Nat.mul_div_cancel _ (by omega), Nat.mul_comm]
  have q2 : f <<< (52 + 2 + 52 - 52) % 4503599627370496 = 0 := by
    rw [Nat.shiftLeft_eq, show (2 : Nat) ^ (52 + 2 + 52 - 52) = 4 * 4503599627370496 by decide, ← Nat.mul_assoc, Nat.mul_mod_left]
  rw [q1, q2]
  have e : 2 * (4 * f) + (0 != 0 : Bool).toNat = f <<< 3 := by rw [Nat.shiftLeft_eq]; simp; omega
  have e' : (false ^^ false) = false := rfl
  rw [e, e']
  exact congrArg some (near_D (E := E - 1) ⟨by omega, by have := h.2.1; omega, h.2.2⟩ 3 _ (by have := h.1; omega))

theorem d164 : double.signWeight = 9223372036854775808 := by decide
theorem d264 : double.binade = 4503599627370496 := by decide
theorem d364 : double.infRung = 9218868437227405312 := by decide
theorem d464 : double.leastPlace = -1074 := by decide
theorem d564 : double.fractionBits = 52 := rfl
theorem read_wd64 (s : Bool) (rung : Nat) (h : rung < 9223372036854775808) : double.read (double.word s rung) =
    (if rung < 4503599627370496 then .number s rung (-1074) else if rung < 9218868437227405312 then .number s (4503599627370496 + rung % 4503599627370496) (-1074 + (rung / 4503599627370496 - 1 : Nat)) else if rung = 9218868437227405312 then .infinity s else .nan s (rung - 9218868437227405312)) := by
  have hm : double.word s rung % 9223372036854775808 = rung := by
    unfold Format.word
    rw [d164]
    cases s <;> simp <;> omega
  have hs : (double.word s rung / 9223372036854775808 % 2 == 1) = s := by
    unfold Format.word
    rw [d164]
    cases s
    · simp only [Bool.false_eq_true, if_false, beq_eq_false_iff_ne]; omega
    · simp only [if_true, beq_iff_eq]; omega
  unfold Format.read
  simp only [d164, d264, d364, d464, hm, hs]
theorem read_rung64 (s : Bool) (q t : Nat) (ht : t ≤ 9007199254740992) (hq : q = 0 ∨ 4503599627370496 ≤ t) (h : q ≤ 2040) :
    ∃ m e, double.read (double.word s (min (q * 4503599627370496 + t) 9218868437227405312)) = .number s m e ∧ ((m = t ∧ e = -1074 + q) ∨ (2 * m = t ∧ e = -1074 + q + 1)) := by
  have hmin : min (q * 4503599627370496 + t) 9218868437227405312 = q * 4503599627370496 + t := by omega
  rw [hmin, read_wd64 s _ (by omega)]
  by_cases h1 : q * 4503599627370496 + t < 4503599627370496
  · rw [if_pos h1]
    exact ⟨_, _, rfl, .inl ⟨by omega, by omega⟩⟩
  · rw [if_neg h1, if_pos (by omega)]
    refine ⟨_, _, rfl, ?_⟩
    by_cases h2 : t < 9007199254740992
    · left; constructor <;> omega
    · right; constructor <;> omega
theorem near_le64 (s : Bool) (m : Nat) (p k : Int) (hv : LeV m p k) (hp : -3000 ≤ p) (hk : -1074 ≤ k) (hk2 : k ≤ 900) : LeP double k (double.nearest s m p) := by
  unfold Format.nearest
  by_cases h0 : m = 0
  · rw [if_pos h0]
    refine ⟨s, 0, -1074, ?_, ?_, by omega, by omega⟩
    · rw [read_wd64 s 0 (by omega)]; rfl
    · exact LeV_zero _ _
  · rw [if_neg h0]
    have hl := Nat.log2_self_le h0
    have hu : m < 2 ^ (m.log2 + 1) := Nat.lt_log2_self
    generalize m.log2 = L at *
    simp only [d264, d364, d464, d564]
    unfold LeV at hv
    obtain ⟨P, hP⟩ : ∃ P : Nat, p + 3000 = P := ⟨(p + 3000).toNat, by omega⟩
    obtain ⟨K, hK⟩ : ∃ K : Nat, k + 3000 = K := ⟨(k + 3000).toNat, by omega⟩
    rw [hP, hK, Int.toNat_natCast, Int.toNat_natCast] at hv
    have hLP : L + P ≤ K := by
      have h1 : 2 ^ (L + P) ≤ 2 ^ K := by rw [Nat.pow_add]; exact Nat.le_trans (Nat.mul_le_mul_right _ hl) hv
      exact (Nat.pow_le_pow_iff_right (by omega)).1 h1
    obtain ⟨la, hla⟩ : ∃ la, max (p + (L : Int) - ((52 : Nat) : Int)) (-1074) = la := ⟨_, rfl⟩
    rw [hla]
    obtain ⟨Q, hQ⟩ : ∃ Q : Nat, la + 3000 = Q := ⟨(la + 3000).toNat, by omega⟩
    have hQK : Q ≤ K := by omega
    have e1 : (p - la).toNat = P - Q := by omega
    have e2 : (la - p).toNat = Q - P := by omega
    rw [e1, e2]
    have hle := cut_le s (m <<< (P - Q)) (Q - P) (2 ^ (K - Q)) (by
      rw [Nat.shiftLeft_eq]
      by_cases hc : Q ≤ P
      · rw [show Q - P = 0 by omega, Nat.pow_zero, Nat.mul_one]
        have := Nat.two_pow_pos Q
        refine Nat.le_of_mul_le_mul_right ?_ this
        rw [Nat.mul_assoc, ← Nat.pow_add, ← Nat.pow_add, show P - Q + Q = P by omega, show K - Q + Q = K by omega]
        exact hv
      · rw [show P - Q = 0 by omega, Nat.pow_zero, Nat.mul_one]
        have := Nat.two_pow_pos P
        refine Nat.le_of_mul_le_mul_right ?_ this
        rw [← Nat.pow_add, ← Nat.pow_add, show K - Q + (Q - P) + P = K by omega]
        exact hv)
    have hle2 := cut_le s (m <<< (P - Q)) (Q - P) 9007199254740992 (by
      rw [Nat.shiftLeft_eq]
      rw [show 9007199254740992 = 2 ^ 53 by decide]
      by_cases hc : Q ≤ P
      · rw [show Q - P = 0 by omega, Nat.pow_zero, Nat.mul_one]
        refine Nat.le_trans (Nat.mul_le_mul_right _ (Nat.le_of_lt hu)) ?_
        rw [← Nat.pow_add]
        exact Nat.pow_le_pow_right (by omega) (by omega)
      · rw [show P - Q = 0 by omega, Nat.pow_zero, Nat.mul_one]
        refine Nat.le_trans (Nat.le_of_lt hu) ?_
        rw [← Nat.pow_add]
        exact Nat.pow_le_pow_right (by omega) (by omega))
    have hge : la = -1074 ∨ 4503599627370496 ≤ Toward.even.cut s (m <<< (P - Q)) (Q - P) := by
      by_cases hc0 : la = -1074
      · exact .inl hc0
      · right
        refine cut_ge s _ _ _ ?_
        rw [Nat.shiftLeft_eq, show 4503599627370496 = 2 ^ 52 by decide]
        by_cases hc : Q ≤ P
        · rw [show Q - P = 0 by omega, Nat.pow_zero, Nat.mul_one]
          refine Nat.le_trans ?_ (Nat.mul_le_mul_right _ hl)
          rw [← Nat.pow_add]
          exact Nat.pow_le_pow_right (by omega) (by omega)
        · rw [show P - Q = 0 by omega, Nat.pow_zero, Nat.mul_one]
          refine Nat.le_trans ?_ hl
          rw [← Nat.pow_add]
          exact Nat.pow_le_pow_right (by omega) (by omega)
    generalize Toward.even.cut s (m <<< (P - Q)) (Q - P) = t at *
    obtain ⟨m', e', hr, hcase⟩ := read_rung64 s (la - -1074).toNat t hle2 (by omega) (by omega)
    refine ⟨s, m', e', hr, ?_, by omega, by omega⟩
    unfold LeV
    rw [hK, Int.toNat_natCast]
    have hfin : t * 2 ^ Q ≤ 2 ^ K := by
      have := Nat.mul_le_mul_right (2 ^ Q) hle
      rwa [← Nat.pow_add, show K - Q + Q = K by omega] at this
    rcases hcase with ⟨rfl, he⟩ | ⟨hm', he⟩
    · rw [show (e' + 3000).toNat = Q by omega]
      exact hfin
    · rw [show (e' + 3000).toNat = 1 + Q by omega, Nat.pow_add, ← Nat.mul_assoc, Nat.pow_one, Nat.mul_comm m' 2, hm']
      exact hfin

theorem d132 : single.signWeight = 2147483648 := by decide
theorem d232 : single.binade = 8388608 := by decide
theorem d332 : single.infRung = 2139095040 := by decide
theorem d432 : single.leastPlace = -149 := by decide
theorem d532 : single.fractionBits = 23 := rfl
theorem read_wd32 (s : Bool) (rung : Nat) (h : rung < 2147483648) : single.read (single.word s rung) =
    (if rung < 8388608 then .number s rung (-149) else if rung < 2139095040 then .number s (8388608 + rung % 8388608) (-149 + (rung / 8388608 - 1 : Nat)) else if rung = 2139095040 then .infinity s else .nan s (rung - 2139095040)) := by
  have hm : single.word s rung % 2147483648 = rung := by
    unfold Format.word
    rw [d132]
    cases s <;> simp <;> omega
  have hs : (single.word s rung / 2147483648 % 2 == 1) = s := by
    unfold Format.word
    rw [d132]
    cases s
    · simp only [Bool.false_eq_true, if_false, beq_eq_false_iff_ne]; omega
    · simp only [if_true, beq_iff_eq]; omega
  unfold Format.read
  simp only [d132, d232, d332, d432, hm, hs]
theorem read_rung32 (s : Bool) (q t : Nat) (ht : t ≤ 16777216) (hq : q = 0 ∨ 8388608 ≤ t) (h : q ≤ 250) :
    ∃ m e, single.read (single.word s (min (q * 8388608 + t) 2139095040)) = .number s m e ∧ ((m = t ∧ e = -149 + q) ∨ (2 * m = t ∧ e = -149 + q + 1)) := by
  have hmin : min (q * 8388608 + t) 2139095040 = q * 8388608 + t := by omega
  rw [hmin, read_wd32 s _ (by omega)]
  by_cases h1 : q * 8388608 + t < 8388608
  · rw [if_pos h1]
    exact ⟨_, _, rfl, .inl ⟨by omega, by omega⟩⟩
  · rw [if_neg h1, if_pos (by omega)]
    refine ⟨_, _, rfl, ?_⟩
    by_cases h2 : t < 16777216
    · left; constructor <;> omega
    · right; constructor <;> omega
theorem near_le32 (s : Bool) (m : Nat) (p k : Int) (hv : LeV m p k) (hp : -3000 ≤ p) (hk : -149 ≤ k) (hk2 : k ≤ 101) : LeP single k (single.nearest s m p) := by
  unfold Format.nearest
  by_cases h0 : m = 0
  · rw [if_pos h0]
    refine ⟨s, 0, -149, ?_, ?_, by omega, by omega⟩
    · rw [read_wd32 s 0 (by omega)]; rfl
    · exact LeV_zero _ _
  · rw [if_neg h0]
    have hl := Nat.log2_self_le h0
    have hu : m < 2 ^ (m.log2 + 1) := Nat.lt_log2_self
    generalize m.log2 = L at *
    simp only [d232, d332, d432, d532]
    unfold LeV at hv
    obtain ⟨P, hP⟩ : ∃ P : Nat, p + 3000 = P := ⟨(p + 3000).toNat, by omega⟩
    obtain ⟨K, hK⟩ : ∃ K : Nat, k + 3000 = K := ⟨(k + 3000).toNat, by omega⟩
    rw [hP, hK, Int.toNat_natCast, Int.toNat_natCast] at hv
    have hLP : L + P ≤ K := by
      have h1 : 2 ^ (L + P) ≤ 2 ^ K := by rw [Nat.pow_add]; exact Nat.le_trans (Nat.mul_le_mul_right _ hl) hv
      exact (Nat.pow_le_pow_iff_right (by omega)).1 h1
    obtain ⟨la, hla⟩ : ∃ la, max (p + (L : Int) - ((23 : Nat) : Int)) (-149) = la := ⟨_, rfl⟩
    rw [hla]
    obtain ⟨Q, hQ⟩ : ∃ Q : Nat, la + 3000 = Q := ⟨(la + 3000).toNat, by omega⟩
    have hQK : Q ≤ K := by omega
    have e1 : (p - la).toNat = P - Q := by omega
    have e2 : (la - p).toNat = Q - P := by omega
    rw [e1, e2]
    have hle := cut_le s (m <<< (P - Q)) (Q - P) (2 ^ (K - Q)) (by
      rw [Nat.shiftLeft_eq]
      by_cases hc : Q ≤ P
      · rw [show Q - P = 0 by omega, Nat.pow_zero, Nat.mul_one]
        have := Nat.two_pow_pos Q
        refine Nat.le_of_mul_le_mul_right ?_ this
        rw [Nat.mul_assoc, ← Nat.pow_add, ← Nat.pow_add, show P - Q + Q = P by omega, show K - Q + Q = K by omega]
        exact hv
      · rw [show P - Q = 0 by omega, Nat.pow_zero, Nat.mul_one]
        have := Nat.two_pow_pos P
        refine Nat.le_of_mul_le_mul_right ?_ this
        rw [← Nat.pow_add, ← Nat.pow_add, show K - Q + (Q - P) + P = K by omega]
        exact hv)
    have hle2 := cut_le s (m <<< (P - Q)) (Q - P) 16777216 (by
      rw [Nat.shiftLeft_eq]
      rw [show 16777216 = 2 ^ 24 by decide]
      by_cases hc : Q ≤ P
      · rw [show Q - P = 0 by omega, Nat.pow_zero, Nat.mul_one]
        refine Nat.le_trans (Nat.mul_le_mul_right _ (Nat.le_of_lt hu)) ?_
        rw [← Nat.pow_add]
        exact Nat.pow_le_pow_right (by omega) (by omega)
      · rw [show P - Q = 0 by omega, Nat.pow_zero, Nat.mul_one]
        refine Nat.le_trans (Nat.le_of_lt hu) ?_
        rw [← Nat.pow_add]
        exact Nat.pow_le_pow_right (by omega) (by omega))
    have hge : la = -149 ∨ 8388608 ≤ Toward.even.cut s (m <<< (P - Q)) (Q - P) := by
      by_cases hc0 : la = -149
      · exact .inl hc0
      · right
        refine cut_ge s _ _ _ ?_
        rw [Nat.shiftLeft_eq, show 8388608 = 2 ^ 23 by decide]
        by_cases hc : Q ≤ P
        · rw [show Q - P = 0 by omega, Nat.pow_zero, Nat.mul_one]
          refine Nat.le_trans ?_ (Nat.mul_le_mul_right _ hl)
          rw [← Nat.pow_add]
          exact Nat.pow_le_pow_right (by omega) (by omega)
        · rw [show P - Q = 0 by omega, Nat.pow_zero, Nat.mul_one]
          refine Nat.le_trans ?_ hl
          rw [← Nat.pow_add]
          exact Nat.pow_le_pow_right (by omega) (by omega)
    generalize Toward.even.cut s (m <<< (P - Q)) (Q - P) = t at *
    obtain ⟨m', e', hr, hcase⟩ := read_rung32 s (la - -149).toNat t hle2 (by omega) (by omega)
    refine ⟨s, m', e', hr, ?_, by omega, by omega⟩
    unfold LeV
    rw [hK, Int.toNat_natCast]
    have hfin : t * 2 ^ Q ≤ 2 ^ K := by
      have := Nat.mul_le_mul_right (2 ^ Q) hle
      rwa [← Nat.pow_add, show K - Q + Q = K by omega] at this
    rcases hcase with ⟨rfl, he⟩ | ⟨hm', he⟩
    · rw [show (e' + 3000).toNat = Q by omega]
      exact hfin
    · rw [show (e' + 3000).toNat = 1 + Q by omega, Nat.pow_add, ← Nat.mul_assoc, Nat.pow_one, Nat.mul_comm m' 2, hm']
      exact hfin

theorem mul_le {a b : Int} {x y : Nat} (h1 : LeP double a x) (h2 : LeP double b y) (hk : -1074 ≤ a + b) (hk2 : a + b ≤ 900) (ha : -1500 ≤ a) (hb : -1500 ≤ b) : ∃ r, double.mul x y = some r ∧ LeP double (a + b) r := by
  obtain ⟨s, m, i, hx, hm, hi, hi2⟩ := h1
  obtain ⟨t, n, j, hy, hn, hj, hj2⟩ := h2
  unfold Format.mul
  rw [hx, hy]
  refine ⟨_, rfl, near_le64 _ _ _ _ ?_ (by omega) hk (by omega)⟩
  unfold LeV at *
  have h := Nat.mul_le_mul hm hn
  rw [← Nat.pow_add] at h
  obtain ⟨c, hc⟩ : ∃ c : Nat, c = 3000 := ⟨_, rfl⟩
  have e : m * 2 ^ (i + 3000).toNat * (n * 2 ^ (j + 3000).toNat) = m * n * 2 ^ (i + j + 3000).toNat * 2 ^ c := by
    have e2 : (2 : Nat) ^ (i + j + 3000).toNat * 2 ^ c = 2 ^ (i + 3000).toNat * 2 ^ (j + 3000).toNat := by rw [← Nat.pow_add, ← Nat.pow_add]; congr 1; omega
    rw [Nat.mul_assoc (m * n), e2]
    ac_rfl
  rw [e] at h
  have e3 : (a + 3000).toNat + (b + 3000).toNat = (a + b + 3000).toNat + c := by omega
  rw [e3, Nat.pow_add] at h
  exact Nat.le_of_mul_le_mul_right h (Nat.two_pow_pos c)
theorem signed_abs (s : Bool) (m u : Nat) : (signed s m u).natAbs = m * 2 ^ u := by
  unfold signed
  rw [Nat.shiftLeft_eq]
  cases s
  · exact Int.natAbs_natCast _
  · exact (Int.natAbs_neg _).trans (Int.natAbs_natCast _)
theorem add_le {a : Int} {x y : Nat} (h1 : LeP double a x) (h2 : LeP double a y) (ha : -1074 ≤ a) (ha2 : a ≤ 800) : ∃ r, double.add x y = some r ∧ LeP double (a + 1) r := by
  obtain ⟨s, m, i, hx, hm, hi, hi2⟩ := h1
  obtain ⟨t, n, j, hy, hn, hj, hj2⟩ := h2
  unfold Format.add
  rw [hx, hy]
  refine ⟨_, rfl, near_le64 _ _ _ _ ?_ (by omega) (by omega) (by omega)⟩
  unfold LeV at *
  have hab := Int.natAbs_add_le (signed s m (i - min i j).toNat) (signed t n (j - min i j).toNat)
  rw [signed_abs, signed_abs] at hab
  refine Nat.le_trans (Nat.mul_le_mul_right _ hab) ?_
  rw [Nat.add_mul, Nat.mul_assoc, Nat.mul_assoc, ← Nat.pow_add, ← Nat.pow_add]
  rw [show (i - min i j).toNat + (min i j + 3000).toNat = (i + 3000).toNat by omega, show (j - min i j).toNat + (min i j + 3000).toNat = (j + 3000).toNat by omega, show (a + 1 + 3000).toNat = (a + 3000).toNat + 1 by omega, Nat.pow_succ]
  omega
/-- the magnitude is at least 1 -/
def GeO (n : Nat) (j : Int) : Prop := ∀ c : Nat, c = 3000 → 2 ^ c ≤ n * 2 ^ (j + 3000).toNat
theorem quo_le {s : Bool} {m n : Nat} {i j : Int} (x y : Nat) (hx : double.read x = .number s m i) (hy : double.read y = .number false n j) (hm : LeV m i (-1)) (hn : GeO n j) (hi : -1100 ≤ i) (hi2 : i ≤ 1100) (hj : -1100 ≤ j) (hj2 : j ≤ 1100) (hml : m.log2 ≤ 60) (hnl : n.log2 ≤ 60) :
    ∃ r, double.div x y = some r ∧ LeP double (-1) r := by
  obtain ⟨c, hc⟩ : ∃ c : Nat, c = 3000 := ⟨_, rfl⟩
  have hn := hn c hc
  have hn0 : n ≠ 0 := by
    rintro rfl
    have := Nat.two_pow_pos c
    omega
  unfold Format.div
  rw [hx, hy]
  simp only [Datum.quotient, if_neg hn0, d564, Option.map_some, Format.write]
  refine ⟨_, rfl, near_le64 _ _ _ _ ?_ ?_ (by omega) (by omega)⟩
  · by_cases h0 : m = 0
    · subst h0
      have e0 : 2 * (0 <<< (52 + 2 + n.log2 - Nat.log2 0) / n) + (0 <<< (52 + 2 + n.log2 - Nat.log2 0) % n != 0).toNat = 0 := by simp [Nat.zero_shiftLeft]
      rw [e0]
      exact LeV_zero _ _
    · have h1 := Nat.log2_self_le h0
      have h2 : n < 2 ^ (n.log2 + 1) := Nat.lt_log2_self
      generalize m.log2 = Lm at *
      generalize n.log2 = Ln at *
      unfold LeV at *
      obtain ⟨I, hI⟩ : ∃ I : Nat, i + 3000 = I := ⟨(i + 3000).toNat, by omega⟩
      obtain ⟨J, hJ⟩ : ∃ J : Nat, j + 3000 = J := ⟨(j + 3000).toNat, by omega⟩
      obtain ⟨b, hb⟩ : ∃ b : Nat, c = b + 1 := ⟨2999, by omega⟩
      rw [hI, Int.toNat_natCast, show ((-1 : Int) + 3000).toNat = b by omega] at hm
      rw [hJ, Int.toNat_natCast] at hn
      have hmn : m * 2 ^ (I + 1) ≤ n * 2 ^ J := by
        refine Nat.le_trans ?_ hn
        rw [Nat.pow_succ, ← Nat.mul_assoc, hb, Nat.pow_succ]
        exact Nat.mul_le_mul_right _ hm
      have hlt : Lm + (I + 1) < Ln + 1 + J := by
        refine (Nat.pow_lt_pow_iff_right (a := 2) (by omega)).1 ?_
        rw [Nat.pow_add, Nat.pow_add 2 (Ln + 1) J]
        refine Nat.lt_of_le_of_lt (Nat.le_trans (Nat.mul_le_mul_right _ h1) hmn) ?_
        exact Nat.mul_lt_mul_of_pos_right h2 (Nat.two_pow_pos J)
      obtain ⟨M, hM⟩ : ∃ M, 52 + 2 + Ln - Lm = M := ⟨_, rfl⟩
      rw [hM]
      obtain ⟨X, hX⟩ : ∃ X : Nat, X + I + 1 = J + M := ⟨J + M - I - 1, by omega⟩
      have hA : m * 2 ^ M ≤ 2 ^ X * n := by
        refine Nat.le_of_mul_le_mul_right ?_ (Nat.two_pow_pos (I + 1))
        have e1 : m * 2 ^ M * 2 ^ (I + 1) = m * 2 ^ (I + 1) * 2 ^ M := by ac_rfl
        have e2 : 2 ^ X * n * 2 ^ (I + 1) = n * 2 ^ J * 2 ^ M := by
          rw [Nat.mul_comm (2 ^ X) n, Nat.mul_assoc, Nat.mul_assoc, ← Nat.pow_add, ← Nat.pow_add]
          congr 2
        rw [e1, e2]
        exact Nat.mul_le_mul_right _ hmn
      rw [Nat.shiftLeft_eq]
      have hQ : 2 * (m * 2 ^ M / n) + (m * 2 ^ M % n != 0).toNat ≤ 2 * 2 ^ X := by
        generalize m * 2 ^ M = d at *
        generalize 2 ^ X = A at *
        have hdm := Nat.div_add_mod d n
        have hle : d / n ≤ A := Nat.div_le_of_le_mul (by rw [Nat.mul_comm]; exact hA)
        by_cases hlt : d / n < A
        · cases (d % n != 0) <;> simp <;> omega
        · have heq : d / n = A := by omega
          have hr : d % n = 0 := by
            rw [heq, Nat.mul_comm] at hdm
            omega
          rw [hr, heq]
          simp
      generalize 2 * (m * 2 ^ M / n) + (m * 2 ^ M % n != 0).toNat = Q at *
      refine Nat.le_trans (Nat.mul_le_mul_right _ hQ) ?_
      rw [show 2 * 2 ^ X = 2 ^ (X + 1) by rw [Nat.pow_succ, Nat.mul_comm], ← Nat.pow_add]
      exact Nat.pow_le_pow_right (by omega) (by omega)
  · omega

theorem read_log {x : Nat} {s : Bool} {m : Nat} {e : Int} (h : double.read x = .number s m e) : m.log2 ≤ 60 := by
  have hm : m < 2 ^ 61 := by
    rw [show (2 : Nat) ^ 61 = 2305843009213693952 by decide]
    unfold Format.read at h
    simp only [d164, d264, d364, d464] at h
    split at h
    · injection h with _ a b
      omega
    · split at h
      · injection h with _ a b
        omega
      · split at h <;> cases h
  by_cases h0 : m = 0
  · subst h0; decide
  · have := (Nat.log2_lt h0).2 hm
    omega
theorem near_ge (N : Nat) (p : Int) (h1 : 9007199254740992 ≤ N) (h2 : N < 18014398509481984) (hp : -1000 ≤ p) (hp2 : p ≤ 900) :
    ∃ n j, double.read (double.nearest false N p) = .number false n j ∧ 4503599627370496 * 2 ^ (p + 1 + 3000).toNat ≤ n * 2 ^ (j + 3000).toNat ∧ -1100 ≤ j ∧ j ≤ 1100 := by
  have h0 : N ≠ 0 := by omega
  have hL : N.log2 = 53 := by
    have a1 : N.log2 < 54 := (Nat.log2_lt h0).2 (by omega)
    have a2 : 53 ≤ N.log2 := (Nat.le_log2 h0).2 (by omega)
    omega
  unfold Format.nearest
  rw [if_neg h0, hL]
  simp only [d264, d364, d464, d564]
  have hla : max (p + ((53 : Nat) : Int) - ((52 : Nat) : Int)) (-1074) = p + 1 := by omega
  rw [hla, show (p - (p + 1)).toNat = 0 by omega, show (p + 1 - p).toNat = 1 by omega, Nat.shiftLeft_zero]
  have hge := cut_ge false N 1 4503599627370496 (by omega)
  have hle := cut_le false N 1 9007199254740992 (by omega)
  generalize Toward.even.cut false N 1 = t at *
  obtain ⟨m', e', hr, hcase⟩ := read_rung64 false (p + 1 - -1074).toNat t hle (.inr hge) (by omega)
  refine ⟨m', e', hr, ?_, by omega, by omega⟩
  rcases hcase with ⟨rfl, he⟩ | ⟨hm', he⟩
  · rw [show (e' + 3000).toNat = (p + 1 + 3000).toNat by omega]
    exact Nat.mul_le_mul_right _ hge
  · rw [show (e' + 3000).toNat = 1 + (p + 1 + 3000).toNat by omega, Nat.pow_add, ← Nat.mul_assoc, Nat.pow_one, Nat.mul_comm m' 2, hm']
    exact Nat.mul_le_mul_right _ hge
theorem pm1 {E f : Nat} (h : InD E f) (hE : (E = 1023 ∧ f < 6755399441055744) ∨ (E = 1022 ∧ 6755399441055744 ≤ f)) :
    ∃ a b s, double.sub (D E f) 4607182418800017408 = some a ∧ double.add (D E f) 4607182418800017408 = some b ∧ double.div a b = some s ∧ LeP double (-1) s := by
  have e1 : double.read 4607182418800017408 = .number false 4503599627370496 (-52) := by decide +kernel
  obtain ⟨hA, hB, h3, h4⟩ := h
  -- the difference
  have hsub : ∃ a s m i, double.sub (D E f) 4607182418800017408 = some a ∧ double.read a = .number s m i ∧ LeV m i (-1) ∧ -1100 ≤ i ∧ i ≤ 1100 ∧ m.log2 ≤ 60 := by
    unfold Format.sub
    rw [read_D ⟨hA, hB, h3, h4⟩, e1]
    simp only [Datum.opposite, Datum.sum, Option.map_some, Format.write, Bool.not_false]
    have hv : LeV (signed false f (-1075 + (E : Int) - min (-1075 + (E : Int)) (-52)).toNat + signed true 4503599627370496 (-52 - min (-1075 + (E : Int)) (-52)).toNat).natAbs (min (-1075 + (E : Int)) (-52)) (-1) := by
      rcases hE with ⟨rfl, hf⟩ | ⟨rfl, hf⟩
      · have e : (signed false f (-1075 + ((1023 : Nat) : Int) - min (-1075 + ((1023 : Nat) : Int)) (-52)).toNat + signed true 4503599627370496 (-52 - min (-1075 + ((1023 : Nat) : Int)) (-52)).toNat).natAbs = f - 4503599627370496 := by
          rw [show (-1075 + ((1023 : Nat) : Int) - min (-1075 + ((1023 : Nat) : Int)) (-52)).toNat = 0 by decide, show (-52 - min (-1075 + ((1023 : Nat) : Int)) (-52)).toNat = 0 by decide]
          simp only [signed, Nat.shiftLeft_zero, if_true, Bool.false_eq_true, if_false]
          omega
        rw [e]
        exact LeV_pow (d := 51) (by omega) (by omega) (by omega)
      · have e : (signed false f (-1075 + ((1022 : Nat) : Int) - min (-1075 + ((1022 : Nat) : Int)) (-52)).toNat + signed true 4503599627370496 (-52 - min (-1075 + ((1022 : Nat) : Int)) (-52)).toNat).natAbs = 9007199254740992 - f := by
          rw [show (-1075 + ((1022 : Nat) : Int) - min (-1075 + ((1022 : Nat) : Int)) (-52)).toNat = 0 by decide, show (-52 - min (-1075 + ((1022 : Nat) : Int)) (-52)).toNat = 1 by decide]
          simp only [signed, Nat.shiftLeft_zero, if_true, Bool.false_eq_true, if_false, Nat.shiftLeft_eq]
          omega
        rw [e]
        exact LeV_pow (d := 52) (by omega) (by omega) (by omega)
    generalize (if signed false f (-1075 + (E : Int) - min (-1075 + (E : Int)) (-52)).toNat + signed true 4503599627370496 (-52 - min (-1075 + (E : Int)) (-52)).toNat = 0 then (false && true) else decide (signed false f (-1075 + (E : Int) - min (-1075 + (E : Int)) (-52)).toNat + signed true 4503599627370496 (-52 - min (-1075 + (E : Int)) (-52)).toNat < 0)) = sg at *
    obtain ⟨s, m, i, hr, hl, h5, h6⟩ := near_le64 sg _ _ _ hv (by omega) (by omega) (by omega)
    exact ⟨_, s, m, i, rfl, hr, hl, h5, h6, read_log hr⟩
  have hadd : ∃ b n j, double.add (D E f) 4607182418800017408 = some b ∧ double.read b = .number false n j ∧ GeO n j ∧ -1100 ≤ j ∧ j ≤ 1100 ∧ n.log2 ≤ 60 := by
    unfold Format.add
    rw [read_D ⟨hA, hB, h3, h4⟩, e1]
    simp only [Datum.sum, Option.map_some, Format.write]
    rcases hE with ⟨rfl, hf⟩ | ⟨rfl, hf⟩
    · rw [show (-1075 + ((1023 : Nat) : Int) - min (-1075 + ((1023 : Nat) : Int)) (-52)).toNat = 0 by decide, show (-52 - min (-1075 + ((1023 : Nat) : Int)) (-52)).toNat = 0 by decide, show min (-1075 + ((1023 : Nat) : Int)) (-52) = -52 by decide]
      have e : signed false f 0 + signed false 4503599627370496 0 = ((f + 4503599627370496 : Nat) : Int) := by
        simp only [signed, Nat.shiftLeft_zero, Bool.false_eq_true, if_false]
        omega
      rw [e, Int.natAbs_natCast, if_neg (by omega), show decide ((((f + 4503599627370496 : Nat) : Int)) < 0) = false by simp; omega]
      obtain ⟨n, j, hr, hv, h5, h6⟩ := near_ge (f + 4503599627370496) (-52) (by omega) (by omega) (by omega) (by omega)
      refine ⟨_, n, j, rfl, hr, fun c hc => Nat.le_trans ?_ hv, h5, h6, read_log hr⟩
      rw [show (4503599627370496 : Nat) = 2 ^ 52 by decide, ← Nat.pow_add]
      exact Nat.pow_le_pow_right (by omega) (by omega)
    · rw [show (-1075 + ((1022 : Nat) : Int) - min (-1075 + ((1022 : Nat) : Int)) (-52)).toNat = 0 by decide, show (-52 - min (-1075 + ((1022 : Nat) : Int)) (-52)).toNat = 1 by decide, show min (-1075 + ((1022 : Nat) : Int)) (-52) = -53 by decide]
      have e : signed false f 0 + signed false 4503599627370496 1 = ((f + 9007199254740992 : Nat) : Int) := by
        simp only [signed, Nat.shiftLeft_eq, Bool.false_eq_true, if_false]
        omega
      rw [e, Int.natAbs_natCast, if_neg (by omega), show decide ((((f + 9007199254740992 : Nat) : Int)) < 0) = false by simp; omega]
      obtain ⟨n, j, hr, hv, h5, h6⟩ := near_ge (f + 9007199254740992) (-53) (by omega) (by omega) (by omega) (by omega)
      refine ⟨_, n, j, rfl, hr, fun c hc => Nat.le_trans ?_ hv, h5, h6, read_log hr⟩
      rw [show (4503599627370496 : Nat) = 2 ^ 52 by decide, ← Nat.pow_add]
      exact Nat.pow_le_pow_right (by omega) (by omega)
  obtain ⟨a, s, m, i, ha, hra, hla, h5, h6, h7⟩ := hsub
  obtain ⟨b, n, j, hb, hrb, hlb, g5, g6, g7⟩ := hadd
  obtain ⟨r, hr, hl⟩ := quo_le a b hra hrb hla hlb h5 h6 g5 g6 h7 g7
  exact ⟨a, b, r, ha, hb, hr, hl⟩

theorem order_D {E f E' f' : Nat} (h : InD E f) (h' : InD E' f') :
    double.order (D E f) (D E' f') = some (if E < E' then .lt else if E' < E then .gt else compare (f : Int) (f' : Int)) := by
  unfold Format.order
  rw [read_D h, read_D h']
  obtain ⟨h1, h2, h3, h4⟩ := h
  obtain ⟨g1, g2, g3, g4⟩ := h'
  simp only [Datum.order]
  congr 1
  have key : ∀ (a b : Nat), compare (signed false a 0) (signed false b 0) = compare (a : Int) (b : Int) := fun a b => by
    simp only [signed, Nat.shiftLeft_zero, Bool.false_eq_true, if_false]
  by_cases hlt : E < E'
  · rw [if_pos hlt]
    have e1 : min (-1075 + (E : Int)) (-1075 + (E' : Int)) = -1075 + (E : Int) := by omega
    rw [e1, show (-1075 + (E : Int) - (-1075 + (E : Int))).toNat = 0 by omega]
    obtain ⟨d, hd⟩ : ∃ d : Nat, (-1075 + (E' : Int) - (-1075 + (E : Int))).toNat = d + 1 := ⟨E' - E - 1, by omega⟩
    rw [hd]
    simp only [signed, Nat.shiftLeft_zero, Bool.false_eq_true, if_false, Nat.shiftLeft_eq]
    have h2 : f < f' * 2 ^ (d + 1) := by
      have := Nat.two_pow_pos d
      rw [Nat.pow_succ, ← Nat.mul_assoc, Nat.mul_right_comm]
      have h5 : f' * 2 ≤ f' * 2 * 2 ^ d := Nat.le_mul_of_pos_right _ this
      omega
    rw [Int.compare_eq_lt]
    omega
  · rw [if_neg hlt]
    by_cases hgt : E' < E
    · rw [if_pos hgt]
      have e1 : min (-1075 + (E : Int)) (-1075 + (E' : Int)) = -1075 + (E' : Int) := by omega
      rw [e1, show (-1075 + (E' : Int) - (-1075 + (E' : Int))).toNat = 0 by omega]
      obtain ⟨d, hd⟩ : ∃ d : Nat, (-1075 + (E : Int) - (-1075 + (E' : Int))).toNat = d + 1 := ⟨E - E' - 1, by omega⟩
      rw [hd]
      simp only [signed, Nat.shiftLeft_zero, Bool.false_eq_true, if_false, Nat.shiftLeft_eq]
      have h2 : f' < f * 2 ^ (d + 1) := by
        have := Nat.two_pow_pos d
        rw [Nat.pow_succ, ← Nat.mul_assoc, Nat.mul_right_comm]
        have h5 : f * 2 ≤ f * 2 * 2 ^ d := Nat.le_mul_of_pos_right _ this
        omega
      rw [Int.compare_eq_gt]
      omega
    · rw [if_neg hgt]
      have hE : E = E' := by omega
      subst hE
      rw [show min (-1075 + (E : Int)) (-1075 + (E : Int)) = -1075 + (E : Int) by omega, show (-1075 + (E : Int) - (-1075 + (E : Int))).toNat = 0 by omega]
      exact key f f'
theorem lt75 {E f : Nat} (h : InD E f) : (double.order (D E f) 4604930618986332160 == some .lt) = decide (E < 1022 ∨ (E = 1022 ∧ f < 6755399441055744)) := by
  have e : (4604930618986332160 : Nat) = D 1022 6755399441055744 := by decide +kernel
  rw [e, order_D h ⟨by omega, by omega, by omega, by omega⟩]
  by_cases h1 : E < 1022
  · simp [h1]
  · by_cases h2 : 1022 < E
    · simp [h1, h2]; omega
    · have : E = 1022 := by omega
      subst this
      simp only [Nat.lt_irrefl, if_false, false_or, true_and]
      rcases Int.lt_trichotomy (f : Int) ((6755399441055744 : Nat) : Int) with h3 | h3 | h3
      · rw [Int.compare_eq_lt.2 h3]; simp; omega
      · rw [Int.compare_eq_eq.2 h3]; simp; omega
      · rw [Int.compare_eq_gt.2 h3]; simp; omega
theorem ge15 {E f : Nat} (h : InD E f) : (double.order (D E f) 4609434218613702656 == some .gt || double.order (D E f) 4609434218613702656 == some .eq) = decide (1023 < E ∨ (E = 1023 ∧ 6755399441055744 ≤ f)) := by
  have e : (4609434218613702656 : Nat) = D 1023 6755399441055744 := by decide +kernel
  rw [e, order_D h ⟨by omega, by omega, by omega, by omega⟩]
  by_cases h1 : E < 1023
  · simp [h1]; omega
  · by_cases h2 : 1023 < E
    · simp [h1, h2]
    · have : E = 1023 := by omega
      subst this
      simp only [Nat.lt_irrefl, if_false, false_or, true_and]
      rcases Int.lt_trichotomy (f : Int) ((6755399441055744 : Nat) : Int) with h3 | h3 | h3
      · rw [Int.compare_eq_lt.2 h3]; simp; omega
      · rw [Int.compare_eq_eq.2 h3]; simp; omega
      · rw [Int.compare_eq_gt.2 h3]; simp; omega
/-- the exponent at which a significand lies in [0.75, 1.5) -/
def nrm (f : Nat) : Nat := if f < 6755399441055744 then 1023 else 1022
theorem nrm_cases (f : Nat) : (nrm f = 1023 ∧ f < 6755399441055744) ∨ (nrm f = 1022 ∧ 6755399441055744 ≤ f) := by
  unfold nrm
  by_cases h : f < 6755399441055744
  · left; exact ⟨if_pos h, h⟩
  · right; exact ⟨if_neg h, by omega⟩
theorem lt75n {E f : Nat} (h : InD E f) : (double.order (D E f) 4604930618986332160 == some .lt) = decide (E < nrm f) := by
  rw [lt75 h]
  have := nrm_cases f
  exact decide_eq_decide.2 (by omega)
theorem ge15n {E f : Nat} (h : InD E f) : (double.order (D E f) 4609434218613702656 == some .gt || double.order (D E f) 4609434218613702656 == some .eq) = decide (nrm f < E) := by
  rw [ge15 h]
  have := nrm_cases f
  exact decide_eq_decide.2 (by omega)
theorem near_up {m : Nat} {e : Int} (h0 : m ≠ 0) (hm : m < 16777216) (h1 : -149 ≤ e) (h2 : e ≤ 104) :
    ∃ E f, InD E f ∧ 874 ≤ E ∧ E ≤ 1150 ∧ double.nearest false m e = D E f := by
  have hl := Nat.log2_self_le h0
  have hu : m < 2 ^ (m.log2 + 1) := Nat.lt_log2_self
  have hL : m.log2 ≤ 23 := by
    have := (Nat.log2_lt h0 (k := 24)).2 (by omega)
    omega
  generalize hLL : m.log2 = L at *
  have hf1 : 4503599627370496 ≤ m * 2 ^ (52 - L) := by
    calc 4503599627370496 = 2 ^ 52 := by decide
      _ = 2 ^ L * 2 ^ (52 - L) := by rw [← Nat.pow_add]; congr 1; omega
      _ ≤ m * 2 ^ (52 - L) := Nat.mul_le_mul_right _ hl
  have hf2 : m * 2 ^ (52 - L) < 9007199254740992 := by
    calc m * 2 ^ (52 - L) < 2 ^ (L + 1) * 2 ^ (52 - L) := Nat.mul_lt_mul_of_pos_right hu (Nat.two_pow_pos _)
      _ = 2 ^ 53 := by rw [← Nat.pow_add]; congr 1; omega
      _ = 9007199254740992 := by decide
  refine ⟨(e + L + 1023).toNat, m * 2 ^ (52 - L), ⟨by omega, by omega, hf1, hf2⟩, by omega, by omega, ?_⟩
  have hin : InD (e + L + 1023).toNat (m * 2 ^ (52 - L)) := ⟨by omega, by omega, hf1, hf2⟩
  have hmin := min_rung hin
  unfold Format.nearest
  rw [if_neg h0, hLL]
  simp only [d264, d364, d464, d564]
  have hla : max (e + (L : Int) - ((52 : Nat) : Int)) (-1074) = e + L - 52 := by omega
  rw [hla, show (e - (e + (L : Int) - 52)).toNat = 52 - L by omega, show (e + (L : Int) - 52 - e).toNat = 0 by omega, Nat.shiftLeft_eq]
  have hc : Toward.even.cut false (m * 2 ^ (52 - L)) 0 = m * 2 ^ (52 - L) := by
    have := cut_exact false (m * 2 ^ (52 - L)) 0
    rwa [Nat.shiftLeft_zero] at this
  rw [hc, word_pos, show (e + (L : Int) - 52 - -1074).toNat = (e + (L : Int) + 1023).toNat - 1 by omega]
  exact hmin
theorem int_steps : ∀ n : Fin 301, floatBits .sub .f64 (floatOfInt .f64 ((n : Int) - 150)) 4607182418800017408 = some (floatOfInt .f64 ((n : Int) - 151)) ∧ floatBits .add .f64 (floatOfInt .f64 ((n : Int) - 150)) 4607182418800017408 = some (floatOfInt .f64 ((n : Int) - 149)) := by decide +kernel
theorem int_down {k : Nat} (h : k ≤ 150) : floatBits .sub .f64 (floatOfInt .f64 (-(k : Int))) 4607182418800017408 = some (floatOfInt .f64 (-((k + 1 : Nat) : Int))) := by
  have := (int_steps ⟨150 - k, by omega⟩).1
  have e1 : (((⟨150 - k, by omega⟩ : Fin 301) : Int) - 150) = -(k : Int) := by simp; omega
  have e2 : (((⟨150 - k, by omega⟩ : Fin 301) : Int) - 151) = -((k + 1 : Nat) : Int) := by simp; omega
  rwa [e1, e2] at this
theorem int_up {k : Nat} (h : k ≤ 150) : floatBits .add .f64 (floatOfInt .f64 (k : Int)) 4607182418800017408 = some (floatOfInt .f64 ((k + 1 : Nat) : Int)) := by
  have := (int_steps ⟨150 + k, by omega⟩).2
  have e1 : (((⟨150 + k, by omega⟩ : Fin 301) : Int) - 150) = (k : Int) := by simp; omega
  have e2 : (((⟨150 + k, by omega⟩ : Fin 301) : Int) - 149) = ((k + 1 : Nat) : Int) := by simp; omega
  rwa [e1, e2] at this
end Go.Proofs.Ytjeaiihgedennaa
