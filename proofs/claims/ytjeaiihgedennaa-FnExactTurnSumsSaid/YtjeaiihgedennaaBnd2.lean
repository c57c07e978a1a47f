/- Bounds on floats, operation by operation. Conditions: what is stated. -/
import Derived.Test.YtjeaiihgedennaaBnd
namespace Go.Proofs.Ytjeaiihgedennaa
open Go.ChangeShapes Go.WideShapes Go.ChangeAt Go.RowKit

/-- the bits of a number of magnitude at most n * 2^t; with nn, not below 0 -/
def Bd (k : FloatKind) (nn : Bool) (b n : Nat) (t : Int) : Prop :=
  ∃ s m e, k.format.read b = .number s m e ∧ m * sc e ≤ n * sc t ∧ -1074 ≤ e ∧ (nn = true → s = true → m = 0)
theorem Bd.any {k : FloatKind} {nn : Bool} {b n : Nat} {t : Int} (h : Bd k nn b n t) : Bd k false b n t := by
  obtain ⟨s, m, e, h1, h2, h3, -⟩ := h
  exact ⟨s, m, e, h1, h2, h3, by simp⟩
theorem Bd.weak {k : FloatKind} {nn : Bool} {b n : Nat} {t : Int} {N : Nat} {q : Int} (h : Bd k nn b n t) (ht : -5000 ≤ t) (hq : -5000 ≤ q) (hl : leB n t N q = true) : Bd k nn b N q := by
  obtain ⟨s, m, e, h1, h2, h3, h4⟩ := h
  exact ⟨s, m, e, h1, Nat.le_trans h2 (leB_sc ht hq hl), h3, h4⟩
theorem signed_abs (s : Bool) (m u : Nat) : (Ieee.signed s m u).natAbs = m * 2 ^ u := by
  unfold Ieee.signed
  rw [Nat.shiftLeft_eq]
  cases s
  · exact Int.natAbs_natCast _
  · show (-((m * 2 ^ u : Nat) : Int)).natAbs = _
    rw [Int.natAbs_neg]
    exact Int.natAbs_natCast _
/-- writing a number -/
theorem write_bd (k : FloatKind) (s nn : Bool) (m : Nat) (p : Int) (N : Nat) (q : Int) (hp : -4900 ≤ p) (hN : fits k N q = true) (hle : m * sc p ≤ N * sc q) (hs : nn = true → s = true → m = 0) :
    Bd k nn (k.format.write (.number s m p)) N q := by
  obtain ⟨m', e', h1, h2, h3, h4⟩ := near_le k s m p N q hp hN hle
  exact ⟨s, m', e', h1, h2, h3, fun a b => h4 (hs a b)⟩
theorem bd_mul {k : FloatKind} {a b : Bool} {x y n n' : Nat} {t t' : Int} (N : Nat) (q : Int) (hx : Bd k a x n t) (hy : Bd k b y n' t') (ht : -2400 ≤ t ∧ -2400 ≤ t' ∧ -2400 ≤ q) (hN : fits k N q = true) (hl : leB (n * n') (t + t') N q = true) :
    ∃ r, floatBits .mul k x y = some r ∧ Bd k (a && b) r N q := by
  obtain ⟨s, m, e, h1, h2, h3, h4⟩ := hx
  obtain ⟨s', m', e', g1, g2, g3, g4⟩ := hy
  simp only [floatBits, Ieee.Format.mul, h1, g1, Ieee.Datum.product, Option.map_some]
  refine ⟨_, rfl, write_bd k _ _ _ _ N q (by omega) hN ?_ ?_⟩
  · have hh := Nat.mul_le_mul h2 g2
    have e1 : m * sc e * (m' * sc e') = m * m' * sc (e + e') * sc 0 := by
      rw [Nat.mul_assoc (m * m'), ← sc_mul e e' (by omega) (by omega)]
      simp [Nat.mul_assoc, Nat.mul_comm, Nat.mul_left_comm]
    have e2 : n * sc t * (n' * sc t') = n * n' * sc (t + t') * sc 0 := by
      rw [Nat.mul_assoc (n * n'), ← sc_mul t t' (by omega) (by omega)]
      simp [Nat.mul_assoc, Nat.mul_comm, Nat.mul_left_comm]
    rw [e1, e2] at hh
    exact Nat.le_trans (Nat.le_of_mul_le_mul_right hh (sc_pos 0)) (leB_sc (by omega) (by omega) hl)
  · intro hab hss
    cases s <;> cases s' <;> simp_all
theorem sum_abs (s s' : Bool) (m m' : Nat) (i j : Int) (hi : -5000 ≤ i) (hj : -5000 ≤ j) :
    (Ieee.signed s m (i - min i j).toNat + Ieee.signed s' m' (j - min i j).toNat).natAbs * sc (min i j) ≤ m * sc i + m' * sc j := by
  have h := Int.natAbs_add_le (Ieee.signed s m (i - min i j).toNat) (Ieee.signed s' m' (j - min i j).toNat)
  rw [signed_abs, signed_abs] at h
  have h := Nat.mul_le_mul_right (sc (min i j)) h
  rw [Nat.add_mul, Nat.mul_assoc, Nat.mul_assoc, ← sc_up' (min i j) i _ (by omega) (by omega), ← sc_up' (min i j) j _ (by omega) (by omega)] at h
  exact h
theorem bd_add {k : FloatKind} {a b : Bool} {x y n n' : Nat} {t : Int} (N : Nat) (q : Int) (hx : Bd k a x n t) (hy : Bd k b y n' t) (ht : -2400 ≤ t ∧ -2400 ≤ q) (hN : fits k N q = true) (hl : leB (n + n') t N q = true) :
    ∃ r, floatBits .add k x y = some r ∧ Bd k false r N q := by
  obtain ⟨s, m, e, h1, h2, h3, h4⟩ := hx
  obtain ⟨s', m', e', g1, g2, g3, g4⟩ := hy
  simp only [floatBits, Ieee.Format.add, h1, g1, Ieee.Datum.sum, Option.map_some]
  refine ⟨_, rfl, write_bd k _ _ _ _ N q (by omega) hN ?_ (by simp)⟩
  have hh := sum_abs s s' m m' e e' (by omega) (by omega)
  have h5 := leB_sc (by omega) (by omega) hl
  rw [Nat.add_mul] at h5
  omega
theorem bd_sub {k : FloatKind} {a b : Bool} {x y n n' : Nat} {t : Int} (N : Nat) (q : Int) (hx : Bd k a x n t) (hy : Bd k b y n' t) (ht : -2400 ≤ t ∧ -2400 ≤ q) (hN : fits k N q = true) (hl : leB (n + n') t N q = true) :
    ∃ r, floatBits .sub k x y = some r ∧ Bd k false r N q := by
  obtain ⟨s, m, e, h1, h2, h3, h4⟩ := hx
  obtain ⟨s', m', e', g1, g2, g3, g4⟩ := hy
  simp only [floatBits, Ieee.Format.sub, h1, g1, Ieee.Datum.opposite, Ieee.Datum.sum, Option.map_some]
  refine ⟨_, rfl, write_bd k _ _ _ _ N q (by omega) hN ?_ (by simp)⟩
  have hh := sum_abs s (!s') m m' e e' (by omega) (by omega)
  have h5 := leB_sc (by omega) (by omega) hl
  rw [Nat.add_mul] at h5
  omega
/-- a difference that is not below 0 -/
theorem bd_subn {k : FloatKind} {x y m m' : Nat} {s s' : Bool} {e e' : Int} (N : Nat) (q : Int) (hx : k.format.read x = .number s m e) (hy : k.format.read y = .number s' m' e') (he : -1074 ≤ e ∧ -1074 ≤ e') (hs : s = true → m = 0) (hs' : s' = true → m' = 0)
    (hle : m' * sc e' ≤ m * sc e) (hb : m * sc e ≤ N * sc q + m' * sc e') (hN : fits k N q = true) :
    ∃ r, floatBits .sub k x y = some r ∧ Bd k true r N q := by
  simp only [floatBits, Ieee.Format.sub, hx, hy, Ieee.Datum.opposite, Ieee.Datum.sum, Option.map_some]
  have h1 : Ieee.signed s m (e - min e e').toNat = ((m * 2 ^ (e - min e e').toNat : Nat) : Int) := by
    unfold Ieee.signed
    rw [Nat.shiftLeft_eq]
    cases s
    · simp
    · simp [hs rfl]
  have h2 : Ieee.signed (!s') m' (e' - min e e').toNat = - ((m' * 2 ^ (e' - min e e').toNat : Nat) : Int) := by
    unfold Ieee.signed
    rw [Nat.shiftLeft_eq]
    cases s'
    · simp
    · simp [hs' rfl]
  rw [h1, h2]
  have g1 : m * sc e = m * 2 ^ (e - min e e').toNat * sc (min e e') := by rw [Nat.mul_assoc, ← sc_up' (min e e') e _ (by omega) (by omega)]
  have g2 : m' * sc e' = m' * 2 ^ (e' - min e e').toNat * sc (min e e') := by rw [Nat.mul_assoc, ← sc_up' (min e e') e' _ (by omega) (by omega)]
  rw [g1, g2] at hle hb
  generalize m * 2 ^ (e - min e e').toNat = u at *
  generalize m' * 2 ^ (e' - min e e').toNat = v at *
  have hvu : v ≤ u := Nat.le_of_mul_le_mul_right hle (sc_pos _)
  refine ⟨_, rfl, write_bd k _ _ _ _ N q (by omega) hN ?_ ?_⟩
  · have : ((u : Int) + -(v : Int)).natAbs = u - v := by omega
    rw [this, Nat.sub_mul]
    omega
  · intro _ ht
    split at ht
    · omega
    · have := of_decide_eq_true ht
      omega
/-- a quotient that is not above a number of the format -/
theorem bd_quo {k : FloatKind} {x y m m' : Nat} {s s' : Bool} {e e' : Int} (nn : Bool) (hnn : nn = true → (s ^^ s') = true → m = 0) (N : Nat) (q : Int) (hx : k.format.read x = .number s m e) (hy : k.format.read y = .number s' m' e') (he : -1074 ≤ e ∧ -1074 ≤ e') (he2 : e ≤ 1000 ∧ e' ≤ 1000) (hm' : m' ≠ 0) (hlg : m.log2 ≤ 60 ∧ m'.log2 ≤ 60)
    (hN : fits k N q = true) (hNg : N < 4194304) (hq : -1000 ≤ q) (hle : m * sc e * sc 0 ≤ N * sc q * (m' * sc e')) :
    ∃ r, floatBits .quo k x y = some r ∧ Bd k nn r N q := by
  simp only [floatBits, Ieee.Format.div, hx, hy, Ieee.Datum.quotient, if_neg hm', Option.map_some]
  generalize hmore : k.format.fractionBits + 2 + m'.log2 - m.log2 = more
  have hF : 23 ≤ k.format.fractionBits ∧ k.format.fractionBits ≤ 52 := by cases k <;> decide
  have hgm : m' < 2 ^ (m'.log2 + 1) := Nat.lt_log2_self
  by_cases hm0 : m = 0
  · subst hm0
    refine ⟨_, rfl, write_bd k _ _ _ _ N q (by omega) hN ?_ ?_⟩
    · simp
    · intro _ _; simp
  have hge : 2 ^ m.log2 ≤ m := Nat.log2_self_le hm0
  have hsc : N * sc q * (m' * sc e') = N * m' * sc (q + e') * sc 0 := by
    rw [Nat.mul_assoc (N * m'), ← sc_mul q e' (by omega) (by omega)]
    simp [Nat.mul_assoc, Nat.mul_comm, Nat.mul_left_comm]
  rw [hsc] at hle
  have hle := Nat.le_of_mul_le_mul_right hle (sc_pos 0)
  -- the exponent is not below 0
  have hexp : 0 ≤ q + e' + more - e := by
    apply Classical.byContradiction
    intro hc
    have h1 : sc e = 2 ^ (e - (q + e')).toNat * sc (q + e') := sc_up' _ _ _ (by omega) (by omega)
    rw [h1, ← Nat.mul_assoc] at hle
    have h2 := Nat.le_of_mul_le_mul_right hle (sc_pos _)
    have h3 : N * m' < 2 ^ 22 * 2 ^ (m'.log2 + 1) := by
      calc N * m' ≤ 2 ^ 22 * m' := Nat.mul_le_mul_right _ (by omega)
        _ < 2 ^ 22 * 2 ^ (m'.log2 + 1) := Nat.mul_lt_mul_of_pos_left hgm (by decide)
    have h4 : 2 ^ m.log2 * 2 ^ (e - (q + e')).toNat ≤ m * 2 ^ (e - (q + e')).toNat := Nat.mul_le_mul_right _ hge
    rw [← Nat.pow_add] at h3 h4
    have h5 : 2 ^ (22 + (m'.log2 + 1)) ≤ 2 ^ (m.log2 + (e - (q + e')).toNat) := Nat.pow_le_pow_right (by decide) (by omega)
    omega
  have hD : m * 2 ^ more ≤ N * 2 ^ (q + e' + more - e).toNat * m' := by
    have h1 : m * 2 ^ more * sc e ≤ N * 2 ^ (q + e' + more - e).toNat * m' * sc e := by
      calc m * 2 ^ more * sc e = m * sc e * 2 ^ more := by simp [Nat.mul_assoc, Nat.mul_comm, Nat.mul_left_comm]
        _ ≤ N * m' * sc (q + e') * 2 ^ more := Nat.mul_le_mul_right _ hle
        _ = N * m' * sc (q + e' + more) := by rw [Nat.mul_assoc _ (sc _), Nat.mul_comm (sc _), ← sc_up _ _ (by omega)]
        _ = N * m' * (2 ^ (q + e' + more - e).toNat * sc e) := by rw [← sc_up' e (q + e' + more) _ (by omega) (by omega)]
        _ = N * 2 ^ (q + e' + more - e).toNat * m' * sc e := by simp [Nat.mul_assoc, Nat.mul_comm, Nat.mul_left_comm]
    exact Nat.le_of_mul_le_mul_right h1 (sc_pos e)
  rw [Nat.shiftLeft_eq]
  generalize m * 2 ^ more = D at *
  have hres : 2 * (D / m') + (D % m' != 0).toNat ≤ 2 * (N * 2 ^ (q + e' + more - e).toNat) := by
    have h1 : D / m' ≤ N * 2 ^ (q + e' + more - e).toNat := Nat.div_le_of_le_mul (by rw [Nat.mul_comm]; exact hD)
    by_cases h2 : D / m' = N * 2 ^ (q + e' + more - e).toNat
    · have h3 := Nat.div_add_mod D m'
      rw [h2, Nat.mul_comm] at h3
      have h4 : D % m' = 0 := by omega
      rw [h4, h2]
      simp
    · have := Bool.toNat_le (D % m' != 0)
      omega
  refine ⟨_, rfl, write_bd k _ _ _ _ N q (by omega) hN ?_ ?_⟩
  · have h2 := Nat.mul_le_mul_right (sc (e - e' - more - 1)) hres
    refine Nat.le_trans h2 (Nat.le_of_eq ?_)
    rw [sc_up' (e - e' - more - 1) q ((q + e' + more - e).toNat + 1) (by omega) (by omega), Nat.pow_succ]
    simp [Nat.mul_assoc, Nat.mul_comm, Nat.mul_left_comm]
  · intro h1 h2
    exact absurd (hnn h1 h2) hm0
/-- a narrowing or a widening -/
theorem bd_conv {k k' : FloatKind} {a : Bool} {x n : Nat} {t : Int} (N : Nat) (q : Int) (hk : k ≠ k') (hx : Bd k a x n t) (ht : -2400 ≤ t ∧ -2400 ≤ q) (hN : fits k' N q = true) (hl : leB n t N q = true) :
    ∃ r, floatToFloatBits k x k' = some r ∧ Bd k' a r N q := by
  obtain ⟨s, m, e, h1, h2, h3, h4⟩ := hx
  have hw := write_bd k' s a m e N q (by omega) hN (Nat.le_trans h2 (leB_sc (by omega) (by omega) hl)) h4
  unfold floatToFloatBits
  rw [if_neg hk]
  obtain ⟨s', m', e', g1, -⟩ := id hw
  have hd : k.decode x = .number s m e := h1
  have hi : (k'.decode (k'.encode (.number s m e))).isInfinity = false := by
    show (k'.format.read (k'.format.write (.number s m e))).isInfinity = false
    rw [g1]
    rfl
  simp only [hd, hi, Bool.false_eq_true, if_false]
  exact ⟨_, rfl, hw⟩
end Go.Proofs.Ytjeaiihgedennaa
