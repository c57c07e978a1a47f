/- The sine and the point of the unit circle as plain functions of bits, each operation's result a number within bounds. Conditions: what is stated. -/
import Derived.Test.YtjeaiihgedennaaBnd2
namespace Go.Proofs.Ytjeaiihgedennaa
open Go.ChangeShapes Go.WideShapes Go.ChangeAt Go.RowKit

def ordN (a b : Nat) : Ordering := if a < b then .lt else if a = b then .eq else .gt
theorem cmp_nat (a b g : Nat) (hg : 0 < g) : compare (a : Int) (b : Int) = ordN (a * g) (b * g) := by
  show compareOfLessAndEq (a : Int) (b : Int) = _
  unfold compareOfLessAndEq ordN
  have h1 : ((a : Int) < (b : Int)) ↔ a * g < b * g := by
    rw [Int.ofNat_lt]
    exact (Nat.mul_lt_mul_right hg).symm
  have h2 : ((a : Int) = (b : Int)) ↔ a * g = b * g := by
    rw [Int.ofNat_inj]
    exact ⟨fun h => by rw [h], fun h => Nat.eq_of_mul_eq_mul_right hg h⟩
  simp only [h1, h2]
theorem ord_eq {k : FloatKind} {x c m mc : Nat} {s : Bool} {e ec : Int} (hx : k.format.read x = .number s m e) (hs : s = true → m = 0) (hc : k.format.read c = .number false mc ec) (he : -1074 ≤ e ∧ -1074 ≤ ec) :
    k.format.order x c = some (ordN (m * sc e) (mc * sc ec)) := by
  simp only [Ieee.Format.order, hx, hc, Ieee.Datum.order]
  have h1 : Ieee.signed s m (e - min e ec).toNat = ((m * 2 ^ (e - min e ec).toNat : Nat) : Int) := by
    unfold Ieee.signed
    rw [Nat.shiftLeft_eq]
    cases s
    · simp
    · simp [hs rfl]
  have h2 : Ieee.signed false mc (ec - min e ec).toNat = ((mc * 2 ^ (ec - min e ec).toNat : Nat) : Int) := by
    unfold Ieee.signed
    rw [Nat.shiftLeft_eq]
    simp
  rw [h1, h2, cmp_nat _ _ (sc (min e ec)) (sc_pos _), Nat.mul_assoc, Nat.mul_assoc, ← sc_up' (min e ec) e _ (by omega) (by omega), ← sc_up' (min e ec) ec _ (by omega) (by omega)]
theorem ord_neg {k : FloatKind} {x c m mc : Nat} {s : Bool} {e ec : Int} (hx : k.format.read x = .number s m e) (hs : s = true → m = 0) (hc : k.format.read c = .number true mc ec) (hm : 0 < mc) :
    k.format.order x c = some .gt := by
  simp only [Ieee.Format.order, hx, hc, Ieee.Datum.order]
  have h1 : Ieee.signed s m (e - min e ec).toNat = ((m * 2 ^ (e - min e ec).toNat : Nat) : Int) := by
    unfold Ieee.signed
    rw [Nat.shiftLeft_eq]
    cases s
    · simp
    · simp [hs rfl]
  have h2 : Ieee.signed true mc (ec - min e ec).toNat = - ((mc * 2 ^ (ec - min e ec).toNat : Nat) : Int) := by
    unfold Ieee.signed
    rw [Nat.shiftLeft_eq]
    simp
  have hp : 0 < mc * 2 ^ (ec - min e ec).toNat := Nat.mul_pos hm (Nat.two_pow_pos _)
  rw [h1, h2]
  generalize mc * 2 ^ (ec - min e ec).toNat = v at *
  generalize m * 2 ^ (e - min e ec).toNat = u
  show some (compareOfLessAndEq (u : Int) (-(v : Int))) = _
  unfold compareOfLessAndEq
  rw [if_neg (by omega), if_neg (by omega)]
theorem sub_self' {k : FloatKind} {x m : Nat} {s : Bool} {e : Int} (hx : k.format.read x = .number s m e) : floatBits .sub k x x = some 0 := by
  simp only [floatBits, Ieee.Format.sub, hx, Ieee.Datum.opposite, Ieee.Datum.sum, Option.map_some]
  have h1 : Ieee.signed s m (e - min e e).toNat + Ieee.signed (!s) m (e - min e e).toNat = 0 := by
    unfold Ieee.signed
    cases s <;> simp <;> omega
  rw [h1]
  cases s <;> cases k <;> rfl
theorem read_rng {b m : Nat} {s : Bool} {e : Int} (h : FloatKind.f64.format.read b = .number s m e) : m < 9007199254740992 ∧ e ≤ 1000 := by
  have h2 : Ieee.double.binade = 4503599627370496 := by decide
  have h3 : Ieee.double.infRung = 9218868437227405312 := by decide
  have h4 : Ieee.double.leastPlace = -1074 := by decide
  change Ieee.double.read b = _ at h
  unfold Ieee.Format.read at h
  simp only [h2, h3, h4] at h
  generalize b % Ieee.double.signWeight = r at h
  split at h
  · cases h
    omega
  · split at h
    · cases h
      constructor
      · omega
      · have : r / 4503599627370496 < 2047 := by omega
        omega
    · split at h <;> cases h
theorem log_le {m : Nat} (h : m < 9007199254740992) : m.log2 ≤ 60 := by
  by_cases h0 : m = 0
  · subst h0; decide
  · have := (Nat.log2_lt h0 (k := 53)).2 (by omega)
    omega

def fO (op : BinOp) (x y : Nat) : Nat := (floatBits op .f64 x y).getD 0
theorem fO_of {op : BinOp} {x y r : Nat} (h : floatBits op .f64 x y = some r) : floatBits op .f64 x y = some (fO op x y) := by
  unfold fO
  rw [h]
  rfl
theorem rd_0 : FloatKind.f64.format.read 0 = .number false 0 (-1074) := by decide +kernel
theorem rd_1 : FloatKind.f64.format.read 4607182418800017408 = .number false 4503599627370496 (-52) := by decide +kernel
theorem rd_25 : FloatKind.f64.format.read 4598175219545276416 = .number false 4503599627370496 (-54) := by decide +kernel
theorem rd_50 : FloatKind.f64.format.read 4602678819172646912 = .number false 4503599627370496 (-53) := by decide +kernel
theorem rd_C : FloatKind.f64.format.read 4618760256179416344 = .number false 7074237752028440 (-50) := by decide +kernel
theorem rd_huge : FloatKind.f64.format.read 4841369599423283200 = .number false 4503599627370496 0 := by decide +kernel
theorem rd_nhuge : FloatKind.f64.format.read 14064741636278059008 = .number true 4503599627370496 0 := by decide +kernel
theorem v_1 : 4503599627370496 * sc (-52) = sc 0 := by rw [sc_up' (-52) 0 52 (by omega) (by omega)]
theorem v_25 : 4503599627370496 * sc (-54) = sc (-2) := by rw [sc_up' (-54) (-2) 52 (by omega) (by omega)]
theorem v_50 : 4503599627370496 * sc (-53) = sc (-1) := by rw [sc_up' (-53) (-1) 52 (by omega) (by omega)]
theorem v_huge : 4503599627370496 * sc 0 = sc 52 := by rw [sc_up' 0 52 52 (by omega) (by omega)]

/-- the divisor 2k(2k+1) of the i-th round, k = 8 - i -/
def dN (i : Nat) : Nat := 2 * (8 - i) * (2 * (8 - i) + 1)
def dB (i : Nat) : Nat := floatOfInt .f64 (dN i)
theorem rd_d (i : Nat) (h : i < 8) : ∃ m e, FloatKind.f64.format.read (dB i) = .number false m e ∧ m ≠ 0 ∧ -1074 ≤ e ∧ 6 * sc 0 ≤ m * sc e := by
  obtain rfl | rfl | rfl | rfl | rfl | rfl | rfl | rfl : i = 0 ∨ i = 1 ∨ i = 2 ∨ i = 3 ∨ i = 4 ∨ i = 5 ∨ i = 6 ∨ i = 7 := by omega
  · exact ⟨4785074604081152, -44, by decide +kernel, by decide, by decide, leB_sc (by decide) (by decide) (by decide +kernel)⟩
  · exact ⟨7388718138654720, -45, by decide +kernel, by decide, by decide, leB_sc (by decide) (by decide) (by decide +kernel)⟩
  · exact ⟨5488762045857792, -45, by decide +kernel, by decide, by decide, leB_sc (by decide) (by decide) (by decide +kernel)⟩
  · exact ⟨7740561859543040, -46, by decide +kernel, by decide, by decide, leB_sc (by decide) (by decide) (by decide +kernel)⟩
  · exact ⟨5066549580791808, -46, by decide +kernel, by decide, by decide, leB_sc (by decide) (by decide) (by decide +kernel)⟩
  · exact ⟨5910974510923776, -47, by decide +kernel, by decide, by decide, leB_sc (by decide) (by decide) (by decide +kernel)⟩
  · exact ⟨5629499534213120, -48, by decide +kernel, by decide, by decide, leB_sc (by decide) (by decide) (by decide +kernel)⟩
  · exact ⟨6755399441055744, -50, by decide +kernel, by decide, by decide, leB_sc (by decide) (by decide) (by decide +kernel)⟩

/-- the sine of y turns, y in [0, 1/4] -/
def sF (y : Nat) : Nat := fO .sub y 0
def sZ (y : Nat) : Nat := fO .mul (sF y) 4618760256179416344
def sU (y : Nat) : Nat := fO .mul (sZ y) (sZ y)
def sP (u : Nat) : Nat → Nat
  | 0 => 4607182418800017408
  | i + 1 => fO .sub 4607182418800017408 (fO .quo (fO .mul u (sP u i)) (dB i))
def sinB (y : Nat) : Nat := fO .mul (sZ y) (sP (sU y) 8)
theorem bd_get {op : BinOp} {x y N : Nat} {q : Int} {nn : Bool} (h : ∃ r, floatBits op .f64 x y = some r ∧ Bd .f64 nn r N q) : floatBits op .f64 x y = some (fO op x y) ∧ Bd .f64 nn (fO op x y) N q := by
  obtain ⟨r, h1, h2⟩ := h
  have := fO_of h1
  rw [h1] at this
  cases this
  exact ⟨h1, h2⟩
theorem sF_bd {y n : Nat} {t : Int} (hy : Bd .f64 true y n t) (ht : -1074 ≤ t ∧ t ≤ 900) (hf : fits .f64 n t = true) : floatBits .sub .f64 y 0 = some (sF y) ∧ Bd .f64 true (sF y) n t := by
  obtain ⟨s, m, e, h1, h2, h3, h4⟩ := hy
  exact bd_get (bd_subn n t h1 rd_0 ⟨h3, by decide⟩ (h4 rfl) (by simp) (by simp) (by simpa using h2) hf)
/-- the rounds of the sine -/
theorem sP_bd {u : Nat} (hu : Bd .f64 true u 3 0) (i : Nat) (hi : i ≤ 8) : Bd .f64 true (sP u i) 1 0 ∧ (i < 8 → floatBits .mul .f64 u (sP u i) = some (fO .mul u (sP u i)) ∧ floatBits .quo .f64 (fO .mul u (sP u i)) (dB i) = some (fO .quo (fO .mul u (sP u i)) (dB i)) ∧ floatBits .sub .f64 4607182418800017408 (fO .quo (fO .mul u (sP u i)) (dB i)) = some (sP u (i + 1)) ∧ Bd .f64 true (sP u (i + 1)) 1 0) := by
  have key : ∀ i, i < 8 → Bd .f64 true (sP u i) 1 0 → floatBits .mul .f64 u (sP u i) = some (fO .mul u (sP u i)) ∧ floatBits .quo .f64 (fO .mul u (sP u i)) (dB i) = some (fO .quo (fO .mul u (sP u i)) (dB i)) ∧ floatBits .sub .f64 4607182418800017408 (fO .quo (fO .mul u (sP u i)) (dB i)) = some (sP u (i + 1)) ∧ Bd .f64 true (sP u (i + 1)) 1 0 := by
    intro i hi hp
    obtain ⟨h1, h2⟩ := bd_get (bd_mul 3 0 hu hp (by decide) (by decide) (by decide))
    obtain ⟨s, m, e, g1, g2, g3, g4⟩ := h2
    obtain ⟨m', e', k1, k2, k3, k4⟩ := rd_d i hi
    obtain ⟨r1, r2⟩ := read_rng g1
    obtain ⟨r3, r4⟩ := read_rng k1
    have hq := bd_quo (k := .f64) true (fun _ h => g4 rfl (by simpa using h)) 1 0 g1 k1 ⟨g3, k3⟩ ⟨r2, r4⟩ k2 ⟨log_le r1, log_le r3⟩ (by decide) (by decide) (by decide) (by
      have h5 := Nat.mul_le_mul_right (sc 0) g2
      have h6 := Nat.mul_le_mul_left (sc 0) k4
      rw [Nat.one_mul]
      refine Nat.le_trans h5 (Nat.le_trans ?_ h6)
      have e1 : 3 * sc 0 * sc 0 = 3 * (sc 0 * sc 0) := Nat.mul_assoc ..
      have e2 : sc 0 * (6 * sc 0) = 6 * (sc 0 * sc 0) := Nat.mul_left_comm ..
      omega)
    obtain ⟨q1, q2⟩ := bd_get hq
    obtain ⟨s2, m2, e2, p1, p2, p3, p4⟩ := q2
    have hsub := bd_get (bd_subn (k := .f64) 1 0 rd_1 p1 ⟨by decide, p3⟩ (by simp) (p4 rfl) (by rw [v_1]; simpa using p2) (by rw [v_1, Nat.one_mul]; exact Nat.le_add_right _ _) (by decide))
    exact ⟨h1, q1, hsub.1, hsub.2⟩
  have bd : ∀ i, i ≤ 8 → Bd .f64 true (sP u i) 1 0 := by
    intro i
    induction i with
    | zero => intro _; exact ⟨false, _, _, rd_1, by rw [v_1]; simp, by decide, by simp⟩
    | succ i ih => intro hi; exact (key i (by omega) (ih (by omega))).2.2.2
  exact ⟨bd i hi, fun h => key i h (bd i hi)⟩
/-- the sine: each operation, and what comes of it -/
theorem sine_bd {y J : Nat} (hJ : J ≤ 16) (hy : Bd .f64 true y J (-6)) :
    floatBits .sub .f64 y 0 = some (sF y) ∧ floatBits .mul .f64 (sF y) 4618760256179416344 = some (sZ y) ∧ floatBits .mul .f64 (sZ y) (sZ y) = some (sU y) ∧ Bd .f64 true (sF y) 16 (-6) ∧ Bd .f64 true (sU y) 3 0 ∧ floatBits .mul .f64 (sZ y) (sP (sU y) 8) = some (sinB y) ∧ Bd .f64 true (sinB y) (J * 403) (-12) := by
  have hf : fits .f64 J (-6) = true := decide_eq_true (by omega)
  obtain ⟨h1, h2⟩ := sF_bd hy (by decide) hf
  have hC : Bd .f64 true 4618760256179416344 403 (-6) := ⟨false, _, _, rd_C, leB_sc (by decide) (by decide) (by decide), by decide, by simp⟩
  obtain ⟨h3, h4⟩ := bd_get (bd_mul (J * 403) (-12) h2 hC (by decide) (decide_eq_true (by omega)) (by simp [leB]))
  have h4' : Bd .f64 true (sZ y) 6448 (-12) := h4.weak (by decide) (by decide) (by unfold leB; rw [if_pos (by decide)]; simp; omega)
  obtain ⟨h5, h6⟩ := bd_get (bd_mul 3 0 h4' h4' (by decide) (by decide) (by decide))
  obtain ⟨h7, h8⟩ := bd_get (bd_mul (J * 403) (-12) h4 (sP_bd h6 8 (by omega)).1 (by decide) (decide_eq_true (by omega)) (by simp [leB]))
  exact ⟨h1, h3, h5, h2.weak (by decide) (by decide) (by unfold leB; rw [if_pos (by decide)]; simp; omega), h6, h7, h8⟩
end Go.Proofs.Ytjeaiihgedennaa
