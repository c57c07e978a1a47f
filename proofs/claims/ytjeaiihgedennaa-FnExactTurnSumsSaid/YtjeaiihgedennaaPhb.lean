/- The point of the unit circle at k/m turns: each operation's result a number within bounds. Conditions: what is stated. -/
import Derived.Test.YtjeaiihgedennaaPha
namespace Go.Proofs.Ytjeaiihgedennaa
open Go.ChangeShapes Go.WideShapes Go.ChangeAt Go.RowKit

theorem v_q : sc (-2) = 16 * sc (-6) := sc_up' (-6) (-2) 4 (by omega) (by omega)
theorem v_0 : sc 0 = 64 * sc (-6) := sc_up' (-6) 0 6 (by omega) (by omega)
theorem v_7 : sc 0 = 128 * sc (-7) := sc_up' (-7) 0 7 (by omega) (by omega)
theorem ordN_lt {a b : Nat} (h : a < b) : ordN a b = .lt := if_pos h
theorem ordN_nlt {a b : Nat} (h : ¬ a < b) : ordN a b = .eq ∨ ordN a b = .gt := by
  unfold ordN
  rw [if_neg h]
  split
  · exact .inl rfl
  · exact .inr rfl
def geB (x : Nat) : Bool := FloatKind.f64.format.order x 4598175219545276416 == some .gt || FloatKind.f64.format.order x 4598175219545276416 == some .eq
/-- what is left behind i quarters -/
def qF (t : Nat) : Nat → Nat
  | 0 => sF t
  | i + 1 => fO .sub (qF t i) 4598175219545276416
/-- how many quarters are taken -/
def qN (t : Nat) : Nat := if geB (qF t 0) = true then (if geB (qF t 1) = true then (if geB (qF t 2) = true then (if geB (qF t 3) = true then 4 else 3) else 2) else 1) else 0
theorem ge_of {x n : Nat} {t : Int} (h : Bd .f64 true x n t) : ∃ s m e, FloatKind.f64.format.read x = .number s m e ∧ m * sc e ≤ n * sc t ∧ -1074 ≤ e ∧ (s = true → m = 0) ∧
    (if m * sc e < sc (-2) then geB x = false ∧ FloatKind.f64.format.order x 4598175219545276416 = some .lt else geB x = true) := by
  obtain ⟨s, m, e, h1, h2, h3, h4⟩ := h
  refine ⟨s, m, e, h1, h2, h3, h4 rfl, ?_⟩
  have ho := ord_eq h1 (h4 rfl) rd_25 ⟨h3, by decide⟩
  rw [v_25] at ho
  split
  · rename_i hc
    rw [ordN_lt hc] at ho
    exact ⟨by unfold geB; rw [ho]; rfl, ho⟩
  · rename_i hc
    unfold geB
    rw [ho]
    rcases ordN_nlt hc with e | e <;> rw [e] <;> rfl
theorem q_step {t i : Nat} (hi : i ≤ 3) (h : Bd .f64 true (qF t i) (64 - 16 * i) (-6)) (hg : geB (qF t i) = true) :
    floatBits .sub .f64 (qF t i) 4598175219545276416 = some (qF t (i + 1)) ∧ Bd .f64 true (qF t (i + 1)) (64 - 16 * (i + 1)) (-6) := by
  obtain ⟨s, m, e, h1, h2, h3, h4, h5⟩ := ge_of h
  have hc : ¬ m * sc e < sc (-2) := fun hc => by
    rw [if_pos hc] at h5
    rw [h5.1] at hg
    cases hg
  have hb : m * sc e ≤ (64 - 16 * (i + 1)) * sc (-6) + sc (-2) := by
    rw [v_q, ← Nat.add_mul]
    have : 64 - 16 * (i + 1) + 16 = 64 - 16 * i := by omega
    rw [this]
    exact h2
  exact bd_get (bd_subn (64 - 16 * (i + 1)) (-6) h1 rd_25 ⟨h3, by decide⟩ h4 (by simp) (by rw [v_25]; omega) (by rw [v_25]; exact hb) (decide_eq_true (by omega)))
theorem q_facts {t : Nat} (ht : Bd .f64 true t 127 (-7)) : qN t ≤ 4 ∧ (∀ i, i ≤ qN t → Bd .f64 true (qF t i) (64 - 16 * i) (-6)) ∧ (∀ i, i < qN t → geB (qF t i) = true ∧ floatBits .sub .f64 (qF t i) 4598175219545276416 = some (qF t (i + 1))) ∧ FloatKind.f64.format.order (qF t (qN t)) 4598175219545276416 = some .lt := by
  have b0 : Bd .f64 true (qF t 0) (64 - 16 * 0) (-6) := (sF_bd ht (by decide) (by decide)).2.weak (by decide) (by decide) (by decide)
  have lt : ∀ i, Bd .f64 true (qF t i) (64 - 16 * i) (-6) → ¬ geB (qF t i) = true → FloatKind.f64.format.order (qF t i) 4598175219545276416 = some .lt := fun i hb hg => by
    obtain ⟨s, m, e, h1, h2, h3, h4, h5⟩ := ge_of hb
    split at h5
    · exact h5.2
    · exact absurd h5 hg
  by_cases g0 : geB (qF t 0) = true
  · obtain ⟨s0, b1⟩ := q_step (by omega) b0 g0
    by_cases g1 : geB (qF t 1) = true
    · obtain ⟨s1, b2⟩ := q_step (by omega) b1 g1
      by_cases g2 : geB (qF t 2) = true
      · obtain ⟨s2, b3⟩ := q_step (by omega) b2 g2
        by_cases g3 : geB (qF t 3) = true
        · obtain ⟨s3, b4⟩ := q_step (by omega) b3 g3
          have e : qN t = 4 := by simp [qN, g0, g1, g2, g3]
          rw [e]
          refine ⟨by omega, fun i hi => ?_, fun i hi => ?_, lt 4 b4 fun hg => ?_⟩
          · obtain rfl | rfl | rfl | rfl | rfl : i = 0 ∨ i = 1 ∨ i = 2 ∨ i = 3 ∨ i = 4 := by omega
            all_goals assumption
          · obtain rfl | rfl | rfl | rfl : i = 0 ∨ i = 1 ∨ i = 2 ∨ i = 3 := by omega
            all_goals exact ⟨by assumption, by assumption⟩
          · obtain ⟨s, m, e, h1, h2, h3, h4, h5⟩ := ge_of b4
            have h6 : m * sc e = 0 := by simpa using h2
            rw [if_pos (by rw [h6]; exact sc_pos _)] at h5
            rw [h5.1] at hg
            cases hg
        · have e : qN t = 3 := by simp [qN, g0, g1, g2, g3]
          rw [e]
          refine ⟨by omega, fun i hi => ?_, fun i hi => ?_, lt 3 b3 g3⟩
          · obtain rfl | rfl | rfl | rfl : i = 0 ∨ i = 1 ∨ i = 2 ∨ i = 3 := by omega
            all_goals assumption
          · obtain rfl | rfl | rfl : i = 0 ∨ i = 1 ∨ i = 2 := by omega
            all_goals exact ⟨by assumption, by assumption⟩
      · have e : qN t = 2 := by simp [qN, g0, g1, g2]
        rw [e]
        refine ⟨by omega, fun i hi => ?_, fun i hi => ?_, lt 2 b2 g2⟩
        · obtain rfl | rfl | rfl : i = 0 ∨ i = 1 ∨ i = 2 := by omega
          all_goals assumption
        · obtain rfl | rfl : i = 0 ∨ i = 1 := by omega
          all_goals exact ⟨by assumption, by assumption⟩
    · have e : qN t = 1 := by simp [qN, g0, g1]
      rw [e]
      refine ⟨by omega, fun i hi => ?_, fun i hi => ?_, lt 1 b1 g1⟩
      · obtain rfl | rfl : i = 0 ∨ i = 1 := by omega
        all_goals assumption
      · obtain rfl : i = 0 := by omega
        exact ⟨by assumption, by assumption⟩
  · have e : qN t = 0 := by simp [qN, g0]
    rw [e]
    refine ⟨by omega, fun i hi => ?_, fun i hi => ?_, lt 0 b0 g0⟩
    · obtain rfl : i = 0 := by omega
      assumption
    · omega
/-- the parts of the point -/
def cvB (x : Nat) : Nat := (floatToFloatBits .f64 x .f32).getD 0
def nB (x : Nat) : Nat := fO .sub 0 x
def phG (t : Nat) : Nat := fO .sub 4598175219545276416 (qF t (qN t))
def phC (t : Nat) : Nat := sinB (phG t)
def phS (t : Nat) : Nat := sinB (qF t (qN t))
def phRe (t : Nat) : Nat := match qN t with
  | 1 => cvB (nB (phS t))
  | 2 => cvB (nB (phC t))
  | 3 => cvB (phS t)
  | _ => cvB (phC t)
def phIm (t : Nat) : Nat := match qN t with
  | 1 => cvB (phC t)
  | 2 => cvB (nB (phS t))
  | 3 => cvB (nB (phC t))
  | _ => cvB (phS t)
theorem cv_get {x N : Nat} {q : Int} {nn : Bool} (h : ∃ r, floatToFloatBits .f64 x .f32 = some r ∧ Bd .f32 nn r N q) : floatToFloatBits .f64 x .f32 = some (cvB x) ∧ Bd .f32 nn (cvB x) N q := by
  obtain ⟨r, h1, h2⟩ := h
  have e : cvB x = r := by unfold cvB; rw [h1]; rfl
  rw [e]
  exact ⟨h1, h2⟩
theorem neg_bd {x n : Nat} (hn : n ≤ 7000) (h : Bd .f64 true x n (-12)) : floatBits .sub .f64 0 x = some (nB x) ∧ Bd .f64 false (nB x) n (-12) := by
  have b0 : Bd .f64 true 0 0 (-12) := ⟨false, _, _, rd_0, by simp, by decide, by simp⟩
  exact bd_get (bd_sub n (-12) b0 h (by decide) (decide_eq_true (by omega)) (by simp [leB]))
theorem cv_bd {x J : Nat} {nn : Bool} (hJ : J ≤ 16) (h : Bd .f64 nn x (J * 403) (-12)) : floatToFloatBits .f64 x .f32 = some (cvB x) ∧ Bd .f32 false (cvB x) ((J * 403 + 63) / 64) (-6) := by
  have := cv_get (bd_conv (k' := .f32) ((J * 403 + 63) / 64) (-6) (by decide) h (by decide) (decide_eq_true (by omega)) (by unfold leB; rw [if_pos (by decide)]; simp; omega))
  exact ⟨this.1, this.2.any⟩
/-- all that a walk of the point wants -/
structure PhF (t : Nat) : Prop where
  n4 : qN t ≤ 4
  ge : ∀ i, i < qN t → (FloatKind.f64.format.order (qF t i) 4598175219545276416 == some .gt || FloatKind.f64.format.order (qF t i) 4598175219545276416 == some .eq) = true
  st : ∀ i, i < qN t → floatBits .sub .f64 (qF t i) 4598175219545276416 = some (qF t (i + 1))
  lt : FloatKind.f64.format.order (qF t (qN t)) 4598175219545276416 = some .lt
  f0 : floatBits .sub .f64 t 0 = some (qF t 0)
  sg : floatBits .sub .f64 4598175219545276416 (qF t (qN t)) = some (phG t)
  bg : Bd .f64 true (phG t) 16 (-6)
  bf : Bd .f64 true (qF t (qN t)) 16 (-6)
  nc : floatBits .sub .f64 0 (phC t) = some (nB (phC t))
  ns : floatBits .sub .f64 0 (phS t) = some (nB (phS t))
  cc : floatToFloatBits .f64 (phC t) .f32 = some (cvB (phC t))
  cs : floatToFloatBits .f64 (phS t) .f32 = some (cvB (phS t))
  cnc : floatToFloatBits .f64 (nB (phC t)) .f32 = some (cvB (nB (phC t)))
  cns : floatToFloatBits .f64 (nB (phS t)) .f32 = some (cvB (nB (phS t)))
theorem ph_bd {t : Nat} (ht : Bd .f64 true t 127 (-7)) : PhF t ∧ ∃ n1 n2, n1 + n2 ≤ 112 ∧ Bd .f32 false (phRe t) n1 (-6) ∧ Bd .f32 false (phIm t) n2 (-6) := by
  obtain ⟨h4, hb, hs, hlt⟩ := q_facts ht
  have h0 := (sF_bd ht (by decide) (by decide)).1
  obtain ⟨s, m, e, h1, h2, h3, h5, h6⟩ := ge_of (hb _ (Nat.le_refl _))
  have hv : m * sc e < sc (-2) := by
    apply Classical.byContradiction
    intro hc
    rw [if_neg hc] at h6
    unfold geB at h6
    rw [hlt] at h6
    cases h6
  rw [v_q] at hv
  -- which 64th of a turn it lies in
  have hd := Nat.div_add_mod (m * sc e) (sc (-6))
  have hr := Nat.mod_lt (m * sc e) (sc_pos (-6))
  have hj : m * sc e / sc (-6) < 16 := Nat.div_lt_of_lt_mul (by rw [Nat.mul_comm (sc (-6))]; exact hv)
  generalize m * sc e / sc (-6) = j at *
  generalize m * sc e % sc (-6) = rr at *
  have bf : Bd .f64 true (qF t (qN t)) (j + 1) (-6) := ⟨s, m, e, h1, by rw [Nat.add_mul, Nat.mul_comm j]; omega, h3, fun _ => h5⟩
  have bg := bd_get (bd_subn (16 - j) (-6) rd_25 h1 ⟨by decide, h3⟩ (by simp) h5 (by rw [v_25, v_q]; omega) (by
    rw [v_25, v_q, Nat.sub_mul, Nat.mul_comm j]
    omega) (decide_eq_true (by omega)))
  have hS := (sine_bd (by omega) bf).2.2.2.2.2.2
  have hC := (sine_bd (by omega) bg.2).2.2.2.2.2.2
  change Bd .f64 true (phS t) _ _ at hS
  change Bd .f64 true (phC t) _ _ at hC
  obtain ⟨c1, d1⟩ := cv_bd (by omega) hS
  obtain ⟨c2, d2⟩ := cv_bd (by omega) hC
  obtain ⟨n1, k1⟩ := neg_bd (by omega) hS
  obtain ⟨n2, k2⟩ := neg_bd (by omega) hC
  obtain ⟨c3, d3⟩ := cv_bd (by omega) k1
  obtain ⟨c4, d4⟩ := cv_bd (by omega) k2
  refine ⟨⟨h4, fun i hi => (hs i hi).1, fun i hi => (hs i hi).2, hlt, h0, bg.1, bg.2.weak (by decide) (by decide) (by unfold leB; rw [if_pos (by decide)]; simp), bf.weak (by decide) (by decide) (by unfold leB; rw [if_pos (by decide)]; simp; omega), n2, n1, c2, c1, c4, c3⟩, ?_⟩
  have hsum : ((j + 1) * 403 + 63) / 64 + ((16 - j) * 403 + 63) / 64 ≤ 112 := by omega
  unfold phRe phIm
  have hsum' := hsum
  rw [Nat.add_comm] at hsum'
  split
  · exact ⟨_, _, hsum, d3, d2⟩
  · exact ⟨_, _, hsum', d4, d3⟩
  · exact ⟨_, _, hsum, d1, d4⟩
  · exact ⟨_, _, hsum', d2, d1⟩

/-- a small whole number is itself -/
def chkI (n : Nat) : Bool := match FloatKind.f64.format.read (floatOfInt .f64 n) with
  | .number s m e => !s && leB m e n 0 && leB n 0 m e && decide (-1074 ≤ e) && (n == 0 || m != 0)
  | _ => false
theorem rd_int (n : Nat) (h : n ≤ 121) : ∃ m e, FloatKind.f64.format.read (floatOfInt .f64 n) = .number false m e ∧ m * sc e = n * sc 0 ∧ -1074 ≤ e ∧ (n ≠ 0 → m ≠ 0) := by
  have hall : (List.range 122).all chkI = true := by decide +kernel
  have h1 := List.all_eq_true.1 hall n (List.mem_range.2 (by omega))
  unfold chkI at h1
  split at h1
  · rename_i s m e hr
    simp only [Bool.and_eq_true, decide_eq_true_eq, Bool.or_eq_true] at h1
    obtain ⟨⟨⟨⟨a, b⟩, c⟩, d⟩, f⟩ := h1
    cases s
    · exact ⟨m, e, hr, Nat.le_antisymm (leB_sc (by omega) (by omega) b) (leB_sc (by omega) (by omega) c), d, fun hn => by rcases f with f | f <;> simp_all⟩
    · simp at a
  · cases h1
def dvB (k m : Nat) : Nat := fO .quo (floatOfInt .f64 k) (floatOfInt .f64 m)
theorem dv_bd {k m : Nat} (hk : k < m) (hm : m ≤ 121) : floatBits .quo .f64 (floatOfInt .f64 k) (floatOfInt .f64 m) = some (dvB k m) ∧ Bd .f64 true (dvB k m) 127 (-7) := by
  obtain ⟨a, e, h1, h2, h3, -⟩ := rd_int k (by omega)
  obtain ⟨b, e', g1, g2, g3, g4⟩ := rd_int m (by omega)
  obtain ⟨r1, r2⟩ := read_rng h1
  obtain ⟨r3, r4⟩ := read_rng g1
  refine bd_get (bd_quo true (by simp) 127 (-7) h1 g1 ⟨h3, g3⟩ ⟨r2, r4⟩ (g4 (by omega)) ⟨log_le r1, log_le r3⟩ (by decide) (by decide) (by decide) ?_)
  rw [h2, g2]
  have e1 : k * sc 0 * sc 0 = k * 128 * (sc (-7) * sc 0) := by
    rw [Nat.mul_assoc, Nat.mul_assoc]
    congr 1
    rw [← Nat.mul_assoc, ← v_7]
  have e2 : 127 * sc (-7) * (m * sc 0) = 127 * m * (sc (-7) * sc 0) := by simp [Nat.mul_assoc, Nat.mul_comm, Nat.mul_left_comm]
  rw [e1, e2]
  exact Nat.mul_le_mul_right _ (by omega)
/-- cut to a whole number it is 0 -/
theorem cut0 {y : Nat} (h : Bd .f64 true y 127 (-7)) : ∃ s, (FloatKind.f64.decode y).integral .zero = .number s 0 0 := by
  obtain ⟨s, m, e, h1, h2, h3, h4⟩ := h
  have hd : FloatKind.f64.decode y = .number s m e := h1
  rw [hd]
  refine ⟨s, ?_⟩
  have hlt : m * sc e < sc 0 := by
    rw [v_7]
    have := sc_pos (-7)
    omega
  simp only [Ieee.Datum.integral]
  congr 1
  unfold Ieee.Toward.cut
  simp only [Nat.one_shiftLeft, Bool.toNat_false, Nat.add_zero]
  by_cases he : 0 ≤ e
  · have : m = 0 := by
      apply Classical.byContradiction
      intro hc
      have h5 : sc 0 ≤ sc e := sc_mono 0 e he
      have h6 : sc e ≤ m * sc e := Nat.le_mul_of_pos_left _ (by omega)
      omega
    rw [this]
    simp
  · have e0 : e.toNat = 0 := by omega
    rw [e0, Nat.shiftLeft_zero]
    apply Nat.div_eq_of_lt
    rw [sc_up' e 0 (-e).toNat (by omega) (by omega)] at hlt
    have h5 := Nat.lt_of_mul_lt_mul_right hlt
    have h6 : m < 2 ^ (m.log2 + 2) := Nat.lt_of_lt_of_le Nat.lt_log2_self (Nat.pow_le_pow_right (by decide) (by omega))
    by_cases hc : (-e).toNat ≤ m.log2 + 2
    · rw [Nat.min_eq_left hc]; exact h5
    · rw [Nat.min_eq_right (by omega)]; exact h6
theorem to_int0 {y : Nat} (h : Bd .f64 true y 127 (-7)) : floatToIntVal .f64 y .i64 = some 0 := by
  obtain ⟨s, hs⟩ := cut0 h
  unfold floatToIntVal Ieee.Datum.toInt
  rw [hs]
  cases s <;> decide
def trB (y : Nat) : Nat := FloatKind.f64.encode ((FloatKind.f64.decode y).integral .zero)
theorem tr0 {y : Nat} (h : Bd .f64 true y 127 (-7)) : FloatKind.f64.format.order (trB y) 0 = some .eq := by
  obtain ⟨s, hs⟩ := cut0 h
  unfold trB
  rw [hs]
  cases s <;> decide +kernel
end Go.Proofs.Ytjeaiihgedennaa
