/- Plain lemmas on positive single floats, and the value of the logarithm. Conditions: what is stated. -/
import Derived.Test.YtjeaiihgedennaaLogS
import Derived.Test.YtjeaiihgedennaaConv
namespace Go.Proofs.Ytjeaiihgedennaa
open Ieee Go.ChangeShapes Go.WideShapes Go.ChangeAt Go.RowKit

theorem LeV_mono {m : Nat} {e a b : Int} (h : LeV m e a) (hab : a ≤ b) : LeV m e b := by
  unfold LeV at *
  exact Nat.le_trans h (Nat.pow_le_pow_right (by omega) (by omega))
theorem LeP_mono {f : Format} {a b : Int} {x : Nat} (h : LeP f a x) (hab : a ≤ b) : LeP f b x := by
  obtain ⟨s, m, e, h1, h2, h3, h4⟩ := h
  exact ⟨s, m, e, h1, LeV_mono h2 hab, h3, h4⟩
def leB (k : Int) (x : Nat) : Bool := match double.read x with
  | .number _ m e => decide ((m.log2 : Int) + 1 + e ≤ k) && (decide (-1100 ≤ e) && decide (e ≤ 1100))
  | _ => false
theorem leB_t {k : Int} {x : Nat} (h : leB k x = true) : LeP double k x := by
  unfold leB at h
  split at h
  · rename_i s m e hr
    simp only [Bool.and_eq_true, decide_eq_true_eq] at h
    have hu : m < 2 ^ (m.log2 + 1) := Nat.lt_log2_self
    exact ⟨s, m, e, hr, LeV_pow (d := m.log2 + 1) (Nat.le_of_lt hu) (by omega) (by omega), h.2.1, h.2.2⟩
  · cases h
def quoB (j : Nat) : Bool := match floatBits .quo .f64 4607182418800017408 (kf j) with
  | some c => leB 1 c
  | none => false
theorem quo_tab : ∀ j : Fin 13, quoB j = true := by decide +kernel
theorem quo_kf {j : Nat} (h : j < 13) : ∃ c, floatBits .quo .f64 4607182418800017408 (kf j) = some c ∧ LeP double 1 c := by
  have := quo_tab ⟨j, h⟩
  unfold quoB at this
  split at this
  · rename_i c hc
    exact ⟨c, hc, leB_t this⟩
  · cases this
theorem oF_add {a b c d : Nat} {o p : Option Nat} (h1 : o = some a) (h2 : p = some b) (h : double.add a b = some c) (_h : c = d) : oF .add .f64 o p = some d := by
  subst h1 h2 _h
  exact h
theorem oF_mul {a b c : Nat} {o p : Option Nat} (h1 : o = some a) (h2 : p = some b) (h : double.mul a b = some c) : oF .mul .f64 o p = some c := by
  subst h1 h2
  exact h
theorem lgP_ok {u : Nat} (hu : LeP double (-2) u) {j : Nat} (hj : j ≤ 13) : ∃ q, lgP (some u) j = some q ∧ LeP double 2 q := by
  induction j with
  | zero => exact ⟨0, rfl, leB_t (by decide +kernel)⟩
  | succ j ih =>
    obtain ⟨q, h1, h2⟩ := ih (by omega)
    obtain ⟨c, h3, h4⟩ := quo_kf (j := j) (by omega)
    obtain ⟨p, h5, h6⟩ := mul_le hu h2 (by omega) (by omega) (by omega) (by omega)
    obtain ⟨r, h7, h8⟩ := add_le h4 (LeP_mono h6 (b := 1) (by omega)) (by omega) (by omega)
    exact ⟨r, oF_add (o := oF .quo .f64 (some 4607182418800017408) (some (kf j))) h3 (oF_mul rfl h1 h5) h7 rfl, h8⟩
theorem foi_eq (n : Int) : floatOfInt .f64 n = double.nearest (decide (n < 0)) n.natAbs 0 := by
  simp only [floatOfInt, FloatKind.nearest, FloatKind.encode, Ieee.Format.write, FloatKind.format]
theorem foi_le {n : Int} (h1 : -256 ≤ n) (h2 : n ≤ 256) : LeP double 8 (floatOfInt .f64 n) := by
  rw [foi_eq]
  exact near_le64 _ _ _ _ (LeV_pow (d := 8) (by omega) (by omega) (by omega)) (by omega) (by omega) (by omega)
theorem two_le : LeP double 2 4611686018427387904 := leB_t (by decide +kernel)
theorem ln2_le : LeP double 1 4604418534313441775 := leB_t (by decide +kernel)
/-- the logarithm is a number of magnitude at most 2 ^ 10 -/
theorem lg_ok {E f : Nat} (h3 : 4503599627370496 ≤ f) (h4 : f < 9007199254740992) (h1 : 874 ≤ E) (h2 : E ≤ 1150) : ∃ r, lgF (D (nrm f) f) (lgE E f) = some r ∧ LeP double 10 r := by
  have hnc := nrm_cases f
  obtain ⟨av, bv, sv, r1, r2, r3, hsv⟩ := pm1 (E := nrm f) (f := f) ⟨by omega, by omega, h3, h4⟩ (by omega)
  obtain ⟨uv, r4, huv⟩ := mul_le hsv hsv (by omega) (by omega) (by omega) (by omega)
  obtain ⟨q, q1, q2⟩ := lgP_ok (u := uv) huv (Nat.le_refl 13)
  obtain ⟨a, a1, a2⟩ := mul_le hsv q2 (by omega) (by omega) (by omega) (by omega)
  obtain ⟨b, b1, b2⟩ := mul_le two_le a2 (by omega) (by omega) (by omega) (by omega)
  obtain ⟨c, c1, c2⟩ := mul_le (foi_le (n := (E : Int) - (nrm f : Int)) (by omega) (by omega)) ln2_le (by omega) (by omega) (by omega) (by omega)
  obtain ⟨r, s1, s2⟩ := add_le (LeP_mono b2 (b := 9) (by omega)) (LeP_mono c2 (b := 9) (by omega)) (by omega) (by omega)
  have hS : lgS (D (nrm f) f) = some sv := quo_key r1 r2 r3
  have hU : oF .mul .f64 (lgS (D (nrm f) f)) (lgS (D (nrm f) f)) = some uv := oF_mul hS hS r4
  refine ⟨r, ?_, s2⟩
  unfold lgF
  rw [hU]
  exact oF_add (oF_mul rfl (oF_mul hS q1 a1) b1) (oF_mul rfl rfl c1) s1 rfl
theorem dec64 (b : Nat) : FloatKind.f64.decode b = double.read b := by simp only [FloatKind.decode, FloatKind.format]
theorem enc32 (s : Bool) (m : Nat) (e : Int) : FloatKind.f32.encode (.number s m e) = single.nearest s m e := by simp only [FloatKind.encode, Format.write, FloatKind.format]
theorem dec32 (b : Nat) : FloatKind.f32.decode b = single.read b := by simp only [FloatKind.decode, FloatKind.format]
theorem narrow_ok {r : Nat} (h : LeP double 10 r) : ∃ y, floatToFloatBits .f64 r .f32 = some y := by
  obtain ⟨s, m, e, h1, h2, h3, h4⟩ := h
  obtain ⟨s', m', e', g1, _⟩ := near_le32 s m e 10 h2 (by omega) (by omega) (by omega)
  refine ⟨single.nearest s m e, ?_⟩
  unfold floatToFloatBits
  rw [if_neg (by decide), dec64, h1]
  simp only [enc32, dec32, g1, Datum.isInfinity, Bool.false_eq_true, if_false]
theorem rd32 {x : Nat} (h1 : 1 ≤ x) (h2 : x < 2139095040) : ∃ m e, single.read x = .number false m e ∧ m ≠ 0 ∧ m < 16777216 ∧ -149 ≤ e ∧ e ≤ 104 := by
  have e0 : x = single.word false x := by unfold Format.word; simp
  rw [e0, read_wd32 false x (by omega)]
  by_cases h3 : x < 8388608
  · rw [if_pos h3]
    exact ⟨_, _, rfl, by omega, by omega, by omega, by omega⟩
  · rw [if_neg h3, if_pos h2]
    exact ⟨_, _, rfl, by omega, by omega, by omega, by omega⟩
theorem rdInf : single.read 2139095040 = .infinity false := by decide +kernel
theorem widen_ok {x : Nat} (h1 : 1 ≤ x) (h2 : x < 2139095040) : ∃ E f, InD E f ∧ 874 ≤ E ∧ E ≤ 1150 ∧ floatToFloatBits .f32 x .f64 = some (D E f) := by
  obtain ⟨m, e, hr, h0, hm, he1, he2⟩ := rd32 h1 h2
  obtain ⟨E, f, hin, hE1, hE2, hn⟩ := near_up h0 hm he1 he2
  refine ⟨E, f, hin, hE1, hE2, ?_⟩
  unfold floatToFloatBits
  rw [if_neg (by decide), dec32, hr]
  have hi : (double.read (D E f)).isInfinity = false := by rw [read_D hin]; rfl
  have he : FloatKind.f64.encode (.number false m e) = D E f := by rw [← hn]; simp only [FloatKind.encode, Format.write, FloatKind.format]
  simp only [he, dec64, hi, Bool.false_eq_true, if_false]
def nar (o : Option Nat) : Nat := match o with
  | none => 0
  | some r => (floatToFloatBits .f64 r .f32).getD 0
def lgD (E f : Nat) : Nat := nar (lgF (D (nrm f) f) (lgE E f))
def lgW (o : Option Nat) : Nat := match o with
  | none => 0
  | some d => lgD (d / 4503599627370496) (4503599627370496 + d % 4503599627370496)
/-- the logarithm's value at a positive single -/
def lgN (x : Nat) : Nat := if x = 2139095040 then 2139095040 else lgW (floatToFloatBits .f32 x .f64)
theorem nar_some {o : Option Nat} {r y : Nat} (h : o = some r) (h2 : floatToFloatBits .f64 r .f32 = some y) : nar o = y := by
  subst h
  show (floatToFloatBits .f64 r .f32).getD 0 = y
  rw [h2]
  rfl
theorem lgW_some {o : Option Nat} {d E f : Nat} (h : o = some d) (h1 : d / 4503599627370496 = E) (h2 : 4503599627370496 + d % 4503599627370496 = f) : lgW o = lgD E f := by
  subst h
  show lgD (d / 4503599627370496) (4503599627370496 + d % 4503599627370496) = lgD E f
  rw [h1, h2]
theorem lgN_eq {x : Nat} (h1 : 1 ≤ x) (h2 : x < 2139095040) : ∃ E f r, InD E f ∧ 874 ≤ E ∧ E ≤ 1150 ∧ floatToFloatBits .f32 x .f64 = some (D E f) ∧ lgF (D (nrm f) f) (lgE E f) = some r ∧ floatToFloatBits .f64 r .f32 = some (lgN x) := by
  obtain ⟨E, f, hin, hE1, hE2, hw⟩ := widen_ok h1 h2
  obtain ⟨r, hr, hl⟩ := lg_ok hin.2.2.1 hin.2.2.2 hE1 hE2
  obtain ⟨y, hy⟩ := narrow_ok hl
  refine ⟨E, f, r, hin, hE1, hE2, hw, hr, ?_⟩
  have e1 : D E f / 4503599627370496 = E := D_div hin
  have e2 : 4503599627370496 + D E f % 4503599627370496 = f := by
    obtain ⟨a, b, c, d⟩ := hin
    unfold D
    omega
  have e3 : lgN x = y := by
    unfold lgN
    rw [if_neg (by omega), lgW_some hw e1 e2]
    exact nar_some hr hy
  rw [e3]
  exact hy
theorem ordX {x : Nat} (h1 : 1 ≤ x) (h2 : x ≤ 2139095040) : FloatKind.f32.format.order x x = some .eq ∧ FloatKind.f32.format.order x 0 = some .gt := by
  show single.order x x = some .eq ∧ single.order x 0 = some .gt
  have e0 : single.read 0 = .number false 0 (-149) := by decide +kernel
  unfold Format.order
  rw [e0]
  by_cases h3 : x = 2139095040
  · subst h3
    rw [rdInf]
    exact ⟨rfl, rfl⟩
  · obtain ⟨m, e, hr, h0, _, _, _⟩ := rd32 h1 (by omega)
    rw [hr]
    simp only [Datum.order, signed, Nat.zero_shiftLeft, Bool.false_eq_true, if_false]
    refine ⟨by congr 1; exact Int.compare_eq_eq.2 rfl, ?_⟩
    congr 1
    rw [Int.compare_eq_gt]
    have : 0 < m <<< (e - min e (-149)).toNat := by
      rw [Nat.shiftLeft_eq]
      exact Nat.mul_pos (by omega) (Nat.two_pow_pos _)
    omega
theorem finX {x : Nat} (h1 : 1 ≤ x) (h2 : x < 2139095040) : finO (some x) = true := by
  obtain ⟨m, e, hr, h0, _, he, _⟩ := rd32 h1 h2
  have hs : floatBits .sub .f32 x x = some 0 := by
    show single.sub x x = some 0
    unfold Format.sub
    rw [hr]
    simp only [Datum.opposite, Datum.sum, Option.map_some, Format.write]
    have e1 : signed false m (e - min e e).toNat + signed (!false) m (e - min e e).toNat = 0 := by
      simp only [signed, Bool.not_false, if_true, Bool.false_eq_true, if_false]
      omega
    rw [e1]
    simp only [if_true, Int.natAbs_zero, Bool.false_and]
    congr 1
  have ho : single.order 0 0 = some .eq := by decide +kernel
  unfold finO
  rw [show oF .sub .f32 (some x) (some x) = some 0 from hs]
  show (single.order 0 0 == some .eq) = true
  rw [ho]
  rfl
theorem finInf : finO (some 2139095040) = false := by decide +kernel
end Go.Proofs.Ytjeaiihgedennaa
