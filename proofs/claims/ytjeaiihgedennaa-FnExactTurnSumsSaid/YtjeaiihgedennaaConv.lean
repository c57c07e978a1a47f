/- A finite float32 is a float64, and the laws' comparison of floats. Conditions: none but what is stated. -/
import Derived.Test.YtjeaiihgedennaaFloat
namespace Go.Proofs.Ytjeaiihgedennaa
open Go.ChangeShapes Go.WideShapes Go.ChangeAt Go.RowKit
attribute [local go_sem] run_fadd run_fsub run_fmul run_fquo

theorem fin_num {r : Nat} (h : finO (some r) = true) : ∃ s m e, Ieee.single.read r = .number s m e := by
  cases hr : Ieee.single.read r with
  | number s m e => exact ⟨s, m, e, rfl⟩
  | infinity s =>
    have : floatBits .sub .f32 r r = none := by
      show Ieee.single.sub r r = none
      unfold Ieee.Format.sub
      rw [hr]
      cases s <;> rfl
    simp [finO, oF, this, oO] at h
  | nan s t =>
    have hn : isN .f32 r := by
      show (Ieee.single.read r).isNaN = true
      rw [hr]; rfl
    have : floatBits .sub .f32 r r = none := nan_l r hn
    simp [finO, oF, this, oO] at h
theorem read_single {r : Nat} {s : Bool} {m : Nat} {e : Int} (h : Ieee.single.read r = .number s m e) : m < 16777216 ∧ -149 ≤ e ∧ e ≤ 104 := by
  have h1 : Ieee.single.signWeight = 2147483648 := by decide
  have h2 : Ieee.single.binade = 8388608 := by decide
  have h3 : Ieee.single.infRung = 2139095040 := by decide
  have h4 : Ieee.single.leastPlace = -149 := by decide
  unfold Ieee.Format.read at h
  simp only [h1, h2, h3, h4] at h
  split at h
  · injection h with _ a b
    omega
  · split at h
    · injection h with _ a b
      omega
    · split at h <;> cases h
theorem read_small (s : Bool) (rung : Nat) (h : rung < 9218868437227405312) : (Ieee.double.read (Ieee.double.word s rung)).isInfinity = false := by
  have h1 : Ieee.double.signWeight = 9223372036854775808 := by decide
  have h2 : Ieee.double.binade = 4503599627370496 := by decide
  have h3 : Ieee.double.infRung = 9218868437227405312 := by decide
  have hm : Ieee.double.word s rung % 9223372036854775808 = rung := by
    unfold Ieee.Format.word
    rw [h1]
    cases s <;> simp <;> omega
  unfold Ieee.Format.read
  simp only [h1, h2, h3, hm, h, if_true]
  split <;> rfl
theorem rung_lt (q n : Nat) (hr : q ≤ 1149) (hn : n < 9007199254740992) : min (q * 4503599627370496 + n) 9218868437227405312 < 9218868437227405312 := by
  refine Nat.lt_of_le_of_lt (Nat.min_le_left _ _) ?_
  omega
theorem near_ok (s : Bool) (m : Nat) (e : Int) (hm : m < 16777216) (h1 : -149 ≤ e) (h2 : e ≤ 104) : (Ieee.double.read (Ieee.double.nearest s m e)).isInfinity = false := by
  unfold Ieee.Format.nearest
  by_cases h0 : m = 0
  · rw [if_pos h0]
    exact read_small s 0 (by omega)
  · rw [if_neg h0]
    have hl : m.log2 ≤ 23 := by
      have := (Nat.log2_lt h0 (k := 24)).2 (by omega)
      omega
    have hp : Ieee.double.leastPlace = -1074 := by decide
    have hf : Ieee.double.fractionBits = 52 := rfl
    have hb : Ieee.double.binade = 4503599627370496 := by decide
    have hi : Ieee.double.infRung = 9218868437227405312 := by decide
    have hlast : max (e + (m.log2 : Int) - (52 : Nat)) (-1074) = e + (m.log2 : Int) - 52 := by omega
    simp only [hp, hf, hb, hi, hlast]
    have hd : (e + (m.log2 : Int) - 52 - e).toNat = 0 := by omega
    have hk : (e - (e + (m.log2 : Int) - 52)).toNat = 52 - m.log2 := by omega
    rw [hd, hk]
    have hlt : m < 2 ^ (m.log2 + 1) := Nat.lt_log2_self
    have hn : m <<< (52 - m.log2) < 9007199254740992 := by
      rw [Nat.shiftLeft_eq]
      calc m * 2 ^ (52 - m.log2) < 2 ^ (m.log2 + 1) * 2 ^ (52 - m.log2) := Nat.mul_lt_mul_of_pos_right hlt (Nat.two_pow_pos _)
        _ = 2 ^ 53 := by rw [← Nat.pow_add]; congr 1; omega
        _ = 9007199254740992 := by decide
    generalize m <<< (52 - m.log2) = n at *
    have hcut : Ieee.Toward.even.cut s n 0 = n := by
      unfold Ieee.Toward.cut
      simp
      omega
    rw [hcut]
    refine read_small s _ ?_
    have hr : (e + (m.log2 : Int) - 52 - -1074).toNat ≤ 1149 := by omega
    generalize (e + (m.log2 : Int) - 52 - -1074).toNat = q at *
    exact rung_lt q n hr hn
theorem enc_eq (s : Bool) (m : Nat) (e : Int) : FloatKind.f64.encode (.number s m e) = Ieee.double.nearest s m e := by simp only [FloatKind.encode, Ieee.Format.write, FloatKind.format]
theorem dec_eq (b : Nat) : FloatKind.f64.decode b = Ieee.double.read b := by simp only [FloatKind.decode, FloatKind.format]
theorem dec_eq1 (b : Nat) : FloatKind.f32.decode b = Ieee.single.read b := by simp only [FloatKind.decode, FloatKind.format]
theorem conv_ok {r : Nat} (h : finO (some r) = true) : ∃ d, floatToFloatBits .f32 r .f64 = some d := by
  obtain ⟨s, m, e, hr⟩ := fin_num h
  obtain ⟨hm, h1, h2⟩ := read_single hr
  refine ⟨FloatKind.f64.encode (.number s m e), ?_⟩
  have hd : FloatKind.f32.decode r = .number s m e := by rw [dec_eq1]; exact hr
  have hn : (FloatKind.f64.decode (FloatKind.f64.encode (.number s m e))).isInfinity = false := by rw [dec_eq, enc_eq]; exact near_ok s m e hm h1 h2
  have hne : ¬ FloatKind.f32 = FloatKind.f64 := by decide
  unfold floatToFloatBits
  rw [if_neg hne, hd]
  simp only [hn, Bool.false_eq_true, if_false]

theorem ord_self {x : Nat} (h : (Ieee.double.read x).isNaN = false) : Ieee.double.order x x = some .eq := by
  unfold Ieee.Format.order
  cases hr : Ieee.double.read x with
  | nan a b => rw [hr] at h; cases h
  | infinity a => simp [Ieee.Datum.order]
  | number a b c => simp [Ieee.Datum.order]
theorem ord_nan {x : Nat} (h : (Ieee.double.read x).isNaN = true) : Ieee.double.order x x = none := nan_ol (k := .f64) x h

set_option maxHeartbeats 800000 in
theorem sameF (x : Nat) (w : World) :
    Calls Try.prog 10 #[.float .f64 x, .float .f64 x] w fun e w' => e = .returned (.bool true) ∧ ∃ q, w' = w.drewN q := by
  cases hn : (Ieee.double.read x).isNaN with
  | true =>
    have h1 : FloatKind.f64.format.order x x = none := ord_nan hn
    go_enter Try.func10, Try.ntmps10
    go_wp2
    go_ret
    exact ⟨rfl, 0, rfl⟩
  | false =>
    have h1 : FloatKind.f64.format.order x x = some .eq := ord_self hn
    cases h0 : (FloatKind.f64.format.order x 0 == some .eq) with
    | true =>
      have hq : ∀ W : World, (FloatKind.f64.format.order (fV .quo .f64 4607182418800017408 x W) 0 == some .gt) = (oO .f64 (oF .quo .f64 (some 4607182418800017408) (some x)) (some 0) == some .gt) := fun W => by
        rw [rep_o (rep_f (op := .quo) (rep_self .f64 4607182418800017408) (rep_self .f64 x) W) (rep_self .f64 0)]
      generalize (oO .f64 (oF .quo .f64 (some 4607182418800017408) (some x)) (some 0) == some .gt) = g at *
      go_enter Try.func10, Try.ntmps10
      go_wp2
      go_ret
      exact ⟨rfl, _, rfl⟩
    | false =>
      go_enter Try.func10, Try.ntmps10
      go_wp2
      go_ret
      exact ⟨rfl, 0, rfl⟩
end Go.Proofs.Ytjeaiihgedennaa
