/- The sine of turns in [0, 1/4], both sides. Conditions: those. -/
import Derived.Test.YtjeaiihgedennaaFw
namespace Go.Proofs.Ytjeaiihgedennaa
open Go.ChangeShapes Go.WideShapes Go.ChangeAt Go.RowKit

/-- the round's number k = 8 - i, 2k, 2k + 1, as bits -/
def kB : Nat → Nat
  | 0 => 4620693217682128896
  | 1 => 4619567317775286272
  | 2 => 4618441417868443648
  | 3 => 4617315517961601024
  | 4 => 4616189618054758400
  | 5 => 4613937818241073152
  | 6 => 4611686018427387904
  | 7 => 4607182418800017408
  | _ => 0
def k2B : Nat → Nat
  | 0 => 4625196817309499392
  | 1 => 4624070917402656768
  | 2 => 4622945017495814144
  | 3 => 4621819117588971520
  | 4 => 4620693217682128896
  | 5 => 4618441417868443648
  | 6 => 4616189618054758400
  | 7 => 4611686018427387904
  | _ => 0
def k3B : Nat → Nat
  | 0 => 4625478292286210048
  | 1 => 4624633867356078080
  | 2 => 4623507967449235456
  | 3 => 4622382067542392832
  | 4 => 4621256167635550208
  | 5 => 4619567317775286272
  | 6 => 4617315517961601024
  | 7 => 4613937818241073152
  | _ => 0
def chkK (i : Nat) : Bool := floatBits .sub .f64 (kB i) 4607182418800017408 == some (kB (i + 1)) && floatBits .mul .f64 4611686018427387904 (kB i) == some (k2B i) && floatBits .add .f64 (k2B i) 4607182418800017408 == some (k3B i) && floatBits .mul .f64 (k2B i) (k3B i) == some (dB i) &&
  (FloatKind.f64.format.order (kB i) 4607182418800017408 == some .gt || FloatKind.f64.format.order (kB i) 4607182418800017408 == some .eq) && decide (kB (i + 1) < kB i)
theorem k_facts (i : Nat) (hi : i < 8) : floatBits .sub .f64 (kB i) 4607182418800017408 = some (kB (i + 1)) ∧ floatBits .mul .f64 4611686018427387904 (kB i) = some (k2B i) ∧ floatBits .add .f64 (k2B i) 4607182418800017408 = some (k3B i) ∧ floatBits .mul .f64 (k2B i) (k3B i) = some (dB i) ∧
    (FloatKind.f64.format.order (kB i) 4607182418800017408 == some .gt || FloatKind.f64.format.order (kB i) 4607182418800017408 == some .eq) = true ∧ kB (i + 1) < kB i := by
  have hall : (List.range 8).all chkK = true := by decide +kernel
  have h1 := List.all_eq_true.1 hall i (List.mem_range.2 hi)
  unfold chkK at h1
  simp only [Bool.and_eq_true, beq_iff_eq, decide_eq_true_eq] at h1
  obtain ⟨⟨⟨⟨⟨a, b⟩, c⟩, d⟩, e⟩, f⟩ := h1
  exact ⟨a, b, c, d, e, f⟩
theorem k_end : FloatKind.f64.format.order (kB 8) 4607182418800017408 = some .lt := by decide +kernel
def fltOf : Value → Nat
  | .float _ b => b
  | _ => 0
theorem lt_half {x : Nat} (h : Bd .f64 true x 16 (-6)) : FloatKind.f64.format.order x 4602678819172646912 = some .lt := by
  obtain ⟨s, m, e, h1, h2, h3, h4⟩ := h
  rw [ord_eq h1 (h4 rfl) rd_50 ⟨h3, by decide⟩, v_50, ordN_lt]
  have h5 : sc (-1) = 32 * sc (-6) := sc_up' (-6) (-1) 5 (by omega) (by omega)
  have := sc_pos (-6)
  omega
theorem ngt_q {x : Nat} (h : Bd .f64 true x 16 (-6)) : (FloatKind.f64.format.order x 4598175219545276416 == some .gt) = false := by
  obtain ⟨s, m, e, h1, h2, h3, h4⟩ := h
  rw [ord_eq h1 (h4 rfl) rd_25 ⟨h3, by decide⟩, v_25]
  rw [← v_q] at h2
  unfold ordN
  split
  · rfl
  · rw [if_pos (by omega)]
    rfl
theorem Bd.near {y : Nat} (h : Bd .f64 true y 16 (-6)) : Bd .f64 true y 127 (-7) := h.weak (by decide) (by decide) (by decide)

set_option maxRecDepth 10000 in
set_option maxHeartbeats 800000 in
theorem iSine (y : Nat) (hy : Bd .f64 true y 16 (-6)) (w : World) :
    Calls Try.prog 75 #[.float .f64 y] w fun e w' => e = .returned (.float .f64 (sinB y)) ∧ w = w' := by
  have H := Lib.hid (iPart y hy.near)
  obtain ⟨h1, h2, h3, h4, h5, h6, h7⟩ := sine_bd (Nat.le_refl _) hy
  have o1 := lt_half h4
  have o2 := ngt_q h4
  have r2 := fr h2
  have r3 := fr h3
  have R6 := hide (fr h6)
  have HP := hide (fun i hi => (sP_bd h5 i hi).2)
  clear h1 h2 h3 h4 h5 h6 h7 hy
  generalize sinB y = R at *
  generalize sF y = f at *
  generalize sZ y = z at *
  generalize sU y = u at *
  have K0 : Hid (kB 0 = 4620693217682128896) := hide rfl
  have P0 : Hid (sP u 0 = 4607182418800017408) := hide rfl
  go_enter Try.func75, Try.ntmps75
  go_wp2_with (go_at_call 74; refine (H.out _).mono ?_; rintro e w' ⟨rfl, rfl⟩)
  go_loopw [7, 8] (fun t7 t8 wr => ∃ i : Nat, i ≤ 8 ∧ t7 = .float .f64 (sP u i) ∧ t8 = .float .f64 (kB i) ∧ wr = w) (fun _ t8 _ => fltOf t8)
  case atStart => exact ⟨0, by omega, by rw [P0.out], by rw [K0.out], rfl⟩
  case round =>
    obtain ⟨i, hi, rfl, rfl, rfl⟩ := hrel
    clear H r2 r3 o1 o2
    by_cases hlt : i < 8
    · obtain ⟨a1, a2, a3, a4, a5, a6⟩ := k_facts i hlt
      obtain ⟨b1, b2, b3, b4⟩ := HP.out i hi hlt
      have c1 := fr a1
      have c2 := fr a2
      have c3 := fr a3
      have c4 := fr a4
      have e1 := fr b1
      have e2 := fr b2
      have e3 := fr b3
      have HK1 := hide a6
      clear a1 a2 a3 a4 a6 b1 b2 b3 b4
      go_wp2
      exact ⟨⟨i + 1, hlt, rfl, rfl, trivial⟩, HK1.out⟩
    · obtain rfl : i = 8 := by omega
      have o3 := k_end
      have r6 := R6.out
      go_wp2
      go_ret
      exact ⟨rfl, rfl⟩
theorem d_facts (i : Nat) (hi : i < 8) : wrap64 (2 * (8 - (i : Int))) = 2 * (8 - (i : Int)) ∧ wrap64 (2 * (8 - (i : Int)) + 1) = 2 * (8 - (i : Int)) + 1 ∧ wrap64 (2 * (8 - (i : Int)) * (2 * (8 - (i : Int)) + 1)) = ((dN i : Nat) : Int) ∧ wrap64 (8 - (i : Int) - 1) = 8 - ((i + 1 : Nat) : Int) := by
  obtain rfl | rfl | rfl | rfl | rfl | rfl | rfl | rfl : i = 0 ∨ i = 1 ∨ i = 2 ∨ i = 3 ∨ i = 4 ∨ i = 5 ∨ i = 6 ∨ i = 7 := by omega
  all_goals decide +kernel
set_option maxRecDepth 10000 in
set_option maxHeartbeats 800000 in
theorem sSine (y : Nat) (hy : Bd .f64 true y 16 (-6)) (w : World) :
    Calls Try.prog 62 #[.float .f64 y] w fun e w' => e = .returned (.float .f64 (sinB y)) ∧ w = w' := by
  have hn := hy.near
  obtain ⟨h1, h2, h3, h4, h5, h6, h7⟩ := sine_bd (Nat.le_refl _) hy
  have o1 := lt_half h4
  have o2 := ngt_q h4
  have r0 := fr (self0 hy)
  have o5 : FloatKind.f64.format.order 0 0 = some .eq := by decide +kernel
  have o3 := lt_huge hn
  have o4 := gt_nhuge hn
  have i0 := ir (to_int0 hn)
  have f0 : floatOfInt .f64 0 = 0 := by decide +kernel
  have r1 := fr h1
  have n0 := nlt0 h4
  have r2 := fr h2
  have r3 := fr h3
  have R6 := hide (fr h6)
  have HP := hide (fun i hi => (sP_bd h5 i hi).2)
  clear h1 h2 h3 h4 h5 h6 h7 hy hn
  generalize sinB y = R at *
  generalize sF y = f at *
  generalize sZ y = z at *
  generalize sU y = u at *
  have P0 : Hid (sP u 0 = 4607182418800017408) := hide rfl
  go_enter Try.func62, Try.ntmps62
  go_wp2
  go_loopw [7, 8] (fun t7 t8 wr => ∃ i : Nat, i ≤ 8 ∧ t7 = .float .f64 (sP u i) ∧ t8 = .int .i64 (8 - (i : Int)) ∧ wr = w) (fun _ t8 _ => (intOf t8).toNat)
  case atStart => exact ⟨0, by omega, by rw [P0.out], rfl, rfl⟩
  case round =>
    obtain ⟨i, hi, rfl, rfl, rfl⟩ := hrel
    clear r2 r3 o1 o2 r0 o5 o3 o4 i0 f0 r1 n0
    by_cases hlt : i < 8
    · obtain ⟨d1, d2, d3, d4⟩ := d_facts i hlt
      obtain ⟨b1, b2, b3, b4⟩ := HP.out i hi hlt
      have e1 := fr b1
      have e2 := fr b2
      have e3 := fr b3
      have D : Hid (floatOfInt .f64 ((dN i : Nat) : Int) = dB i) := hide rfl
      have q1 : (1 : Int) ≤ 8 - (i : Int) := by omega
      have D4 : Hid ((intOf (.int .i64 (8 - ((i + 1 : Nat) : Int)))).toNat < (intOf (.int .i64 (8 - (i : Int)))).toNat) := hide (by simp only [intOf]; omega)
      clear b1 b2 b3 b4 d1 d2 d3 d4
      obtain ⟨d1, d2, d3, d4⟩ := d_facts i hlt
      rw [← D.out] at e2 e3
      generalize ((dN i : Nat) : Int) = dd at *
      generalize hk' : 8 - ((i + 1 : Nat) : Int) = k' at *
      have HK' := hide hk'
      clear hk'
      generalize 8 - (i : Int) = k at *
      go_wp2
      rw [d4]
      exact ⟨⟨i + 1, hlt, rfl, by rw [HK'.out], trivial⟩, D4.out⟩
    · obtain rfl : i = 8 := by omega
      have r6 := R6.out
      go_wp2
      go_ret
      exact ⟨rfl, rfl⟩
end Go.Proofs.Ytjeaiihgedennaa
