/- Contract of the reference's logarithm at a positive double that came of a float32. Conditions: what is stated. -/
import Derived.Test.YtjeaiihgedennaaLog
namespace Go.Proofs.Ytjeaiihgedennaa
open Go.ChangeShapes Go.WideShapes Go.ChangeAt Go.RowKit
attribute [local go_sem] run_fadd run_fsub run_fmul run_fquo drewN_zero

theorem ord_D {E f : Nat} (h : InD E f) : FloatKind.f64.format.order (D E f) (D E f) = some .eq := by
  have := order_D h h
  rw [if_neg (Nat.lt_irrefl _), if_neg (Nat.lt_irrefl _), Int.compare_eq_eq.2 rfl] at this
  exact this
theorem ord_Dm {E f : Nat} (h : InD E f) (hE : E ≤ 2045) : FloatKind.f64.format.order (D E f) 9218868437227405311 = some .lt := by
  have e : (9218868437227405311 : Nat) = D 2046 9007199254740991 := by decide +kernel
  have := order_D h (E' := 2046) (f' := 9007199254740991) ⟨by omega, by omega, by omega, by omega⟩
  rw [if_pos (by omega)] at this
  rw [e]
  exact this
theorem ord_D0 {E f : Nat} (h : InD E f) : FloatKind.f64.format.order (D E f) 0 = some .gt := by
  have e : Ieee.double.read 0 = .number false 0 (-1074) := by decide +kernel
  show Ieee.double.order (D E f) 0 = some .gt
  unfold Ieee.Format.order
  rw [read_D h, e]
  simp only [Ieee.Datum.order, Ieee.signed, Nat.zero_shiftLeft, Bool.false_eq_true, if_false]
  congr 1
  rw [Int.compare_eq_gt]
  have h1 : 0 < f := by have := h.2.2.1; omega
  have : 0 < f <<< (-1075 + (E : Int) - min (-1075 + (E : Int)) (-1074)).toNat := by
    rw [Nat.shiftLeft_eq]
    exact Nat.mul_pos h1 (Nat.two_pow_pos _)
  omega
set_option maxHeartbeats 400000 in
theorem mathIsInf (x : Nat) (w : World) (h : FloatKind.f64.format.order x 9218868437227405311 = some .lt) :
    Calls Try.prog 77 #[.float .f64 x, .int .i64 1] w fun e w' => e = .returned (.bool false) ∧ w = w' := by
  go_enter Try.func77, Try.ntmps77
  go_wp2
  go_ret
  exact ⟨rfl, rfl⟩
set_option maxHeartbeats 1600000 in
theorem sLogWide (E f : Nat) (w : World) (hin : InD E f) (h1 : 874 ≤ E) (h2 : E ≤ 1150) :
    Calls Try.prog 57 #[.float .f64 (D E f)] w fun e w' => (∃ r, e = .returned (.float .f64 r) ∧ Rep .f64 (lgF (D (nrm f) f) (lgE E f)) r) ∧ ∃ q, w' = w.drewN q := by
  have hnc := nrm_cases f
  obtain ⟨hA, hB, h3, h4⟩ := hin
  obtain ⟨av, bv, sv, r1, r2, r3, hsv⟩ := pm1 (E := nrm f) (f := f) ⟨by omega, by omega, h3, h4⟩ (by omega)
  obtain ⟨uv, r4, huv⟩ := mul_le hsv hsv (by omega) (by omega) (by omega) (by omega)
  have HSV : Hid (lgS (D (nrm f) f) = some sv) := hide (quo_key r1 r2 r3)
  have HUV : Hid (oF .mul .f64 (some sv) (some sv) = some uv) := hide r4
  have v1 := fV_some (op := .sub) (k := .f64) r1
  have v2 := fV_some (op := .add) (k := .f64) r2
  have v3 := fV_some (op := .quo) (k := .f64) r3
  have v4 := fV_some (op := .mul) (k := .f64) r4
  have z1 := fN_some (op := .sub) (k := .f64) r1
  have z2 := fN_some (op := .add) (k := .f64) r2
  have z3 := fN_some (op := .quo) (k := .f64) r3
  have z4 := fN_some (op := .mul) (k := .f64) r4
  have V := Lib.hid (And.intro v1 (And.intro v2 (And.intro v3 v4)))
  have Z := hide (And.intro z1 (And.intro z2 (And.intro z3 z4)))
  clear v1 v2 v3 v4 z1 z2 z3 z4 r1 r2 r3 r4 hsv huv
  have Hin : Hid (∀ k, 1 ≤ k → k ≤ 2046 → InD k f) := hide fun k a b => ⟨a, b, h3, h4⟩
  have Hn : Hid (1022 ≤ nrm f ∧ nrm f ≤ 1023) := hide (by omega)
  have Hlo : Hid (∀ k, 1 ≤ k → k ≤ 2045 → floatBits .mul .f64 (D k f) 4611686018427387904 = some (D (k + 1) f)) := hide fun k a b => mul2 ⟨a, by omega, h3, h4⟩ b
  have Hhi : Hid (∀ k, 2 ≤ k → k ≤ 2046 → floatBits .quo .f64 (D k f) 4611686018427387904 = some (D (k - 1) f)) := hide fun k a b => half ⟨by omega, b, h3, h4⟩ a
  have Hlt : Hid (∀ k, 1 ≤ k → k ≤ 2046 → (FloatKind.f64.format.order (D k f) 4604930618986332160 == some .lt) = decide (k < nrm f)) := hide fun k a b => lt75n ⟨a, b, h3, h4⟩
  have Hge : Hid (∀ k, 1 ≤ k → k ≤ 2046 → (FloatKind.f64.format.order (D k f) 4609434218613702656 == some .gt || FloatKind.f64.format.order (D k f) 4609434218613702656 == some .eq) = decide (nrm f < k)) := hide fun k a b => ge15n ⟨a, b, h3, h4⟩
  have HU : Hid (∀ k, 1 ≤ k → k ≤ 2046 → xUp (.float .f64 (D k f)) = 3000 - k) := hide fun k a b => xUp_D ⟨a, b, h3, h4⟩
  have HD : Hid (∀ k, 1 ≤ k → k ≤ 2046 → xDn (.float .f64 (D k f)) = k) := hide fun k a b => xDn_D ⟨a, b, h3, h4⟩
  have H0 : Hid (floatOfInt .f64 (-((0 : Nat) : Int)) = 0) := hide (by decide +kernel)
  have o1 : FloatKind.f64.format.order (D E f) (D E f) = some .eq := ord_D ⟨hA, hB, h3, h4⟩
  have o2 : FloatKind.f64.format.order (D E f) 0 = some .gt := ord_D0 ⟨hA, hB, h3, h4⟩
  have o3 : FloatKind.f64.format.order (D E f) 9218868437227405311 = some .lt := ord_Dm ⟨hA, hB, h3, h4⟩ (by omega)
  have O := hide (And.intro o1 (And.intro o2 o3))
  have HI := Lib.hid (fun x W h => mathIsInf x W h)
  clear o1 o2 o3
  generalize hx0 : D E f = x0 at *
  have HX0 := hide hx0
  clear hx0
  obtain ⟨o1, o2, o3⟩ := O.out
  go_enter Try.func57, Try.ntmps57
  go_wp2_with (go_at_call 77; refine (HI.out _ _ o3).mono ?_; rintro e w' ⟨rfl, rfl⟩)
  clear o1 o2 o3 O
  go_loop [0, 3] (fun x e => ∃ F : Nat, Hid (F ≤ E ∧ (F = E ∨ nrm f ≤ F)) ∧ x = .float .f64 (D F f) ∧ e = .int .i64 ((E : Int) - (F : Int))) (fun x _ => xDn x)
  case atStart => exact ⟨E, hide (by omega), by rw [HX0.out], by go_num⟩
  case round =>
    obtain ⟨F, hF, rfl, rfl⟩ := hrel
    have hn := Hn.out
    have hF := hF.out
    by_cases hc : nrm f < F
    · have g1 := Hge.out F (by omega) (by omega)
      rw [decide_eq_true hc] at g1
      have g2 := Hhi.out F (by omega) (by omega)
      have g3 := fV_some g2
      have g4 := fN_some g2
      have m1 := hide (HD.out F (by omega) (by omega))
      have m2 := hide (HD.out (F - 1) (by omega) (by omega))
      have b1 : 0 ≤ (E : Int) - (F : Int) := by omega
      have b2 : (E : Int) - (F : Int) ≤ 2000 := by omega
      have HB : Hid ((E : Int) - (F : Int) + 1 = (E : Int) - ((F - 1 : Nat) : Int)) := hide (by omega)
      clear g2
      have hc1 := hide hc
      have hF1 := hide hF
      clear hc hF hn
      generalize hx : D F f = x at *
      generalize hy : D (F - 1) f = y at *
      generalize (E : Int) - (F : Int) = a at *
      have HY := hide hy
      clear hx hy
      go_wp2
      go_round
      case rel => exact ⟨F - 1, hide (by have := hc1.out; have := hF1.out; omega), by rw [← HY.out], by rw [HB.out]⟩
      case measure => rw [m1.out, m2.out]; have := hc1.out; omega
    · have HE : Hid (F ≤ E ∧ (F = E ∨ F = nrm f) ∧ F ≤ nrm f) := hide (by omega)
      have g1 := Hge.out F (by omega) (by omega)
      rw [decide_eq_false hc] at g1
      clear hc hF hn hnc
      generalize hx : D F f = x at *
      have HX := hide hx
      clear hx
      go_wp2
      go_loop [0, 3] (fun x e => ∃ G : Nat, Hid (1 ≤ G ∧ G ≤ nrm f ∧ E ≤ G + 200 ∧ G ≤ E + 200) ∧ x = .float .f64 (D G f) ∧ e = .int .i64 ((E : Int) - (G : Int))) (fun x _ => xUp x)
      case atStart => exact ⟨F, hide (by have := HE.out; have := Hn.out; omega), by rw [HX.out], rfl⟩
      case round =>
        obtain ⟨F, hF, rfl, rfl⟩ := hrel
        have hn := Hn.out
        have hF := hF.out
        by_cases hc : F < nrm f
        · have e1 := Hlt.out F (by omega) (by omega)
          rw [decide_eq_true hc] at e1
          have e2 := Hlo.out F (by omega) (by omega)
          have e3 := fV_some e2
          have e4 := fN_some e2
          have m1 := hide (HU.out F (by omega) (by omega))
          have m2 := hide (HU.out (F + 1) (by omega) (by omega))
          have b1 : -2000 ≤ (E : Int) - (F : Int) := by omega
          have b2 : (E : Int) - (F : Int) ≤ 2000 := by omega
          have HB : Hid ((E : Int) - (F : Int) - 1 = (E : Int) - ((F + 1 : Nat) : Int)) := hide (by omega)
          clear e2
          have hc1 := hide hc
          have hF1 := hide hF
          clear hc hF hn g1
          generalize hx : D F f = x at *
          generalize hy : D (F + 1) f = y at *
          generalize (E : Int) - (F : Int) = a at *
          have HY := hide hy
          clear hx hy
          go_wp2
          go_round
          case rel => exact ⟨F + 1, hide (by have := hc1.out; have := hF1.out; have := Hn.out; omega), by rw [← HY.out], by rw [HB.out]⟩
          case measure => rw [m1.out, m2.out]; have := hc1.out; have := Hn.out; omega
        · obtain rfl : F = nrm f := by omega
          have e1 := Hlt.out (nrm f) (by omega) (by omega)
          rw [decide_eq_false hc] at e1
          have b1 : -2000 ≤ (E : Int) - (nrm f : Int) := by omega
          have b2 : (E : Int) - (nrm f : Int) ≤ 2000 := by omega
          have HLE : Hid (floatOfInt .f64 ((E : Int) - (nrm f : Int)) = lgE E f) := hide rfl
          generalize (E : Int) - (nrm f : Int) = ei at *
          generalize hy : D (nrm f) f = y at *
          have HY := hide hy
          clear hy hF hn hc g1
          obtain ⟨v1, v2, v3, v4⟩ := V.out
          obtain ⟨z1, z2, z3, z4⟩ := Z.out
          go_wp2
          clear v1 v2 v3 v4 z1 z2 z3 z4
          go_loopw [6, 7] (fun q k wr => ∃ qb j : Nat, j ≤ 13 ∧ q = .float .f64 qb ∧ k = .int .i64 (25 - 2 * (j : Int)) ∧ Hid (Rep .f64 (lgP (some uv) j) qb) ∧ Hid (∃ q, wr = w.drewN q)) (fun _ k _ => (intOf k + 1).toNat)
          case atStart => exact ⟨0, 0, Nat.zero_le _, rfl, rfl, hide rfl, hide ⟨0, rfl⟩⟩
          case round =>
            obtain ⟨qb, j, hj, rfl, rfl, hrep, hq⟩ := hrel
            obtain ⟨q, rfl⟩ := hq.out
            by_cases hlt : j < 13
            · have t1 : floatOfInt .f64 (25 - 2 * (j : Int)) = kf j := rfl
              have b3 : 1 ≤ 25 - 2 * (j : Int) := by omega
              have b4 : 25 - 2 * (j : Int) ≤ 25 := by omega
              have HK : Hid (25 - 2 * (j : Int) - 2 = 25 - 2 * ((j + 1 : Nat) : Int)) := hide (by omega)
              have Hj : Hid (∀ W1 W2 W3, Rep .f64 (lgP (some uv) (j + 1)) (fV .add .f64 (fV .quo .f64 4607182418800017408 (kf j) W1) (fV .mul .f64 uv qb W2) W3)) := hide fun W1 W2 W3 => rep_f (rep_f (rep_self _ _) (rep_self _ _) _) (rep_f (rep_self _ _) hrep.out _) _
              have HL := hide hlt
              clear hlt
              generalize kf j = kj at *
              generalize 25 - 2 * (j : Int) = m at *
              go_wp2
              go_roundw
              case rel =>
                refine ⟨_, j + 1, HL.out, rfl, by rw [HK.out], hide (Hj.out _ _ _), hide ?_⟩
                repeat (first | exact ⟨_, rfl⟩ | apply drewsN)
              case measure => simp [intOf]; omega
            · obtain rfl : j = 13 := by omega
              have hR : ∀ W1 W2 W3 W4, Rep .f64 (lgF y (floatOfInt .f64 ei)) (fV .add .f64 (fV .mul .f64 4611686018427387904 (fV .mul .f64 sv qb W1) W2) (fV .mul .f64 (floatOfInt .f64 ei) 4604418534313441775 W3) W4) := fun W1 W2 W3 W4 => by
                rw [lgF, HSV.out, HUV.out]
                exact rep_f (rep_f (rep_self _ _) (rep_f (rep_self _ _) hrep.out _) _) (rep_f (rep_self _ _) (rep_self _ _) _) _
              have HR := hide hR
              clear hR hlt hj
              go_wp2
              go_ret
              refine ⟨⟨_, rfl, by rw [HY.out, ← HLE.out]; exact HR.out _ _ _ _⟩, ?_⟩
              repeat (first | exact ⟨_, rfl⟩ | apply drewsN)
end Go.Proofs.Ytjeaiihgedennaa
