/- Contracts of the logarithms of both sides at a positive double that came of a float32. Conditions: what is stated. -/
import Derived.Test.YtjeaiihgedennaaDbl
import Derived.Test.YtjeaiihgedennaaShare
namespace Go.Proofs.Ytjeaiihgedennaa
open Go.ChangeShapes Go.WideShapes Go.ChangeAt Go.RowKit
attribute [local go_sem] run_fadd run_fsub run_fmul run_fquo

theorem drewN_zero (w : World) : w.drewN 0 = w := rfl
attribute [local go_sem] drewN_zero
theorem fV_some {op : BinOp} {k : FloatKind} {x y r : Nat} (h : floatBits op k x y = some r) : ∀ W : World, fV op k x y W = r := fun W => by unfold fV; rw [h]
theorem fN_some {op : BinOp} {k : FloatKind} {x y r : Nat} (h : floatBits op k x y = some r) : fN op k x y = 0 := by unfold fN; rw [h]; rfl
/-- the numbers 25, 23 .. as doubles -/
def kf (j : Nat) : Nat := floatOfInt .f64 (25 - 2 * (j : Int))
theorem kf_tab : ∀ j : Fin 13, floatBits .sub .f64 (kf j) 4611686018427387904 = some (kf (j + 1)) ∧ (FloatKind.f64.format.order (kf j) 4607182418800017408 == some .gt || FloatKind.f64.format.order (kf j) 4607182418800017408 == some .eq) = true := by decide +kernel
theorem kf_end : (FloatKind.f64.format.order (kf 13) 4607182418800017408 == some .gt || FloatKind.f64.format.order (kf 13) 4607182418800017408 == some .eq) = false := by decide +kernel
theorem kf_inj : ∀ j : Fin 14, (List.range 14).findIdx (fun i => kf j == kf i) = j := by decide +kernel
theorem kf_zero : kf 0 = 4627730092099895296 := by decide +kernel
def bitsOf : Value → Nat
  | .float _ b => b
  | _ => 0
def kM (v : Value) : Nat := 13 - (List.range 14).findIdx (fun i => bitsOf v == kf i)
theorem kM_kf {j : Nat} (h : j ≤ 13) : kM (.float .f64 (kf j)) = 13 - j := by
  have := kf_inj ⟨j, by omega⟩
  unfold kM bitsOf
  exact congrArg (13 - ·) this
theorem D_div {E f : Nat} (h : InD E f) : D E f / 4503599627370496 = E := by
  obtain ⟨h1, h2, h3, h4⟩ := h
  unfold D
  omega
def xUp (v : Value) : Nat := 3000 - bitsOf v / 4503599627370496
def xDn (v : Value) : Nat := bitsOf v / 4503599627370496
theorem xUp_D {E f : Nat} (h : InD E f) : xUp (.float .f64 (D E f)) = 3000 - E := by unfold xUp bitsOf; rw [D_div h]
theorem xDn_D {E f : Nat} (h : InD E f) : xDn (.float .f64 (D E f)) = E := by unfold xDn bitsOf; rw [D_div h]
/-- the polynomial after so many steps -/
def lgP (u : Option Nat) : Nat → Option Nat
  | 0 => some 0
  | j + 1 => oF .add .f64 (oF .quo .f64 (some 4607182418800017408) (some (kf j))) (oF .mul .f64 u (lgP u j))
def lgS (x : Nat) : Option Nat := oF .quo .f64 (oF .sub .f64 (some x) (some 4607182418800017408)) (oF .add .f64 (some x) (some 4607182418800017408))
def lgF (x : Nat) (e : Nat) : Option Nat :=
  oF .add .f64 (oF .mul .f64 (some 4611686018427387904) (oF .mul .f64 (lgS x) (lgP (oF .mul .f64 (lgS x) (lgS x)) 13))) (oF .mul .f64 (some e) (some 4604418534313441775))
/-- the exponent of the logarithm, as a double -/
def lgE (E f : Nat) : Nat := floatOfInt .f64 ((E : Int) - (nrm f : Int))

theorem quo_key {x c a b s : Nat} (h1 : floatBits .sub .f64 x c = some a) (h2 : floatBits .add .f64 x c = some b) (h3 : floatBits .quo .f64 a b = some s) :
    oF .quo .f64 (oF .sub .f64 (some x) (some c)) (oF .add .f64 (some x) (some c)) = some s := by
  have e1 : oF .sub .f64 (some x) (some c) = some a := h1
  have e2 : oF .add .f64 (some x) (some c) = some b := h2
  rw [e1, e2]
  exact h3
theorem drewsN {w W : World} (h : ∃ q, W = w.drewN q) (n : Nat) : ∃ q, W.drewN n = w.drewN q := by
  obtain ⟨q, rfl⟩ := h
  exact drew2 _ _ _
set_option maxHeartbeats 1600000 in
theorem iLogarithm (E f : Nat) (w : World) (hin : InD E f) (h1 : 874 ≤ E) (h2 : E ≤ 1150) :
    Calls Try.prog 78 #[.float .f64 (D E f)] w fun e w' => (∃ r, e = .returned (.float .f64 r) ∧ Rep .f64 (lgF (D (nrm f) f) (lgE E f)) r) ∧ ∃ q, w' = w.drewN q := by
  have hnc := nrm_cases f
  obtain ⟨hA, hB, h3, h4⟩ := hin
  obtain ⟨av, bv, sv, r1, r2, r3, hsv⟩ := pm1 (E := nrm f) (f := f) ⟨by omega, by omega, h3, h4⟩ (by omega)
  obtain ⟨uv, r4, huv⟩ := mul_le hsv hsv (by omega) (by omega) (by omega) (by omega)
  have HSV : Hid (lgS (D (nrm f) f) = some sv) := hide (quo_key r1 r2 r3)
  have HUV : Hid (oF .mul .f64 (some sv) (some sv) = some uv) := hide r4
  have v1 := fV_some (op := .sub) (k := .f64) r1
  have v2 := fV_some (op := .add) (k := .f64) r2
  have v3 := fV_some (op := .quo) (k := .f64) r3
  have v4 := fV_some (op := .mul) (k := .f64) r4
  have z1 := fN_some (op := .sub) (k := .f64) r1
  have z2 := fN_some (op := .add) (k := .f64) r2
  have z3 := fN_some (op := .quo) (k := .f64) r3
  have z4 := fN_some (op := .mul) (k := .f64) r4
  have V := Lib.hid (And.intro v1 (And.intro v2 (And.intro v3 v4)))
  have Z := hide (And.intro z1 (And.intro z2 (And.intro z3 z4)))
  clear v1 v2 v3 v4 z1 z2 z3 z4 r1 r2 r3 r4 hsv huv
  have Hin : Hid (∀ k, 1 ≤ k → k ≤ 2046 → InD k f) := hide fun k a b => ⟨a, b, h3, h4⟩
  have Hn : Hid (1022 ≤ nrm f ∧ nrm f ≤ 1023) := hide (by omega)
  have Hlo : Hid (∀ k, 1 ≤ k → k ≤ 2045 → floatBits .mul .f64 (D k f) 4611686018427387904 = some (D (k + 1) f)) := hide fun k a b => mul2 ⟨a, by omega, h3, h4⟩ b
  have Hhi : Hid (∀ k, 2 ≤ k → k ≤ 2046 → floatBits .quo .f64 (D k f) 4611686018427387904 = some (D (k - 1) f)) := hide fun k a b => half ⟨by omega, b, h3, h4⟩ a
  have Hlt : Hid (∀ k, 1 ≤ k → k ≤ 2046 → (FloatKind.f64.format.order (D k f) 4604930618986332160 == some .lt) = decide (k < nrm f)) := hide fun k a b => lt75n ⟨a, b, h3, h4⟩
  have Hge : Hid (∀ k, 1 ≤ k → k ≤ 2046 → (FloatKind.f64.format.order (D k f) 4609434218613702656 == some .gt || FloatKind.f64.format.order (D k f) 4609434218613702656 == some .eq) = decide (nrm f < k)) := hide fun k a b => ge15n ⟨a, b, h3, h4⟩
  have HU : Hid (∀ k, 1 ≤ k → k ≤ 2046 → xUp (.float .f64 (D k f)) = 3000 - k) := hide fun k a b => xUp_D ⟨a, b, h3, h4⟩
  have HD : Hid (∀ k, 1 ≤ k → k ≤ 2046 → xDn (.float .f64 (D k f)) = k) := hide fun k a b => xDn_D ⟨a, b, h3, h4⟩
  have H0 : Hid (floatOfInt .f64 (-((0 : Nat) : Int)) = 0) := hide (by decide +kernel)
  have Hdn := hide (fun k (h : k ≤ 150) => int_down (k := k) h)
  have Hup := hide (fun k (h : k ≤ 150) => int_up (k := k) h)
  go_enter Try.func78, Try.ntmps78
  go_wp2
  go_loop [0, 3] (fun x e => ∃ k : Nat, Hid (k = 0 ∨ E + k ≤ nrm f) ∧ x = .float .f64 (D (E + k) f) ∧ e = .float .f64 (floatOfInt .f64 (-(k : Int)))) (fun x _ => xUp x)
  case atStart => exact ⟨0, hide (.inl rfl), rfl, by rw [H0.out]⟩
  case round =>
    obtain ⟨k, hk, rfl, rfl⟩ := hrel
    have hn := Hn.out
    have hk := hk.out
    by_cases hc : E + k < nrm f
    · have e1 := Hlt.out (E + k) (by omega) (by omega)
      rw [decide_eq_true hc] at e1
      have e2 := Hlo.out (E + k) (by omega) (by omega)
      have e3 := fV_some e2
      have e4 := fN_some e2
      have e5 := Hdn.out k (by omega)
      have e6 := fV_some e5
      have e7 := fN_some e5
      have m1 := hide (HU.out (E + k) (by omega) (by omega))
      have m2 := hide (HU.out (E + k + 1) (by omega) (by omega))
      clear e2 e5
      have hc1 := hide hc
      have hk1 := hide hk
      clear hc hk hn hnc
      generalize hx : D (E + k) f = x at *
      generalize hy : D (E + k + 1) f = y at *
      generalize floatOfInt .f64 (-(k : Int)) = a at *
      generalize hb : floatOfInt .f64 (-((k + 1 : Nat) : Int)) = b at *
      have HX := hide hx
      have HY := hide hy
      have HB := hide hb
      clear hx hy hb
      go_wp2
      go_round
      case rel => exact ⟨k + 1, hide (.inr (by have := hc1.out; omega)), by rw [← HY.out, Nat.add_assoc], by rw [HB.out]⟩
      case measure => rw [m1.out, m2.out]; have := hc1.out; have := Hn.out; omega
    · have HE : Hid (E + k = nrm f ∨ (k = 0 ∧ nrm f ≤ E)) := hide (by omega)
      have e1 := Hlt.out (E + k) (by omega) (by omega)
      rw [decide_eq_false hc] at e1
      have hE1 : 1 ≤ E + k := by omega
      have hE2 : E + k ≤ 2046 := by omega
      clear hc hk hn hnc
      generalize hx : D (E + k) f = x at *
      have HX := hide hx
      clear hx
      go_wp2
      go_loop [0, 3] (fun x e => ∃ F : Nat, Hid (nrm f ≤ F ∧ (F ≤ E ∨ F = nrm f)) ∧ x = .float .f64 (D F f) ∧ e = .float .f64 (floatOfInt .f64 ((E : Int) - (F : Int)))) (fun x _ => xDn x)
      case atStart =>
        refine ⟨E + k, hide (by have := HE.out; omega), by rw [HX.out], ?_⟩
        rw [show (E : Int) - ((E + k : Nat) : Int) = -(k : Int) by omega]
      case round =>
        obtain ⟨F, hF, rfl, rfl⟩ := hrel
        have hn := Hn.out
        have hF := hF.out
        by_cases hc : nrm f < F
        · have g1 := Hge.out F (by omega) (by omega)
          rw [decide_eq_true hc] at g1
          have g2 := Hhi.out F (by omega) (by omega)
          have g3 := fV_some g2
          have g4 := fN_some g2
          have g5 := Hup.out (E - F) (by omega)
          rw [show ((E - F : Nat) : Int) = (E : Int) - (F : Int) by omega, show ((E - F + 1 : Nat) : Int) = (E : Int) - ((F - 1 : Nat) : Int) by omega] at g5
          have g6 := fV_some g5
          have g7 := fN_some g5
          have m1 := hide (HD.out F (by omega) (by omega))
          have m2 := hide (HD.out (F - 1) (by omega) (by omega))
          clear g2 g5
          have hc1 := hide hc
          have hF1 := hide hF
          clear hc hF hn e1 hE1 hE2
          generalize hx : D F f = x at *
          generalize hy : D (F - 1) f = y at *
          generalize floatOfInt .f64 ((E : Int) - (F : Int)) = a at *
          generalize hb : floatOfInt .f64 ((E : Int) - ((F - 1 : Nat) : Int)) = b at *
          have HY := hide hy
          have HB := hide hb
          clear hx hy hb
          go_wp2
          go_round
          case rel => exact ⟨F - 1, hide (by have := hc1.out; have := hF1.out; omega), by rw [← HY.out], by rw [HB.out]⟩
          case measure => rw [m1.out, m2.out]; have := hc1.out; omega
        · obtain rfl : F = nrm f := by omega
          have g1 := Hge.out (nrm f) (by omega) (by omega)
          rw [decide_eq_false hc] at g1
          have HLE : Hid (floatOfInt .f64 ((E : Int) - (nrm f : Int)) = lgE E f) := hide rfl
          generalize floatOfInt .f64 ((E : Int) - (nrm f : Int)) = eb at *
          generalize hy : D (nrm f) f = y at *
          have HY := hide hy
          clear hy hF hn hc e1 hE1 hE2
          obtain ⟨v1, v2, v3, v4⟩ := V.out
          obtain ⟨z1, z2, z3, z4⟩ := Z.out
          go_wp2
          clear v1 v2 v3 v4 z1 z2 z3 z4
          go_loopw [6, 7] (fun q k wr => ∃ qb j : Nat, j ≤ 13 ∧ q = .float .f64 qb ∧ k = .float .f64 (kf j) ∧ Hid (Rep .f64 (lgP (some uv) j) qb) ∧ Hid (∃ q, wr = w.drewN q)) (fun _ k _ => kM k)
          case atStart => exact ⟨0, 0, Nat.zero_le _, rfl, by rw [kf_zero], hide rfl, hide ⟨0, rfl⟩⟩
          case round =>
            obtain ⟨qb, j, hj, rfl, rfl, hrep, hq⟩ := hrel
            obtain ⟨q, rfl⟩ := hq.out
            by_cases hlt : j < 13
            · obtain ⟨t1, t2⟩ := kf_tab ⟨j, hlt⟩
              have t3 := fV_some t1
              have t4 := fN_some t1
              have m1 := hide (kM_kf (j := j) (by omega))
              have m2 := hide (kM_kf (j := j + 1) (by omega))
              have Hj : Hid (∀ W1 W2 W3, Rep .f64 (lgP (some uv) (j + 1)) (fV .add .f64 (fV .quo .f64 4607182418800017408 (kf j) W1) (fV .mul .f64 uv qb W2) W3)) := hide fun W1 W2 W3 => rep_f (rep_f (rep_self _ _) (rep_self _ _) _) (rep_f (rep_self _ _) hrep.out _) _
              clear t1
              simp only at t2 t3 t4
              have HL := hide hlt
              clear hlt
              generalize kf j = kj at *
              generalize hk2 : kf (j + 1) = kj2 at *
              have HK2 := hide hk2
              clear hk2
              go_wp2
              go_roundw
              case rel =>
                refine ⟨_, j + 1, HL.out, rfl, by rw [HK2.out], hide (Hj.out _ _ _), hide ?_⟩
                repeat (first | exact ⟨_, rfl⟩ | apply drewsN)
              case measure => rw [m1.out, m2.out]; have := HL.out; omega
            · obtain rfl : j = 13 := by omega
              have t2 := kf_end
              have hR : ∀ W1 W2 W3 W4, Rep .f64 (lgF y eb) (fV .add .f64 (fV .mul .f64 4611686018427387904 (fV .mul .f64 sv qb W1) W2) (fV .mul .f64 eb 4604418534313441775 W3) W4) := fun W1 W2 W3 W4 => by
                rw [lgF, HSV.out, HUV.out]
                exact rep_f (rep_f (rep_self _ _) (rep_f (rep_self _ _) hrep.out _) _) (rep_f (rep_self _ _) (rep_self _ _) _) _
              have HR := hide hR
              clear hR hlt hj
              generalize kf 13 = kj at *
              go_wp2
              go_ret
              refine ⟨⟨_, rfl, by rw [HY.out, ← HLE.out]; exact HR.out _ _ _ _⟩, ?_⟩
              repeat (first | exact ⟨_, rfl⟩ | apply drewsN)
end Go.Proofs.Ytjeaiihgedennaa
