/- Products and sums of complex numbers, both sides, and their bounds. Conditions: what is stated. -/
import Derived.Test.YtjeaiihgedennaaPhw
namespace Go.Proofs.Ytjeaiihgedennaa
open Go.ChangeShapes Go.WideShapes Go.ChangeAt Go.RowKit

theorem leB_self (n : Nat) (t : Int) : leB n t n t = true := by
  unfold leB
  rw [if_pos (Int.le_refl _)]
  simp
def w6 (x : Nat) : Nat := (floatToFloatBits .f32 x .f64).getD 0
theorem w6_bd {x n : Nat} {t : Int} (h : Bd .f32 false x n t) (ht : -2400 ≤ t) (hf : fits .f64 n t = true) : floatToFloatBits .f32 x .f64 = some (w6 x) ∧ Bd .f64 false (w6 x) n t := by
  obtain ⟨r, h1, h2⟩ := bd_conv (k' := .f64) n t (by decide) h ⟨ht, ht⟩ hf (leB_self n t)
  have e : w6 x = r := by unfold w6; rw [h1]; rfl
  rw [e]
  exact ⟨h1, h2⟩
def mR (a b c d : Nat) : Nat := fO .sub (fO .mul (w6 a) (w6 c)) (fO .mul (w6 b) (w6 d))
def mI (a b c d : Nat) : Nat := fO .add (fO .mul (w6 a) (w6 d)) (fO .mul (w6 b) (w6 c))
structure MulF (a b c d : Nat) : Prop where
  ca : floatToFloatBits .f32 a .f64 = some (w6 a)
  cb : floatToFloatBits .f32 b .f64 = some (w6 b)
  cc : floatToFloatBits .f32 c .f64 = some (w6 c)
  cd : floatToFloatBits .f32 d .f64 = some (w6 d)
  m1 : floatBits .mul .f64 (w6 a) (w6 c) = some (fO .mul (w6 a) (w6 c))
  m2 : floatBits .mul .f64 (w6 b) (w6 d) = some (fO .mul (w6 b) (w6 d))
  m3 : floatBits .mul .f64 (w6 a) (w6 d) = some (fO .mul (w6 a) (w6 d))
  m4 : floatBits .mul .f64 (w6 b) (w6 c) = some (fO .mul (w6 b) (w6 c))
  s : floatBits .sub .f64 (fO .mul (w6 a) (w6 c)) (fO .mul (w6 b) (w6 d)) = some (mR a b c d)
  t : floatBits .add .f64 (fO .mul (w6 a) (w6 d)) (fO .mul (w6 b) (w6 c)) = some (mI a b c d)
  r : floatToFloatBits .f64 (mR a b c d) .f32 = some (cvB (mR a b c d))
  i : floatToFloatBits .f64 (mI a b c d) .f32 = some (cvB (mI a b c d))
theorem mul_ok {a b c d nA n1 n2 : Nat} {tA tC : Int} (N : Nat) (q : Int) (ha : Bd .f32 false a nA tA) (hb : Bd .f32 false b nA tA) (hc : Bd .f32 false c n1 tC) (hd : Bd .f32 false d n2 tC)
    (ht : -400 ≤ tA ∧ -400 ≤ tC ∧ -400 ≤ q) (fa : fits .f64 nA tA = true) (f1 : fits .f64 n1 tC = true) (f2 : fits .f64 n2 tC = true) (g1 : fits .f64 (nA * n1) (tA + tC) = true) (g2 : fits .f64 (nA * n2) (tA + tC) = true)
    (g3 : fits .f64 (nA * (n1 + n2)) (tA + tC) = true) (fN : fits .f32 N q = true) (hl : leB (nA * (n1 + n2)) (tA + tC) N q = true) :
    MulF a b c d ∧ Bd .f32 false (cvB (mR a b c d)) N q ∧ Bd .f32 false (cvB (mI a b c d)) N q := by
  obtain ⟨a1, a2⟩ := w6_bd ha (by omega) fa
  obtain ⟨b1, b2⟩ := w6_bd hb (by omega) fa
  obtain ⟨c1, c2⟩ := w6_bd hc (by omega) f1
  obtain ⟨d1, d2⟩ := w6_bd hd (by omega) f2
  obtain ⟨p1, p2⟩ := bd_get (bd_mul (nA * n1) (tA + tC) a2 c2 (by omega) g1 (leB_self _ _))
  obtain ⟨q1, q2⟩ := bd_get (bd_mul (nA * n2) (tA + tC) b2 d2 (by omega) g2 (leB_self _ _))
  obtain ⟨r1, r2⟩ := bd_get (bd_mul (nA * n2) (tA + tC) a2 d2 (by omega) g2 (leB_self _ _))
  obtain ⟨s1, s2⟩ := bd_get (bd_mul (nA * n1) (tA + tC) b2 c2 (by omega) g1 (leB_self _ _))
  have e1 : nA * n1 + nA * n2 = nA * (n1 + n2) := (Nat.mul_add ..).symm
  have e2 : nA * n2 + nA * n1 = nA * (n1 + n2) := by rw [← Nat.mul_add, Nat.add_comm]
  obtain ⟨t1, t2⟩ := bd_get (bd_sub (nA * (n1 + n2)) (tA + tC) p2 q2 (by omega) g3 (by rw [e1]; exact leB_self _ _))
  obtain ⟨u1, u2⟩ := bd_get (bd_add (nA * (n1 + n2)) (tA + tC) r2 s2 (by omega) g3 (by rw [e2]; exact leB_self _ _))
  obtain ⟨v1, v2⟩ := cv_get (bd_conv (k' := .f32) N q (by decide) t2 (by omega) fN hl)
  obtain ⟨x1, x2⟩ := cv_get (bd_conv (k' := .f32) N q (by decide) u2 (by omega) fN hl)
  exact ⟨⟨a1, b1, c1, d1, p1, q1, r1, s1, t1, u1, v1, x1⟩, v2, x2⟩

set_option maxHeartbeats 800000 in
theorem iMul (a b c d : Nat) (h : MulF a b c d) (w : World) :
    Calls Try.prog 46 #[.complex .f32 a b, .complex .f32 c d] w fun e w' => e = .returned (.complex .f32 (cvB (mR a b c d)) (cvB (mI a b c d))) ∧ w = w' := by
  have h1 := cr64 h.ca
  have h2 := cr64 h.cb
  have h3 := cr64 h.cc
  have h4 := cr64 h.cd
  have m1 := fr h.m1
  have m2 := fr h.m2
  have m3 := fr h.m3
  have m4 := fr h.m4
  have s := fr h.s
  have t := fr h.t
  have r1 := cr h.r
  have r2 := cr h.i
  clear h
  generalize mR a b c d = rr at *
  generalize mI a b c d = ii at *
  generalize cvB rr = re at *
  generalize cvB ii = im at *
  have HT : Hid (∀ W, Calls Try.prog 70 #[.complex .f32 a b, .complex .f32 c d] W fun e w' => e = .returned (.tuple #[.float .f64 rr, .float .f64 ii]) ∧ W = w') := hide fun W => by
    clear r1 r2
    go_enter Try.func70, Try.ntmps70
    go_wp2
    go_ret2
    exact ⟨rfl, rfl⟩
  clear h1 h2 h3 h4 m1 m2 m3 m4 s t
  go_enter Try.func46, Try.ntmps46
  go_wp2_with (go_at_call 70; refine (HT.out _).mono ?_; rintro e w' ⟨rfl, rfl⟩)
  go_ret
  exact ⟨rfl, rfl⟩
theorem sWide (a b x y : Nat) (h1 : floatToFloatBits .f32 a .f64 = some x) (h2 : floatToFloatBits .f32 b .f64 = some y) (w : World) :
    Calls Try.prog 65 #[.complex .f32 a b] w fun e w' => e = .returned (.complex .f64 x y) ∧ w = w' := by
  have g1 := cr64 h1
  have g2 := cr64 h2
  clear h1 h2
  go_enter Try.func65, Try.ntmps65
  go_wp2
  go_ret
  exact ⟨rfl, rfl⟩
set_option maxHeartbeats 800000 in
theorem sMul (a b c d : Nat) (h : MulF a b c d) (w : World) :
    Calls Try.prog 40 #[.complex .f32 a b, .complex .f32 c d] w fun e w' => e = .returned (.complex .f32 (cvB (mR a b c d)) (cvB (mI a b c d))) ∧ w = w' := by
  have HA := Lib.hid (sWide _ _ _ _ h.ca h.cb)
  have HC := Lib.hid (sWide _ _ _ _ h.cc h.cd)
  have m1 := fr h.m1
  have m2 := fr h.m2
  have m3 := fr h.m3
  have m4 := fr h.m4
  have s := fr h.s
  have t := fr h.t
  have N1 := Lib.hid (sNarrow _ _ h.r)
  have N2 := Lib.hid (sNarrow _ _ h.i)
  clear h
  generalize mR a b c d = rr at *
  generalize mI a b c d = ii at *
  generalize cvB rr = re at *
  generalize cvB ii = im at *
  generalize w6 a = A at *
  generalize w6 b = B at *
  generalize w6 c = C at *
  generalize w6 d = D at *
  have HT : Hid (∀ W, Calls Try.prog 64 #[.complex .f64 A B, .complex .f64 C D] W fun e w' => e = .returned (.complex .f64 rr ii) ∧ W = w') := hide fun W => by
    clear N1 N2 HA HC
    go_enter Try.func64, Try.ntmps64
    go_wp2
    go_ret
    exact ⟨rfl, rfl⟩
  clear m1 m2 m3 m4 s t
  have HN : Hid (∀ W, Calls Try.prog 63 #[.complex .f64 rr ii] W fun e w' => e = .returned (.complex .f32 re im) ∧ W = w') := hide fun W => by
    clear HT HA HC
    go_enter Try.func63, Try.ntmps63
    go_wp2_with (go_at_call 56; first | (with_reducible refine (N1.out _).mono ?_; rintro e w' ⟨rfl, rfl⟩) | (with_reducible refine (N2.out _).mono ?_; rintro e w' ⟨rfl, rfl⟩))
    go_ret
    exact ⟨rfl, rfl⟩
  go_enter Try.func40, Try.ntmps40
  go_wp2_with (first
    | (go_at_call 65; first | (with_reducible refine (HA.out _).mono ?_; rintro e w' ⟨rfl, rfl⟩) | (with_reducible refine (HC.out _).mono ?_; rintro e w' ⟨rfl, rfl⟩))
    | (go_at_call 64; refine (HT.out _).mono ?_; rintro e w' ⟨rfl, rfl⟩)
    | (go_at_call 63; refine (HN.out _).mono ?_; rintro e w' ⟨rfl, rfl⟩))
  go_ret
  exact ⟨rfl, rfl⟩

/-- sums -/
def aB (x y : Nat) : Nat := (floatBits .add .f32 x y).getD 0
theorem aB_bd {x y n n' : Nat} {t : Int} (hx : Bd .f32 false x n t) (hy : Bd .f32 false y n' t) (ht : -400 ≤ t) (hf : fits .f32 (n + n') t = true) : floatBits .add .f32 x y = some (aB x y) ∧ Bd .f32 false (aB x y) (n + n') t := by
  obtain ⟨r, h1, h2⟩ := bd_add (n + n') t hx hy (by omega) hf (leB_self _ _)
  have e : aB x y = r := by unfold aB; rw [h1]; rfl
  rw [e]
  exact ⟨h1, h2⟩
theorem iPlus (a b c d x y : Nat) (h1 : floatBits .add .f32 a c = some x) (h2 : floatBits .add .f32 b d = some y) (w : World) :
    Calls Try.prog 71 #[.complex .f32 a b, .complex .f32 c d] w fun e w' => e = .returned (.complex .f32 x y) ∧ w = w' := by
  have g1 := fr32 h1
  have g2 := fr32 h2
  clear h1 h2
  go_enter Try.func71, Try.ntmps71
  go_wp2
  go_ret
  exact ⟨rfl, rfl⟩
theorem csum {a b c d x y : Nat} (h1 : floatBits .add .f32 a c = some x) (h2 : floatBits .add .f32 b d = some y) : ∀ W : World, (binOp .add 57 (.complex .f32 a b) (.complex .f32 c d)).run Try.prog W = .ok (.complex .f32 x y) W :=
  fun W => run_complex_sum W .add (.inl rfl) _ .f32 a b c d x y (by simp [cSumBits, h1, h2])
end Go.Proofs.Ytjeaiihgedennaa
