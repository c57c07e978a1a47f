/- Floats in a walk: what an operation gives, as one equation for valid and invalid operands; what is fixed of it. Conditions: none, these are plain lemmas. -/
import Derived.Test.YtjeaiihgedennaaLib
import Derived.Laws.FloatArith
namespace Go.Proofs.Ytjeaiihgedennaa
open Go.ChangeShapes Go.WideShapes Go.ChangeAt Go.RowKit

/-- how many answers an operation asks of the tape -/
def fN (op : BinOp) (k : FloatKind) (x y : Nat) : Nat := if (floatBits op k x y).isSome then 0 else 1
/-- the bits that an operation gives in the world w -/
def fV (op : BinOp) (k : FloatKind) (x y : Nat) (w : World) : Nat := match floatBits op k x y with
  | some r => r
  | none => (Question.nanBits k x y).cut (w.tape w.drawn (.nanBits k x y))
theorem run_f {P : Program} (w : World) (op : BinOp) (t : TypeId) (k : FloatKind) (x y : Nat) (ho : op = .add ∨ op = .sub ∨ op = .mul ∨ op = .quo) :
    (binOp op t (.float k x) (.float k y)).run P w = .ok (.float k (fV op k x y w)) (w.drewN (fN op k x y)) := by
  unfold fV fN
  rcases ho with rfl | rfl | rfl | rfl <;> (
    simp only [floatBits]
    split
    · rename_i r h
      simp [binOp, Op.floatArith, h]
      rfl
    · rename_i h
      simp [binOp, Op.floatArith, h, Question.forced]
      rfl)
theorem run_fadd {P : Program} (w : World) (t : TypeId) (k : FloatKind) (x y : Nat) : (binOp .add t (.float k x) (.float k y)).run P w = .ok (.float k (fV .add k x y w)) (w.drewN (fN .add k x y)) := run_f w _ t k x y (by simp)
theorem run_fsub {P : Program} (w : World) (t : TypeId) (k : FloatKind) (x y : Nat) : (binOp .sub t (.float k x) (.float k y)).run P w = .ok (.float k (fV .sub k x y w)) (w.drewN (fN .sub k x y)) := run_f w _ t k x y (by simp)
theorem run_fmul {P : Program} (w : World) (t : TypeId) (k : FloatKind) (x y : Nat) : (binOp .mul t (.float k x) (.float k y)).run P w = .ok (.float k (fV .mul k x y w)) (w.drewN (fN .mul k x y)) := run_f w _ t k x y (by simp)
theorem run_fquo {P : Program} (w : World) (t : TypeId) (k : FloatKind) (x y : Nat) : (binOp .quo t (.float k x) (.float k y)).run P w = .ok (.float k (fV .quo k x y w)) (w.drewN (fN .quo k x y)) := run_f w _ t k x y (by simp)

/-- the bits are a NaN's -/
def isN (k : FloatKind) (b : Nat) : Prop := (k.format.read b).isNaN = true
theorem read_nan (f : Ieee.Format) (b : Nat) (hb : f.binade ≤ f.infRung) (h : f.infRung < b % f.signWeight) : (f.read b).isNaN = true := by
  unfold Ieee.Format.read
  dsimp only
  split
  · omega
  · split
    · omega
    · split
      · omega
      · rfl
theorem cut_nan (k : FloatKind) (x y t : Nat) : isN k ((Question.nanBits k x y).cut t) := by
  unfold isN
  cases k
  · have h1 : FloatKind.f32.format.signWeight = 2147483648 := by decide
    have h2 : FloatKind.f32.format.binade = 8388608 := by decide
    have h3 : FloatKind.f32.format.infRung = 2139095040 := by decide
    refine read_nan _ _ (by rw [h2, h3]; decide) ?_
    rw [h1, h3]
    simp only [Question.cut, Nat.reducePow, Nat.reduceSub]
    have hs : t % 2 < 2 := Nat.mod_lt _ (by decide)
    have hq : t / 2 % 8388607 < 8388607 := Nat.mod_lt _ (by decide)
    generalize t % 2 = s at *
    generalize t / 2 % 8388607 = q at *
    obtain rfl | rfl : s = 0 ∨ s = 1 := by omega
    · omega
    · omega
  · have h1 : FloatKind.f64.format.signWeight = 9223372036854775808 := by decide
    have h2 : FloatKind.f64.format.binade = 4503599627370496 := by decide
    have h3 : FloatKind.f64.format.infRung = 9218868437227405312 := by decide
    refine read_nan _ _ (by rw [h2, h3]; decide) ?_
    rw [h1, h3]
    simp only [Question.cut, Nat.reducePow, Nat.reduceSub]
    have hs : t % 2 < 2 := Nat.mod_lt _ (by decide)
    have hq : t / 2 % 4503599627370495 < 4503599627370495 := Nat.mod_lt _ (by decide)
    generalize t % 2 = s at *
    generalize t / 2 % 4503599627370495 = q at *
    obtain rfl | rfl : s = 0 ∨ s = 1 := by omega
    · omega
    · omega

theorem nan_l {op : BinOp} {k : FloatKind} {x : Nat} (y : Nat) (h : isN k x) : floatBits op k x y = none := by
  unfold isN at h
  unfold floatBits
  split <;> first
    | rfl
    | (simp only [Ieee.Format.add, Ieee.Format.sub, Ieee.Format.mul, Ieee.Format.div]
       cases hx : k.format.read x <;> simp [hx, Ieee.Datum.isNaN] at h <;> simp [Ieee.Datum.sum, Ieee.Datum.product, Ieee.Datum.quotient])
theorem nan_r {op : BinOp} {k : FloatKind} (x : Nat) {y : Nat} (h : isN k y) : floatBits op k x y = none := by
  unfold isN at h
  unfold floatBits
  split <;> first
    | rfl
    | (simp only [Ieee.Format.add, Ieee.Format.sub, Ieee.Format.mul, Ieee.Format.div]
       cases hx : k.format.read y <;> simp [hx, Ieee.Datum.isNaN] at h <;> cases k.format.read x <;> simp [Ieee.Datum.sum, Ieee.Datum.product, Ieee.Datum.quotient, Ieee.Datum.opposite])
theorem nan_ol {k : FloatKind} {x : Nat} (y : Nat) (h : isN k x) : k.format.order x y = none := by
  unfold isN at h
  simp only [Ieee.Format.order]
  cases hx : k.format.read x <;> simp [hx, Ieee.Datum.isNaN] at h <;> simp [Ieee.Datum.order]
theorem nan_or {k : FloatKind} (x : Nat) {y : Nat} (h : isN k y) : k.format.order x y = none := by
  unfold isN at h
  simp only [Ieee.Format.order]
  cases hx : k.format.read y <;> simp [hx, Ieee.Datum.isNaN] at h <;> cases k.format.read x <;> simp [Ieee.Datum.order]

/-- What is fixed of some bits: they themselves, or that they are a NaN's. -/
def Rep (k : FloatKind) : Option Nat → Nat → Prop
  | some r, b => b = r
  | none, b => isN k b
def oF (op : BinOp) (k : FloatKind) : Option Nat → Option Nat → Option Nat
  | some x, some y => floatBits op k x y
  | _, _ => none
def oO (k : FloatKind) : Option Nat → Option Nat → Option Ordering
  | some x, some y => k.format.order x y
  | _, _ => none
theorem rep_self (k : FloatKind) (b : Nat) : Rep k (some b) b := rfl
theorem rep_f {op : BinOp} {k : FloatKind} {a b : Option Nat} {x y : Nat} (h1 : Rep k a x) (h2 : Rep k b y) (w : World) : Rep k (oF op k a b) (fV op k x y w) := by
  unfold fV
  cases a with
  | none =>
    rw [nan_l y h1]
    exact cut_nan ..
  | some x' =>
    cases h1
    cases b with
    | none =>
      rw [nan_r x h2]
      exact cut_nan ..
    | some y' =>
      cases h2
      simp only [oF]
      cases floatBits op k x y with
      | none => exact cut_nan ..
      | some r => rfl
theorem rep_o {k : FloatKind} {a b : Option Nat} {x y : Nat} (h1 : Rep k a x) (h2 : Rep k b y) : k.format.order x y = oO k a b := by
  cases a with
  | none => rw [nan_ol y h1]; rfl
  | some x' =>
    cases h1
    cases b with
    | none => rw [nan_or x h2]; rfl
    | some y' => cases h2; rfl

/-- chance in [0, 1] -/
def shareF (c : Nat) : Bool := (Ieee.single.order c 0 == some .gt || Ieee.single.order c 0 == some .eq) && (Ieee.single.order c 1065353216 == some .lt || Ieee.single.order c 1065353216 == some .eq)
/-- neither a NaN nor an infinity -/
def finO (o : Option Nat) : Bool := oO .f32 (oF .sub .f32 o o) (some 0) == some .eq
end Go.Proofs.Ytjeaiihgedennaa
