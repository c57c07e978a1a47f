/- Steps of a walk over floats, and the library's functions on them. Conditions: what is stated. -/
import Derived.Test.YtjeaiihgedennaaPhb
import Derived.Laws.ComplexArith
import Derived.Laws.Externs
import Derived.Laws.BitsAllLaws
namespace Go.Proofs.Ytjeaiihgedennaa
open Go.ChangeShapes Go.WideShapes Go.ChangeAt Go.RowKit

theorem fr {op : BinOp} {x y r : Nat} (h : floatBits op .f64 x y = some r) : ∀ W : World, (binOp op 26 (.float .f64 x) (.float .f64 y)).run Try.prog W = .ok (.float .f64 r) W := fun W => run_float_arith W op _ .f64 x y r h
theorem fr32 {op : BinOp} {x y r : Nat} (h : floatBits op .f32 x y = some r) : ∀ W : World, (binOp op 22 (.float .f32 x) (.float .f32 y)).run Try.prog W = .ok (.float .f32 r) W := fun W => run_float_arith W op _ .f32 x y r h
theorem cr {x r : Nat} (h : floatToFloatBits .f64 x .f32 = some r) : ∀ W : World, (convert 26 22 (.float .f64 x)).run Try.prog W = .ok (.float .f32 r) W :=
  fun W => run_convert_float_float W 26 22 .f64 .f32 x r (by kernel_rfl) Try.underlying22 h
theorem cr64 {x r : Nat} (h : floatToFloatBits .f32 x .f64 = some r) : ∀ W : World, (convert 22 26 (.float .f32 x)).run Try.prog W = .ok (.float .f64 r) W :=
  fun W => run_convert_float_float W 22 26 .f32 .f64 x r (by kernel_rfl) Try.underlying26 h
theorem ir {x : Nat} {n : Int} (h : floatToIntVal .f64 x .i64 = some n) : ∀ W : World, (convert 26 2 (.float .f64 x)).run Try.prog W = .ok (.int .i64 n) W :=
  fun W => run_convert_float_int W 26 2 .f64 .i64 x n (by kernel_rfl) Try.underlying2 h

theorem lt_huge {x : Nat} (h : Bd .f64 true x 127 (-7)) : FloatKind.f64.format.order x 4841369599423283200 = some .lt := by
  obtain ⟨s, m, e, h1, h2, h3, h4⟩ := h
  rw [ord_eq h1 (h4 rfl) rd_huge ⟨h3, by decide⟩, v_huge, ordN_lt]
  have := sc_mono 0 52 (by decide)
  rw [v_7] at this
  have := sc_pos (-7)
  omega
theorem gt_nhuge {x : Nat} (h : Bd .f64 true x 127 (-7)) : FloatKind.f64.format.order x 14064741636278059008 = some .gt := by
  obtain ⟨s, m, e, h1, h2, h3, h4⟩ := h
  exact ord_neg h1 (h4 rfl) rd_nhuge (by decide)
theorem nlt0 {x n : Nat} {t : Int} (h : Bd .f64 true x n t) : (FloatKind.f64.format.order x 0 == some .lt) = false := by
  obtain ⟨s, m, e, h1, h2, h3, h4⟩ := h
  rw [ord_eq h1 (h4 rfl) rd_0 ⟨h3, by decide⟩]
  rcases ordN_nlt (a := m * sc e) (b := 0 * sc (-1074)) (by omega) with e | e <;> rw [e] <;> rfl
theorem self0 {x n : Nat} {t : Int} {nn : Bool} (h : Bd .f64 nn x n t) : floatBits .sub .f64 x x = some 0 := by
  obtain ⟨s, m, e, h1, h2, h3, h4⟩ := h
  exact sub_self' h1
theorem x_bits (x : Nat) (W : World) : (callFunc 84 #[.float .f64 x]).run Try.prog W = .ok (.value (.int .u64 x)) W := by
  rw [run_callFunc_extern (e := Extern.MathFloatBits.float64bits) Try.func84 (by kernel_rfl) (by kernel_rfl) (by kernel_rfl) (by kernel_rfl)]
  rfl
theorem x_from (n : Int) (W : World) : (callFunc 81 #[.int .u64 n]).run Try.prog W = .ok (.value (.float .f64 n.toNat)) W := by
  rw [run_callFunc_extern (e := Extern.MathFloatBits.float64frombits) Try.func81 (by kernel_rfl) (by kernel_rfl) (by kernel_rfl) (by kernel_rfl)]
  rfl
section
attribute [local irreducible] FloatKind.decode
/-- at a number the library's function gives its integral part: by reduction, the datum kept whole -/
theorem tI (y : Nat) (s : Bool) (m : Nat) (e : Int) (h : FloatKind.f64.decode y = .number s m e) : Extern.MathFloor.toIntegral "math.archTrunc" .zero #[.float .f64 y] = (pure (.float .f64 (FloatKind.f64.encode ((FloatKind.f64.decode y).integral .zero))) : Sem Value) := by
  conv => lhs; whnf
  rw [h]
end
theorem x_trunc {y : Nat} (h : Bd .f64 true y 127 (-7)) (W : World) : (callFunc 85 #[.float .f64 y]).run Try.prog W = .ok (.value (.float .f64 (trB y))) W := by
  rw [run_callFunc_extern (e := Extern.MathFloor.toIntegral "math.archTrunc" .zero) Try.func85 (by kernel_rfl) (by kernel_rfl) (by kernel_rfl) (by kernel_rfl)]
  obtain ⟨s, m, e, h1, -⟩ := h
  have hd : FloatKind.f64.decode y = .number s m e := h1
  rw [tI y s m e hd, trB]
  rfl
attribute [local go_sem] x_bits x_from
theorem abs_bits (x : Nat) (hx : x < 9223372036854775808) : bits .andNot .u64 (x : Int) 9223372036854775808 = (x : Int) := by
  have h := u64_andNot_nat x 9223372036854775808 (by omega) (by omega)
  have e : x &&& (18446744073709551615 - 9223372036854775808) = x := by
    show x &&& (2 ^ 63 - 1) = x
    rw [Nat.and_two_pow_sub_one_eq_mod]
    exact Nat.mod_eq_of_lt hx
  rw [e] at h
  exact h
set_option maxHeartbeats 400000 in
theorem iAbs (x : Nat) (hx : x < 9223372036854775808) (w : World) :
    Calls Try.prog 82 #[.float .f64 x] w fun e w' => e = .returned (.float .f64 x) ∧ w = w' := by
  have h := abs_bits x hx
  go_enter Try.func82, Try.ntmps82
  go_wp2
  go_ret
  exact ⟨rfl, rfl⟩
set_option maxHeartbeats 400000 in
theorem iHuge (x : Nat) (hx : x < 9223372036854775808) (hb : Bd .f64 true x 127 (-7)) (w : World) :
    Calls Try.prog 73 #[.float .f64 x] w fun e w' => e = .returned (.bool false) ∧ w = w' := by
  have ho : FloatKind.f64.format.order x 4841369599423283200 = some .lt := lt_huge hb
  have H := Lib.hid (iAbs x hx)
  clear hb
  go_enter Try.func73, Try.ntmps73
  go_wp2_with (go_at_call 82; refine (H.out _).mono ?_; rintro e w' ⟨rfl, rfl⟩)
  go_ret
  exact ⟨rfl, rfl⟩
set_option maxHeartbeats 400000 in
theorem iTrunc (x : Nat) (hb : Bd .f64 true x 127 (-7)) (w : World) :
    Calls Try.prog 83 #[.float .f64 x] w fun e w' => e = .returned (.float .f64 (trB x)) ∧ w = w' := by
  have ht := x_trunc hb
  go_enter Try.func83, Try.ntmps83
  go_wp2
  go_ret
  exact ⟨rfl, rfl⟩
set_option maxHeartbeats 400000 in
theorem iPart (x : Nat) (hb : Bd .f64 true x 127 (-7)) (w : World) :
    Calls Try.prog 74 #[.float .f64 x] w fun e w' => e = .returned (.float .f64 (sF x)) ∧ w = w' := by
  have H := Lib.hid (iTrunc x hb)
  have h0 := tr0 hb
  obtain ⟨h1, h2⟩ := sF_bd hb (by decide) (by decide)
  have h3 := fr h1
  have h4 := nlt0 h2
  clear hb h1 h2
  go_enter Try.func74, Try.ntmps74
  go_wp2_with (go_at_call 83; refine (H.out _).mono ?_; rintro e w' ⟨rfl, rfl⟩)
  go_ret
  exact ⟨rfl, rfl⟩
end Go.Proofs.Ytjeaiihgedennaa
