/- Contracts of GrowthOf, both sides. Conditions: none but what is stated. -/
import Derived.Test.YtjeaiihgedennaaLogN
namespace Go.Proofs.Ytjeaiihgedennaa
open Ieee Go.ChangeShapes Go.WideShapes Go.ChangeAt Go.RowKit
attribute [local go_sem] run_fadd run_fsub run_fmul run_fquo drewN_zero

theorem near_nz32 {t : Nat} {p : Int} (h0 : t ≠ 0) (hp : -149 ≤ p) : 1 ≤ single.nearest false t p ∧ single.nearest false t p ≤ 2139095040 := by
  have hl := Nat.log2_self_le h0
  unfold Format.nearest
  rw [if_neg h0]
  generalize t.log2 = L at *
  simp only [d232, d332, d432, d532]
  obtain ⟨la, hla⟩ : ∃ la, max (p + (L : Int) - ((23 : Nat) : Int)) (-149) = la := ⟨_, rfl⟩
  rw [hla]
  have hk := cut_ge false (t <<< (p - la).toNat) (la - p).toNat 1 (by
    rw [Nat.one_mul, Nat.shiftLeft_eq]
    refine Nat.le_trans (Nat.le_trans (Nat.pow_le_pow_right (by omega) (show (la - p).toNat ≤ L by omega)) hl) ?_
    exact Nat.le_mul_of_pos_right _ (Nat.two_pow_pos _))
  generalize Toward.even.cut false (t <<< (p - la).toNat) (la - p).toNat = k at *
  have e : single.word false (min ((la - -149).toNat * 8388608 + k) 2139095040) = min ((la - -149).toNat * 8388608 + k) 2139095040 := by unfold Format.word; simp
  rw [e]
  omega
theorem near_up32 (t : Nat) (p : Int) : single.nearest false t p ≤ 2139095040 := by
  have e : ∀ r, single.word false r = r := fun r => by unfold Format.word; simp
  unfold Format.nearest
  split
  · rw [e]; omega
  · dsimp only
    rw [e, d332]
    exact Nat.min_le_right _ _
theorem rdOne : single.read 1065353216 = .number false 8388608 (-23) := by decide +kernel
theorem rdZero : single.read 0 = .number false 0 (-149) := by decide +kernel
theorem sum_pos {m : Nat} {e : Int} (he : -149 ≤ e) : ∃ X, (((Datum.number false 8388608 (-23)).sum (.number false m e)).map single.write) = some X ∧ 1 ≤ X ∧ X ≤ 2139095040 := by
  simp only [Datum.sum, Option.map_some, Format.write]
  have e1 : signed false 8388608 (-23 - min (-23) e).toNat + signed false m (e - min (-23) e).toNat = ((8388608 <<< (-23 - min (-23) e).toNat + m <<< (e - min (-23) e).toNat : Nat) : Int) := by
    simp only [signed, Bool.false_eq_true, if_false]
    omega
  rw [e1, Int.natAbs_natCast]
  have h1 : 8388608 <<< (-23 - min (-23) e).toNat + m <<< (e - min (-23) e).toNat ≠ 0 := by
    generalize m <<< (e - min (-23) e).toNat = z
    rw [Nat.shiftLeft_eq]
    have := Nat.two_pow_pos (-23 - min (-23) e).toNat
    omega
  generalize 8388608 <<< (-23 - min (-23) e).toNat + m <<< (e - min (-23) e).toNat = z at *
  rw [if_neg (by omega), show decide ((z : Int) < 0) = false from decide_eq_false (by omega)]
  exact ⟨_, rfl, near_nz32 h1 (by omega)⟩
theorem add_one {P : Nat} (h : P ≤ 2139095040 ∨ P = 2147483648) : ∃ X, floatBits .add .f32 1065353216 P = some X ∧ 1 ≤ X ∧ X ≤ 2139095040 := by
  show ∃ X, single.add 1065353216 P = some X ∧ 1 ≤ X ∧ X ≤ 2139095040
  rcases h with h | rfl
  · unfold Format.add
    rw [rdOne]
    by_cases h0 : P = 0
    · subst h0
      rw [rdZero]
      exact sum_pos (by omega)
    · by_cases h3 : P = 2139095040
      · subst h3
        rw [rdInf]
        exact ⟨2139095040, by decide +kernel, by omega, by omega⟩
      · obtain ⟨m, e, hr, _, _, he, _⟩ := rd32 (x := P) (by omega) (by omega)
        rw [hr]
        exact sum_pos he
  · exact ⟨1065353216, by decide +kernel, by omega, by omega⟩
/-- share in [0, 1) -/
def okS (s : Nat) : Bool := (single.order s 0 == some .gt || single.order s 0 == some .eq) && (single.order s 1065353216 == some .lt)
theorem rdS {s : Nat} (h : okS s = true) : ∃ sg m e, single.read s = .number sg m e ∧ -149 ≤ e ∧ (sg = true → m = 0) ∧
    signed sg m (e - min e (-23)).toNat < signed false 8388608 (-23 - min e (-23)).toNat := by
  unfold okS at h
  simp only [Bool.and_eq_true, Bool.or_eq_true, beq_iff_eq] at h
  obtain ⟨h1, h2⟩ := h
  unfold Format.order at h1 h2
  rw [rdZero] at h1
  rw [rdOne] at h2
  cases hr : single.read s with
  | nan a b => rw [hr] at h2; simp [Datum.order] at h2
  | infinity a =>
    rw [hr] at h1 h2
    cases a <;> simp [Datum.order] at h1 h2
  | number sg m e =>
    rw [hr] at h1 h2
    simp only [Datum.order, Option.some.injEq] at h1 h2
    have hb := read_single hr
    refine ⟨sg, m, e, rfl, by omega, fun hs => ?_, by rwa [Int.compare_eq_lt] at h2⟩
    subst hs
    rw [Int.compare_eq_gt, Int.compare_eq_eq] at h1
    simp only [signed, Nat.zero_shiftLeft, Bool.false_eq_true, if_false, if_true] at h1
    rw [Nat.shiftLeft_eq] at h1
    have hp := Nat.two_pow_pos (e - min e (-149)).toNat
    rcases Nat.eq_zero_or_pos m with h0 | h0
    · exact h0
    · have := Nat.mul_pos h0 hp
      omega
theorem rdO {o : Nat} (h : aboveB o = true) : ∃ n j, single.read o = .number false n j ∧ n ≠ 0 := by
  unfold aboveB gtO at h
  simp only [Bool.and_eq_true, beq_iff_eq] at h
  obtain ⟨h1, h2⟩ := h
  obtain ⟨sg, n, j, hr⟩ := fin_num h1
  unfold Format.order at h2
  rw [hr, rdZero] at h2
  simp only [Datum.order, Option.some.injEq] at h2
  rw [Int.compare_eq_gt] at h2
  cases sg with
  | true =>
    simp only [signed, Nat.zero_shiftLeft, Bool.false_eq_true, if_false, if_true] at h2
    generalize n <<< (j - min j (-149)).toNat = z at h2
    omega
  | false =>
    refine ⟨n, j, hr, ?_⟩
    rintro rfl
    simp [signed] at h2
theorem mul_share {s o : Nat} (h1 : okS s = true) (h2 : aboveB o = true) : ∃ P, floatBits .mul .f32 s o = some P ∧ (P ≤ 2139095040 ∨ P = 2147483648) := by
  obtain ⟨sg, m, e, hs, he, hz, _⟩ := rdS h1
  obtain ⟨n, j, ho, hn⟩ := rdO h2
  show ∃ P, single.mul s o = some P ∧ (P ≤ 2139095040 ∨ P = 2147483648)
  unfold Format.mul
  rw [hs, ho]
  simp only [Datum.product, Option.map_some, Format.write]
  refine ⟨_, rfl, ?_⟩
  cases sg with
  | false =>
    left
    exact near_up32 _ _
  | true =>
    right
    rw [hz rfl, Nat.zero_mul]
    unfold Format.nearest
    rw [if_pos rfl]
    decide +kernel
theorem sub_one {s : Nat} (h1 : okS s = true) : ∃ Y, floatBits .sub .f32 1065353216 s = some Y ∧ 1 ≤ Y ∧ Y ≤ 2139095040 := by
  obtain ⟨sg, m, e, hs, he, hz, hlt⟩ := rdS h1
  show ∃ Y, single.sub 1065353216 s = some Y ∧ 1 ≤ Y ∧ Y ≤ 2139095040
  unfold Format.sub
  rw [hs, rdOne]
  simp only [Datum.opposite, Datum.sum, Option.map_some, Format.write]
  rw [Int.min_comm e (-23)] at hlt
  have hneg : signed (!sg) m (e - min (-23) e).toNat = - signed sg m (e - min (-23) e).toNat := by cases sg <;> simp [signed]
  have hpos : 0 < signed false 8388608 (-23 - min (-23) e).toNat + signed (!sg) m (e - min (-23) e).toNat := by rw [hneg]; omega
  generalize signed false 8388608 (-23 - min (-23) e).toNat + signed (!sg) m (e - min (-23) e).toNat = t at *
  rw [if_neg (by omega), show decide (t < 0) = false by simp; omega]
  exact ⟨_, rfl, near_nz32 (by omega) (by omega)⟩

theorem lgN_inf : lgN 2139095040 = 2139095040 := by unfold lgN; rw [if_pos rfl]
theorem ordInf : FloatKind.f64.format.order 9218868437227405312 9218868437227405312 = some .eq ∧ FloatKind.f64.format.order 9218868437227405312 0 = some .gt ∧ FloatKind.f64.format.order 9218868437227405312 9218868437227405311 = some .gt := by decide +kernel
theorem cvInf1 : floatToFloatBits .f32 2139095040 .f64 = some 9218868437227405312 := by decide +kernel
theorem cvInf2 : floatToFloatBits .f64 9218868437227405312 .f32 = some 2139095040 := by decide +kernel
set_option maxHeartbeats 400000 in
theorem mathIsInf2 (x : Nat) (w : World) (h : FloatKind.f64.format.order x 9218868437227405311 = some .gt) :
    Calls Try.prog 77 #[.float .f64 x, .int .i64 1] w fun e w' => e = .returned (.bool true) ∧ w = w' := by
  go_enter Try.func77, Try.ntmps77
  go_wp2
  go_ret
  exact ⟨rfl, rfl⟩
set_option maxHeartbeats 400000 in
theorem sLogInf (x : Nat) (w : World) (h1 : FloatKind.f64.format.order x x = some .eq) (h2 : FloatKind.f64.format.order x 0 = some .gt) (h3 : FloatKind.f64.format.order x 9218868437227405311 = some .gt) :
    Calls Try.prog 57 #[.float .f64 x] w fun e w' => e = .returned (.float .f64 x) ∧ w = w' := by
  go_enter Try.func57, Try.ntmps57
  go_wp2_with (go_at_call 77; refine (mathIsInf2 _ _ h3).mono ?_; rintro e w' ⟨rfl, rfl⟩)
  go_ret
  exact ⟨rfl, rfl⟩
set_option maxHeartbeats 400000 in
theorem sNarrow (r y : Nat) (hy : floatToFloatBits .f64 r .f32 = some y) (w : World) :
    Calls Try.prog 56 #[.float .f64 r] w fun e w' => e = .returned (.float .f32 y) ∧ w = w' := by
  have c2 : ∀ W : World, (convert 26 22 (.float .f64 r)).run Try.prog W = .ok (.float .f32 y) W := fun W => run_convert_float_float W 26 22 .f64 .f32 r _ (by kernel_rfl) Try.underlying22 hy
  clear hy
  go_enter Try.func56, Try.ntmps56
  go_wp2
  go_ret
  exact ⟨rfl, rfl⟩
set_option maxHeartbeats 400000 in
theorem sLogC (x : Nat) (w : World) (h1 : 1 ≤ x) (h2 : x ≤ 2139095040) :
    Calls Try.prog 34 #[.float .f32 x] w fun e w' => e = .returned (.float .f32 (lgN x)) ∧ ∃ q, w' = w.drewN q := by
  have HLN : Hid (∃ d r, floatToFloatBits .f32 x .f64 = some d ∧ floatToFloatBits .f64 r .f32 = some (lgN x) ∧ ∀ W, Calls Try.prog 57 #[.float .f64 d] W fun e w' => e = .returned (.float .f64 r) ∧ ∃ q, w' = W.drewN q) := hide (by
    by_cases hinf : x = 2139095040
    · subst hinf
      rw [lgN_inf]
      refine ⟨_, _, cvInf1, cvInf2, fun W => ?_⟩
      have o := ordInf
      generalize 9218868437227405312 = d at *
      exact (sLogInf d W o.1 o.2.1 o.2.2).mono fun e w' h => ⟨h.1, 0, h.2.symm⟩
    · obtain ⟨E, f, r, hin, hE1, hE2, hw, hr, hy⟩ := lgN_eq h1 (show x < 2139095040 by omega)
      refine ⟨_, r, hw, hy, fun W => (sLogWide E f W hin hE1 hE2).mono fun e w' h => ?_⟩
      obtain ⟨⟨r2, h5, h6⟩, h7⟩ := h
      rw [hr] at h6
      have h8 : r2 = r := h6
      subst h8
      exact ⟨h5, h7⟩)
  obtain ⟨d, r, hw, hy, hl⟩ := HLN.out
  have c1 : ∀ W : World, (convert 22 26 (.float .f32 x)).run Try.prog W = .ok (.float .f64 d) W := fun W => run_convert_float_float W 22 26 .f32 .f64 x _ (by kernel_rfl) Try.underlying26 hw
  have HL := Lib.hid hl
  have HN := Lib.hid (fun W => sNarrow r (lgN x) hy W)
  clear hw hy h1 h2 hl HLN
  generalize lgN x = y at *
  go_enter Try.func34, Try.ntmps34
  go_wp2_with (first | (go_at_call 57; refine (HL.out _).mono ?_; rintro e w' ⟨rfl, q, rfl⟩) | (go_at_call 56; refine (HN.out _).mono ?_; rintro e w' ⟨rfl, rfl⟩))
  go_ret
  exact ⟨rfl, _, rfl⟩
set_option maxHeartbeats 400000 in
theorem iLogC (x : Nat) (w : World) (h1 : 1 ≤ x) (h2 : x ≤ 2139095040) :
    Calls Try.prog 58 #[.float .f32 x] w fun e w' => e = .returned (.float .f32 (lgN x)) ∧ ∃ q, w' = w.drewN q := by
  obtain ⟨o1, o2⟩ := ordX h1 h2
  have HF := Lib.hid (fun W => iFin (some x) x W rfl)
  by_cases hinf : x = 2139095040
  · have hf : finO (some x) = false := by rw [hinf]; exact finInf
    rw [hf] at HF
    have HY : Hid (lgN x = x) := hide (by rw [hinf]; exact lgN_inf)
    clear hinf hf h1 h2
    go_enter Try.func58, Try.ntmps58
    go_wp2_with (go_at_call 32; refine (HF.out _).mono ?_; rintro e w' ⟨rfl, q, rfl⟩)
    go_ret
    exact ⟨by rw [HY.out]; rfl, _, rfl⟩
  · have hlt : x < 2139095040 := by omega
    have hf := finX h1 hlt
    rw [hf] at HF
    obtain ⟨E, f, r, hin, hE1, hE2, hw, hr, hy⟩ := lgN_eq h1 hlt
    have c1 : ∀ W : World, (convert 22 26 (.float .f32 x)).run Try.prog W = .ok (.float .f64 (D E f)) W := fun W => run_convert_float_float W 22 26 .f32 .f64 x _ (by kernel_rfl) Try.underlying26 hw
    have c2 : ∀ W : World, (convert 26 22 (.float .f64 r)).run Try.prog W = .ok (.float .f32 (lgN x)) W := fun W => run_convert_float_float W 26 22 .f64 .f32 r _ (by kernel_rfl) Try.underlying22 hy
    have HL : Hid (∀ W, Calls Try.prog 78 #[.float .f64 (D E f)] W fun e w' => e = .returned (.float .f64 r) ∧ ∃ q, w' = W.drewN q) := hide fun W => (iLogarithm E f W hin hE1 hE2).mono fun e w' h => by
      obtain ⟨⟨r2, h5, h6⟩, h7⟩ := h
      rw [hr] at h6
      have h8 : r2 = r := h6
      subst h8
      exact ⟨h5, h7⟩
    clear hw hr hy hin hE1 hE2 h1 h2 hlt hf hinf
    generalize lgN x = y at *
    generalize D E f = d at *
    go_enter Try.func58, Try.ntmps58
    go_wp2_with (first | (go_at_call 32; refine (HF.out _).mono ?_; rintro e w' ⟨rfl, q, rfl⟩) | (go_at_call 78; refine (HL.out _).mono ?_; rintro e w' ⟨rfl, q2, rfl⟩))
    go_ret
    exact ⟨rfl, by repeat (first | exact ⟨_, rfl⟩ | apply drewsN)⟩

/-- the growth itself -/
def X1 (s o : Nat) : Nat := (floatBits .add .f32 1065353216 ((floatBits .mul .f32 s o).getD 0)).getD 0
def Y1 (s : Nat) : Nat := (floatBits .sub .f32 1065353216 s).getD 0
def groO (c o s : Nat) : Option Nat :=
  oF .add .f32 (oF .mul .f32 (some c) (some (lgN (X1 s o)))) (oF .mul .f32 (oF .sub .f32 (some 1065353216) (some c)) (some (lgN (Y1 s))))
def RGrowthOf (c o s : Nat) : Nat × Bool := if (shareB c && (aboveB o && okS s)) = true then chkO (groO c o s) else (0, false)
theorem okS_eq (s : Nat) : okS s = (shareF s && !(single.order s 1065353216 == some .eq)) := by
  unfold okS shareF
  cases single.order s 1065353216 with
  | none => simp
  | some q => cases q <;> simp
end Go.Proofs.Ytjeaiihgedennaa
