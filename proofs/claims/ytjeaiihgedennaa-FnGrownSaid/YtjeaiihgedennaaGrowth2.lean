/- Contracts of GrowthOf, both sides. Conditions: none. -/
import Derived.Test.YtjeaiihgedennaaGrowth
namespace Go.Proofs.Ytjeaiihgedennaa
open Ieee Go.ChangeShapes Go.WideShapes Go.ChangeAt Go.RowKit
attribute [local go_sem] run_fadd run_fsub run_fmul run_fquo drewN_zero

theorem okS_eq2 (s : Nat) : okS s = (shareB s && !(single.order s 1065353216 == some .eq)) := by
  unfold okS shareB geO leO
  cases single.order s 1065353216 with
  | none => simp
  | some q => cases q <;> simp
/-- what the walk of the good case needs -/
theorem gro_facts {c o s : Nat} (h1 : okS s = true) (h2 : aboveB o = true) : ∃ P X Y, floatBits .mul .f32 s o = some P ∧ floatBits .add .f32 1065353216 P = some X ∧ floatBits .sub .f32 1065353216 s = some Y ∧
    (1 ≤ X ∧ X ≤ 2139095040) ∧ (1 ≤ Y ∧ Y ≤ 2139095040) ∧
    ∀ W1 W2 W3 W4, Rep .f32 (groO c o s) (fV .add .f32 (fV .mul .f32 c (lgN X) W1) (fV .mul .f32 (fV .sub .f32 1065353216 c W2) (lgN Y) W3) W4) := by
  obtain ⟨P, p1, p2⟩ := mul_share h1 h2
  obtain ⟨X, x1, x2⟩ := add_one p2
  obtain ⟨Y, y1, y2⟩ := sub_one h1
  have e1 : X1 s o = X := by unfold X1; rw [p1]; show (floatBits .add .f32 1065353216 P).getD 0 = X; rw [x1]; rfl
  have e2 : Y1 s = Y := by unfold Y1; rw [y1]; rfl
  refine ⟨P, X, Y, p1, x1, y1, x2, y2, fun W1 W2 W3 W4 => ?_⟩
  unfold groO
  rw [e1, e2]
  exact rep_f (rep_f (rep_self _ _) (rep_self _ _) _) (rep_f (rep_f (rep_self _ _) (rep_self _ _) _) (rep_self _ _) _) _

set_option maxHeartbeats 1600000 in
theorem sGrowthOf (c o s : Nat) (w : World) :
    Calls Try.prog 11 #[.float .f32 c, .float .f32 o, .float .f32 s] w fun e w' => e = .returned (.tuple #[.float .f32 (RGrowthOf c o s).1, .bool (RGrowthOf c o s).2]) ∧ ∃ q, w' = w.drewN q := by
  have H1 := Lib.hid (fun W => sShare c W)
  have H2 := Lib.hid (fun W => sAbove o W)
  have H3 := Lib.hid (fun W => sShare s W)
  cases q1 : shareB c with
  | false =>
    rw [q1] at H1
    have HR : Hid (RGrowthOf c o s = (0, false)) := hide (by rw [RGrowthOf, if_neg (by simp [q1])])
    go_enter Try.func11, Try.ntmps11
    go_wp2_with (go_at_call 28; refine (H1.out _).mono ?_; rintro e w' ⟨rfl, rfl⟩)
    go_ret2
    exact ⟨by rw [HR.out]; rfl, 0, rfl⟩
  | true =>
    rw [q1] at H1
    cases q2 : aboveB o with
    | false =>
      rw [q2] at H2
      have HR : Hid (RGrowthOf c o s = (0, false)) := hide (by rw [RGrowthOf, if_neg (by simp [q2])])
      go_enter Try.func11, Try.ntmps11
      go_wp2_with (first | (go_at_call 28; refine (H1.out _).mono ?_; rintro e w' ⟨rfl, rfl⟩) | (go_at_call 29; refine (H2.out _).mono ?_; rintro e w' ⟨rfl, q, rfl⟩))
      go_ret2
      exact ⟨by rw [HR.out]; rfl, _, rfl⟩
    | true =>
      rw [q2] at H2
      cases q3 : shareB s with
      | false =>
        rw [q3] at H3
        have HR : Hid (RGrowthOf c o s = (0, false)) := hide (by rw [RGrowthOf, if_neg (by simp [okS_eq2, q3])])
        go_enter Try.func11, Try.ntmps11
        go_wp2_with fail
        refine (H1.out _).mono ?_
        rintro e w' ⟨rfl, rfl⟩
        go_wp2_with fail
        refine (H2.out _).mono ?_
        rintro e w' ⟨rfl, q, rfl⟩
        go_wp2_with fail
        refine (H3.out _).mono ?_
        rintro e w' ⟨rfl, rfl⟩
        go_wp2
        go_ret2
        exact ⟨by rw [HR.out]; rfl, _, rfl⟩
      | true =>
        rw [q3] at H3
        cases q4 : (FloatKind.f32.format.order s 1065353216 == some .eq) with
        | true =>
          have HR : Hid (RGrowthOf c o s = (0, false)) := hide (by
            have h4 : (single.order s 1065353216 == some .eq) = true := q4
            rw [RGrowthOf, if_neg (by rw [okS_eq2, h4]; simp)])
          go_enter Try.func11, Try.ntmps11
          go_wp2_with fail
          refine (H1.out _).mono ?_
          rintro e w' ⟨rfl, rfl⟩
          go_wp2_with fail
          refine (H2.out _).mono ?_
          rintro e w' ⟨rfl, q, rfl⟩
          go_wp2_with fail
          refine (H3.out _).mono ?_
          rintro e w' ⟨rfl, rfl⟩
          go_wp2
          go_ret2
          exact ⟨by rw [HR.out]; rfl, _, rfl⟩
        | false =>
          have h4 : (single.order s 1065353216 == some .eq) = false := q4
          have hok : okS s = true := by rw [okS_eq2, q3, h4]; rfl
          have HR : Hid (RGrowthOf c o s = chkO (groO c o s)) := hide (by rw [RGrowthOf, q1, q2, hok]; rfl)
          obtain ⟨P, X, Y, p1, p2, p3, ⟨x1, x2⟩, ⟨y1, y2⟩, hrep⟩ := gro_facts (c := c) hok q2
          have v1 := fV_some p1
          have v2 := fV_some p2
          have v3 := fV_some p3
          have z1 := fN_some p1
          have z2 := fN_some p2
          have z3 := fN_some p3
          have HLX := Lib.hid (fun W => sLogC X W x1 x2)
          have HLY := Lib.hid (fun W => sLogC Y W y1 y2)
          have HN := Lib.hid (fun x W h => sNumber (groO c o s) x W h)
          have Hrep := Lib.hid hrep
          clear hrep p1 p2 p3 h4 hok q1 q2 q3 x1 x2 y1 y2
          generalize groO c o s = O at *
          generalize lgN X = LX at *
          generalize lgN Y = LY at *
          go_enter Try.func11, Try.ntmps11
          go_wp2_with fail
          refine (H1.out _).mono ?_
          rintro e w' ⟨rfl, rfl⟩
          go_wp2_with fail
          refine (H2.out _).mono ?_
          rintro e w' ⟨rfl, q, rfl⟩
          go_wp2_with fail
          refine (H3.out _).mono ?_
          rintro e w' ⟨rfl, rfl⟩
          go_wp2_with fail
          refine (HLX.out _).mono ?_
          rintro e w' ⟨rfl, q5, rfl⟩
          go_wp2_with fail
          refine (HLY.out _).mono ?_
          rintro e w' ⟨rfl, q6, rfl⟩
          go_wp2_with fail
          refine (HN.out _ _ (Hrep.out _ _ _ _)).mono ?_
          rintro e w' ⟨rfl, q7, rfl⟩
          go_wp2
          go_ret2
          exact ⟨by rw [HR.out]; rfl, by repeat (first | exact ⟨_, rfl⟩ | apply drewsN)⟩

set_option maxHeartbeats 1600000 in
theorem iGrowthAt (c o s : Nat) (w : World) (hf : finO (some o) = true) :
    Calls Try.prog 35 #[.float .f32 c, .float .f32 o, .float .f32 s] w fun e w' => e = .returned (.tuple #[.float .f32 (RGrowthOf c o s).1, .bool (RGrowthOf c o s).2]) ∧ ∃ q, w' = w.drewN q := by
  have H1 := Lib.hid (fun W => iShare c W)
  cases q1 : shareB c with
  | false =>
    rw [q1] at H1
    have HR : Hid (RGrowthOf c o s = (0, false)) := hide (by rw [RGrowthOf, if_neg (by simp [q1])])
    clear hf
    go_enter Try.func35, Try.ntmps35
    go_wp2_with (go_at_call 31; refine (H1.out _).mono ?_; rintro e w' ⟨rfl, rfl⟩)
    go_ret2
    exact ⟨by rw [HR.out]; rfl, 0, rfl⟩
  | true =>
    rw [q1] at H1
    have a1 : (FloatKind.f32.format.order o 0 == some .gt) = gtO o 0 := rfl
    cases q2 : gtO o 0 with
    | false =>
      rw [q2] at a1
      have HR : Hid (RGrowthOf c o s = (0, false)) := hide (by rw [RGrowthOf, if_neg (by simp [aboveB, q2])])
      clear hf
      go_enter Try.func35, Try.ntmps35
      go_wp2_with (go_at_call 31; refine (H1.out _).mono ?_; rintro e w' ⟨rfl, rfl⟩)
      go_ret2
      exact ⟨by rw [HR.out]; rfl, 0, rfl⟩
    | true =>
      rw [q2] at a1
      have hab : aboveB o = true := by rw [aboveB, hf, q2]; rfl
      cases q3 : (FloatKind.f32.format.order s 0 == some .gt || FloatKind.f32.format.order s 0 == some .eq) with
      | false =>
        have HR : Hid (RGrowthOf c o s = (0, false)) := hide (by
          have h4 : (single.order s 0 == some .gt || single.order s 0 == some .eq) = false := q3
          rw [RGrowthOf, if_neg (by unfold okS; rw [h4]; simp)])
        clear hf hab
        go_enter Try.func35, Try.ntmps35
        go_wp2_with (go_at_call 31; refine (H1.out _).mono ?_; rintro e w' ⟨rfl, rfl⟩)
        go_ret2
        exact ⟨by rw [HR.out]; rfl, 0, rfl⟩
      | true =>
        cases q4 : (FloatKind.f32.format.order s 1065353216 == some .lt) with
        | false =>
          have HR : Hid (RGrowthOf c o s = (0, false)) := hide (by
            have h4 : (single.order s 1065353216 == some .lt) = false := q4
            rw [RGrowthOf, if_neg (by unfold okS; rw [h4]; simp)])
          clear hf hab
          go_enter Try.func35, Try.ntmps35
          go_wp2_with (go_at_call 31; refine (H1.out _).mono ?_; rintro e w' ⟨rfl, rfl⟩)
          go_ret2
          exact ⟨by rw [HR.out]; rfl, 0, rfl⟩
        | true =>
          have hok : okS s = true := by
            have h3 : (single.order s 0 == some .gt || single.order s 0 == some .eq) = true := q3
            have h4 : (single.order s 1065353216 == some .lt) = true := q4
            unfold okS
            rw [h3, h4]
            rfl
          have HR : Hid (RGrowthOf c o s = chkO (groO c o s)) := hide (by rw [RGrowthOf, q1, hab, hok]; rfl)
          obtain ⟨P, X, Y, p1, p2, p3, ⟨x1, x2⟩, ⟨y1, y2⟩, hrep⟩ := gro_facts (c := c) hok hab
          have v1 := fV_some p1
          have v2 := fV_some p2
          have v3 := fV_some p3
          have z1 := fN_some p1
          have z2 := fN_some p2
          have z3 := fN_some p3
          have HLX := Lib.hid (fun W => iLogC X W x1 x2)
          have HLY := Lib.hid (fun W => iLogC Y W y1 y2)
          have HN := Lib.hid (fun x W h => iChecked (groO c o s) x W h)
          have Hrep := Lib.hid hrep
          clear hrep p1 p2 p3 hok q1 q2 x1 x2 y1 y2 hf hab
          generalize groO c o s = O at *
          generalize lgN X = LX at *
          generalize lgN Y = LY at *
          go_enter Try.func35, Try.ntmps35
          go_wp2_with fail
          refine (H1.out _).mono ?_
          rintro e w' ⟨rfl, rfl⟩
          go_wp2_with fail
          refine (HLX.out _).mono ?_
          rintro e w' ⟨rfl, q5, rfl⟩
          go_wp2_with fail
          refine (HLY.out _).mono ?_
          rintro e w' ⟨rfl, q6, rfl⟩
          go_wp2_with fail
          refine (HN.out _ _ (Hrep.out _ _ _ _)).mono ?_
          rintro e w' ⟨rfl, q7, rfl⟩
          go_wp2
          go_ret2
          exact ⟨by rw [HR.out]; rfl, by repeat (first | exact ⟨_, rfl⟩ | apply drewsN)⟩

set_option maxHeartbeats 800000 in
theorem iGrowthOf (c o s : Nat) (w : World) :
    Calls Try.prog 12 #[.float .f32 c, .float .f32 o, .float .f32 s] w fun e w' => e = .returned (.tuple #[.float .f32 (RGrowthOf c o s).1, .bool (RGrowthOf c o s).2]) ∧ ∃ q, w' = w.drewN q := by
  have HF := Lib.hid (fun W => iFin (some o) o W rfl)
  cases hf : finO (some o) with
  | false =>
    rw [hf] at HF
    have HR : Hid (RGrowthOf c o s = (0, false)) := hide (by rw [RGrowthOf, if_neg (by simp [aboveB, hf])])
    clear hf
    go_enter Try.func12, Try.ntmps12
    go_wp2_with (go_at_call 32; refine (HF.out _).mono ?_; rintro e w' ⟨rfl, q, rfl⟩)
    go_ret2
    exact ⟨by rw [HR.out]; rfl, _, rfl⟩
  | true =>
    rw [hf] at HF
    have HG := Lib.hid (fun W => iGrowthAt c o s W hf)
    clear hf
    generalize RGrowthOf c o s = R at *
    go_enter Try.func12, Try.ntmps12
    go_wp2_with (first | (go_at_call 32; refine (HF.out _).mono ?_; rintro e w' ⟨rfl, q, rfl⟩) | (go_at_call 35; refine (HG.out _).mono ?_; rintro e w' ⟨rfl, q2, rfl⟩))
    go_ret2
    exact ⟨rfl, by repeat (first | exact ⟨_, rfl⟩ | apply drewsN)⟩
theorem chkO_fin (o : Option Nat) : finO (some (chkO o).1) = true := by
  unfold chkO
  split
  · rename_i h
    cases o with
    | none => simp [finO, oF, oO] at h
    | some r => exact h
  · decide +kernel
theorem RGrowthOf_fin (c o s : Nat) : finO (some (RGrowthOf c o s).1) = true := by
  unfold RGrowthOf
  split
  · exact chkO_fin _
  · decide +kernel
end Go.Proofs.Ytjeaiihgedennaa
