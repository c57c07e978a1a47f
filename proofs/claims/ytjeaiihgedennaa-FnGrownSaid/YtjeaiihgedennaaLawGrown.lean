/- The walk of the law FnGrown. Conditions: none. -/
import Derived.Test.YtjeaiihgedennaaGrownQ
import Derived.Test.YtjeaiihgedennaaGrownR
import Derived.Test.YtjeaiihgedennaaGrownS
import Derived.Test.YtjeaiihgedennaaR8
import Derived.Test.YtjeaiihgedennaaConv
namespace Go.Proofs.Ytjeaiihgedennaa
open Ieee Go.ChangeShapes Go.WideShapes Go.ChangeAt Go.RowKit
attribute [local go_sem] run_fadd run_fsub run_fmul run_fquo drewN_zero

theorem chk7_t {c o b : Nat} (h : chk7 c o b = true) : ∃ p q, floatBits .mul .f32 c o = some p ∧ floatBits .sub .f32 1065353216 c = some q ∧
    (single.order b 0 == some .lt) = false ∧ (single.order b 1065353216 == some .gt) = false ∧ (single.order b 0 = some .eq ∨ (single.order b 0 = some .gt ∧ single.order p q = some .gt)) := by
  unfold chk7 at h
  split at h
  · rename_i p q hp hq
    simp only [Bool.and_eq_true, Bool.or_eq_true, Bool.not_eq_true', beq_iff_eq] at h
    exact ⟨p, q, hp, hq, h.1.1, h.1.2, h.2⟩
  · cases h
theorem chk8_t {c b m x y : Nat} (h : chk8 c b m x y = true) : ∃ v, oF .add .f32 (oF .mul .f32 (some c) (some x)) (oF .mul .f32 (oF .sub .f32 (some 1065353216) (some c)) (some y)) = some v ∧ finO (some v) = true ∧
    ((single.order b 1065353216 == some .lt) = false ∨ ∃ a d e, floatToFloatBits .f32 m .f64 = some a ∧ floatToFloatBits .f32 v .f64 = some d ∧ floatBits .sub .f64 d 4547007122018943789 = some e ∧ (double.order a e == some .gt) = true) := by
  unfold chk8 at h
  split at h
  · rename_i v hv
    refine ⟨v, hv, ?_⟩
    simp only [Bool.and_eq_true, Bool.or_eq_true, Bool.not_eq_true'] at h
    refine ⟨h.1, h.2.imp id fun h2 => ?_⟩
    split at h2
    · rename_i a d ha hd
      split at h2
      · rename_i e he
        exact ⟨a, d, e, ha, hd, he, h2⟩
      · cases h2
    · cases h2
  · cases h
theorem okC_tab : ∀ k : Fin 16, okS (gC k) = true := by decide +kernel
theorem some_val {i j k v : Nat} (hi : i < 17) (hj : j < 16) (hk : k < 16) (hv : oF .add .f32 (oF .mul .f32 (some (gC i)) (some (gX j k))) (oF .mul .f32 (oF .sub .f32 (some 1065353216) (some (gC i))) (some (gY k))) = some v) (hf : finO (some v) = true) :
    RGrowthOf (gC i) (gO j) (gC k) = (v, true) := by
  have h3 := (gZ_tab ⟨j, hj⟩).2.2
  have h4 := (gZ0_tab ⟨i, hi⟩).1
  have h5 := okC_tab ⟨k, hk⟩
  have h6 := gX_tab hj hk
  have h7 := gY_tab ⟨k, hk⟩
  simp only at h3 h4 h5 h7
  unfold RGrowthOf groO
  rw [h3, h4, h5, h6, h7, hv]
  show chkO (some v) = (v, true)
  unfold chkO
  rw [if_pos hf]
  rfl

theorem rdU_drewN {w : World} {A : Option Addr} {n : Nat} {xs : List Int} (h : RdU w A n xs) (q : Nat) : RdU (w.drewN q) A n xs := ⟨h.1.drewN q, h.2⟩
theorem below_of_drew2 {w w' : World} (h : ∃ q, w' = w.drewN q) : Below w.heap.size w w' := by
  obtain ⟨q, rfl⟩ := h
  exact below_drewN (Below.refl _ _) q
set_option maxHeartbeats 3200000 in
theorem lawGrown (A0 A1 : Option Addr) (c0 c1 : Nat) (x0 x1 : List Int) (w : World) (hr0 : RdU w A0 x0.length x0) (hr1 : RdU w A1 x1.length x1) :
    Calls Try.prog 5 #[.slice A0 x0.length c0, .slice A1 x1.length c1] w fun e w' => e = .returned (.bool true) ∧ Below w.heap.size w w' := by
  have HL := Lib.hid (fun W => rLong A0 A1 x0.length x1.length c0 c1 W)
  by_cases hlong : 48 < x0.length ∨ 48 < x1.length
  · have e : (decide (48 < x0.length) || decide (48 < x1.length)) = true := by simpa using hlong
    rw [e] at HL
    clear hlong e hr0 hr1
    go_enter Try.func5, Try.ntmps5
    go_wp2_with (go_at_call 13; refine (HL.out _).mono ?_; rintro e w' ⟨rfl, rfl⟩)
    go_ret
    exact ⟨rfl, Below.refl _ _⟩
  have e : (decide (48 < x0.length) || decide (48 < x1.length)) = false := by simp; omega
  rw [e] at HL
  have hn1 : x1.length ≤ 48 := by omega
  have HA := Lib.hid (fun W i k (h : RdU W A1 x1.length x1) a b c d => rAt A1 x1.length c1 x1 i k W h hn1 a b c d)
  have HR := hide hr1
  have o0 : FloatKind.f32.format.order 0 0 = some .eq := by decide +kernel
  clear hlong e hr0 hr1
  go_enter Try.func5, Try.ntmps5
  go_wp2_with fail
  refine (HL.out _).mono ?_
  rintro e w' ⟨rfl, rfl⟩
  go_wp2_with fail
  refine (HA.out _ 40 17 HR.out (by omega) (by omega) (by omega) (by omega)).mono ?_
  rintro e w' ⟨⟨i, rfl, hi⟩, rfl⟩
  have hi17 : i < 17 := by omega
  have v1 := fV_some (gC_tab ⟨i, hi17⟩)
  have z1 := fN_some (gC_tab ⟨i, hi17⟩)
  simp only at v1 z1
  have HI := hide hi17
  clear hi hi17
  go_wp2_with fail
  refine (HA.out _ 41 16 HR.out (by omega) (by omega) (by omega) (by omega)).mono ?_
  rintro e w' ⟨⟨j, rfl, hj⟩, rfl⟩
  have hj16 : j < 16 := by omega
  have v2 := fV_some (gO_tab ⟨j, hj16⟩)
  have z2 := fN_some (gO_tab ⟨j, hj16⟩)
  simp only at v2 z2
  have hj15 : (j : Int) ≤ 15 := by omega
  have HJ := hide hj16
  have HB := Lib.hid (fun W => iBestShare (gC i) (gO j) W)
  have hb := gB_tab ⟨i, HI.out⟩ ⟨j, hj16⟩
  simp only at hb
  rw [hb] at HB
  have HZ := Lib.hid (fun W => iGrowthOf (gC i) (gO j) 0 W)
  rw [gZ HI.out hj16] at HZ
  obtain ⟨p, q, t1, t2, t3, t4, t5⟩ := chk7_t (chk7_tab ⟨i, HI.out⟩ ⟨j, hj16⟩)
  simp only at t1 t2 t3 t4 t5
  have v3 := fV_some t1
  have z3 := fN_some t1
  have v4 := fV_some t2
  have z4 := fN_some t2
  have s3 : (FloatKind.f32.format.order (gB i j) 0 == some .lt) = false := t3
  have s4 : (FloatKind.f32.format.order (gB i j) 1065353216 == some .gt) = false := t4
  have s5 : FloatKind.f32.format.order (gB i j) 0 = some .eq ∨ (FloatKind.f32.format.order (gB i j) 0 = some .gt ∧ FloatKind.f32.format.order p q = some .gt) := t5
  have h9 := chk9_tab ⟨i, HI.out⟩ ⟨j, hj16⟩
  simp only at h9
  have H9 := hide h9
  clear h9
  have HG := Lib.hid (fun s W => iGrowthOf (gC i) (gO j) s W)
  clear hj hj16 hb t1 t2 t3 t4 t5
  have K : Hid (∀ g : Bool, (FloatKind.f32.format.order p q == some .lt || FloatKind.f32.format.order p q == some .eq) = g → True) := hide fun _ _ => trivial
  go_wp2_with (first | (go_at_call 9; refine (HB.out _).mono ?_; rintro e w' ⟨rfl, q1, rfl⟩) | (go_at_call 12; refine (HZ.out _).mono ?_; rintro e w' ⟨rfl, q2, rfl⟩; rcases s5 with s5 | ⟨s5, s6⟩))
  all_goals (
    clear s3 s4 v1 z1 v2 z2 v3 z3 v4 z4 o0
    refine (HA.out _ 42 16 (rdU_drewN HR.out _) (by omega) (by omega) (by omega) (by omega)).mono ?_
    rintro e w' ⟨⟨k, rfl, hk⟩, rfl⟩
    have hk16 : k < 16 := by omega
    have v5 := fV_some (gC_tab ⟨k, by omega⟩)
    have z5 := fN_some (gC_tab ⟨k, by omega⟩)
    simp only at v5 z5
    obtain ⟨v, e1, e2, e3⟩ := chk8_t (g8_tab HI.out HJ.out hk16)
    have hsv := some_val HI.out HJ.out hk16 e1 e2
    have HSV := Lib.hid (HG.out (gC k))
    rw [hsv] at HSV
    clear hk hsv e1 e2
    cases hb : (FloatKind.f32.format.order (gB i j) 1065353216 == some .lt) with
    | true =>
      have hb2 : (single.order (gB i j) 1065353216 == some .lt) = true := hb
      have hm := gM_tab HI.out HJ.out
      rw [hb2] at e3 hm
      have hm2 : RGrowthOf (gC i) (gO j) (gB i j) = (gM i j, true) := hm.resolve_left (by simp)
      obtain ⟨a, d, e, a1, a2, a3, a4⟩ := e3.resolve_left (by simp)
      have HM := Lib.hid (HG.out (gB i j))
      rw [hm2] at HM
      have cv1 : ∀ W : World, (convert 22 26 (.float .f32 (gM i j))).run Try.prog W = .ok (.float .f64 a) W := fun W => run_convert_float_float W 22 26 .f32 .f64 _ _ (by kernel_rfl) Try.underlying26 a1
      have cv2 : ∀ W : World, (convert 22 26 (.float .f32 v)).run Try.prog W = .ok (.float .f64 d) W := fun W => run_convert_float_float W 22 26 .f32 .f64 _ _ (by kernel_rfl) Try.underlying26 a2
      have v6 := fV_some a3
      have z6 := fN_some a3
      have a5 : (FloatKind.f64.format.order a e == some .gt) = true := a4
      clear hm hm2 e3 a1 a2 a3 a4 hb2 hk16
      go_wp2_with fail
      refine (HSV.out _).mono ?_
      rintro e w' ⟨rfl, q3, rfl⟩
      go_wp2_with fail
      refine (HM.out _).mono ?_
      rintro e w' ⟨rfl, q4, rfl⟩
      go_wp2
      go_ret
      exact ⟨rfl, below_of_drew2 (by repeat (first | exact ⟨_, rfl⟩ | apply drewsN))⟩
    | false =>
      have h9 := H9.out
      have hb2 : (single.order (gB i j) 1065353216 == some .lt) = false := hb
      unfold chk9 at h9
      rw [hb2] at h9
      simp only [Bool.false_or, Bool.and_eq_true] at h9
      have h10 : (FloatKind.f32.format.order (gC i) 1065353216 == some .eq) = true := h9.2
      clear h9 hb2 e3 hk16
      go_wp2_with fail
      refine (HSV.out _).mono ?_
      rintro e w' ⟨rfl, q3, rfl⟩
      go_wp2
      go_ret
      exact ⟨rfl, below_of_drew2 (by repeat (first | exact ⟨_, rfl⟩ | apply drewsN))⟩)
end Go.Proofs.Ytjeaiihgedennaa
