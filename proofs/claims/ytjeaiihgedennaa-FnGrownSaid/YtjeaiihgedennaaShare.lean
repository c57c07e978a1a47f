/- Contracts of BestShare, both sides, and of the checks of floats. Conditions: none but what is stated. -/
import Derived.Test.YtjeaiihgedennaaFloat
namespace Go.Proofs.Ytjeaiihgedennaa
open Go.ChangeShapes Go.WideShapes Go.ChangeAt Go.RowKit
attribute [local go_sem] run_fadd run_fsub run_fmul run_fquo

set_option maxHeartbeats 400000 in
theorem sFin (o : Option Nat) (x : Nat) (w : World) (h : Rep .f32 o x) :
    Calls Try.prog 55 #[.float .f32 x] w fun e w' => e = .returned (.bool (finO o)) ∧ ∃ q, w' = w.drewN q := by
  have H := hide fun W => rep_o (rep_f (op := .sub) h h W) (rep_self .f32 0)
  go_enter Try.func55, Try.ntmps55
  go_wp2
  go_ret
  exact ⟨ret_bool (by rw [H.out]; rfl), _, rfl⟩
set_option maxHeartbeats 400000 in
theorem iFin (o : Option Nat) (x : Nat) (w : World) (h : Rep .f32 o x) :
    Calls Try.prog 32 #[.float .f32 x] w fun e w' => e = .returned (.bool (finO o)) ∧ ∃ q, w' = w.drewN q := by
  have H := hide fun W => rep_o (rep_f (op := .sub) h h W) (rep_self .f32 0)
  go_enter Try.func32, Try.ntmps32
  go_wp2
  go_ret
  exact ⟨ret_bool (by rw [H.out]; rfl), _, rfl⟩
def geO (c d : Nat) : Bool := Ieee.single.order c d == some .gt || Ieee.single.order c d == some .eq
def leO (c d : Nat) : Bool := Ieee.single.order c d == some .lt || Ieee.single.order c d == some .eq
def gtO (c d : Nat) : Bool := Ieee.single.order c d == some .gt
def shareB (c : Nat) : Bool := geO c 0 && leO c 1065353216
set_option maxHeartbeats 400000 in
theorem sShare (c : Nat) (w : World) :
    Calls Try.prog 28 #[.float .f32 c] w fun e w' => e = .returned (.bool (shareB c)) ∧ w = w' := by
  have h1 : (FloatKind.f32.format.order c 0 == some .gt || FloatKind.f32.format.order c 0 == some .eq) = geO c 0 := rfl
  have h2 : (FloatKind.f32.format.order c 1065353216 == some .lt || FloatKind.f32.format.order c 1065353216 == some .eq) = leO c 1065353216 := rfl
  have HS : Hid (shareB c = (geO c 0 && leO c 1065353216)) := hide rfl
  cases q1 : geO c 0 with
  | false =>
    rw [q1] at h1 HS
    clear h2
    go_enter Try.func28, Try.ntmps28
    go_wp2
    go_ret
    exact ⟨ret_bool (by rw [HS.out]; rfl), rfl⟩
  | true =>
    rw [q1] at h1 HS
    generalize leO c 1065353216 = b at *
    go_enter Try.func28, Try.ntmps28
    go_wp2
    go_ret
    exact ⟨ret_bool (by rw [HS.out]; rfl), rfl⟩
set_option maxHeartbeats 400000 in
theorem iShare (c : Nat) (w : World) :
    Calls Try.prog 31 #[.float .f32 c] w fun e w' => e = .returned (.bool (shareB c)) ∧ w = w' := by
  have h1 : (FloatKind.f32.format.order c 0 == some .gt || FloatKind.f32.format.order c 0 == some .eq) = geO c 0 := rfl
  have h2 : (FloatKind.f32.format.order c 1065353216 == some .lt || FloatKind.f32.format.order c 1065353216 == some .eq) = leO c 1065353216 := rfl
  have HS : Hid (shareB c = (geO c 0 && leO c 1065353216)) := hide rfl
  cases q1 : geO c 0 with
  | false =>
    rw [q1] at h1 HS
    clear h2
    go_enter Try.func31, Try.ntmps31
    go_wp2
    go_ret
    exact ⟨ret_bool (by rw [HS.out]; rfl), rfl⟩
  | true =>
    rw [q1] at h1 HS
    generalize leO c 1065353216 = b at *
    go_enter Try.func31, Try.ntmps31
    go_wp2
    go_ret
    exact ⟨ret_bool (by rw [HS.out]; rfl), rfl⟩
/-- a result that is kept just if it is neither a NaN nor an infinity -/
def chkO (o : Option Nat) : Nat × Bool := if finO o = true then (o.getD 0, true) else (0, false)
theorem fin_some {o : Option Nat} (h : finO o = true) : ∃ r, o = some r := by
  cases o with
  | none => simp [finO, oF, oO] at h
  | some r => exact ⟨r, rfl⟩
set_option maxHeartbeats 400000 in
theorem sNumber (o : Option Nat) (x : Nat) (w : World) (h : Rep .f32 o x) :
    Calls Try.prog 30 #[.float .f32 x] w fun e w' => e = .returned (.tuple #[.float .f32 (chkO o).1, .bool (chkO o).2]) ∧ ∃ q, w' = w.drewN q := by
  have H := Lib.hid (sFin o x w h)
  cases hf : finO o with
  | false =>
    rw [hf] at H
    have HR : Hid (chkO o = (0, false)) := hide (by rw [chkO, if_neg (by rw [hf]; simp)])
    clear h
    go_enter Try.func30, Try.ntmps30
    go_wp2_with (go_at_call 55; refine H.out.mono ?_; rintro e w' ⟨rfl, q, rfl⟩)
    go_ret2
    exact ⟨by rw [HR.out]; rfl, _, rfl⟩
  | true =>
    rw [hf] at H
    obtain ⟨r, rfl⟩ := fin_some hf
    have HR : Hid (chkO (some r) = (r, true)) := hide (by rw [chkO, if_pos hf]; rfl)
    cases h
    go_enter Try.func30, Try.ntmps30
    go_wp2_with (go_at_call 55; refine H.out.mono ?_; rintro e w' ⟨rfl, q, rfl⟩)
    go_ret2
    exact ⟨by rw [HR.out]; rfl, _, rfl⟩
set_option maxHeartbeats 400000 in
theorem iChecked (o : Option Nat) (x : Nat) (w : World) (h : Rep .f32 o x) :
    Calls Try.prog 33 #[.float .f32 x] w fun e w' => e = .returned (.tuple #[.float .f32 (chkO o).1, .bool (chkO o).2]) ∧ ∃ q, w' = w.drewN q := by
  have H := Lib.hid (iFin o x w h)
  cases hf : finO o with
  | false =>
    rw [hf] at H
    have HR : Hid (chkO o = (0, false)) := hide (by rw [chkO, if_neg (by rw [hf]; simp)])
    clear h
    go_enter Try.func33, Try.ntmps33
    go_wp2_with (go_at_call 32; refine H.out.mono ?_; rintro e w' ⟨rfl, q, rfl⟩)
    go_ret2
    exact ⟨by rw [HR.out]; rfl, _, rfl⟩
  | true =>
    rw [hf] at H
    obtain ⟨r, rfl⟩ := fin_some hf
    have HR : Hid (chkO (some r) = (r, true)) := hide (by rw [chkO, if_pos hf]; rfl)
    cases h
    go_enter Try.func33, Try.ntmps33
    go_wp2_with (go_at_call 32; refine H.out.mono ?_; rintro e w' ⟨rfl, q, rfl⟩)
    go_ret2
    exact ⟨by rw [HR.out]; rfl, _, rfl⟩
def aboveB (o : Nat) : Bool := finO (some o) && gtO o 0
set_option maxHeartbeats 400000 in
theorem sAbove (o : Nat) (w : World) :
    Calls Try.prog 29 #[.float .f32 o] w fun e w' => e = .returned (.bool (aboveB o)) ∧ ∃ q, w' = w.drewN q := by
  have H := Lib.hid (sFin (some o) o w rfl)
  have h1 : (FloatKind.f32.format.order o 0 == some .gt) = gtO o 0 := rfl
  have HS : Hid (aboveB o = (finO (some o) && gtO o 0)) := hide rfl
  generalize gtO o 0 = g at *
  cases hf : finO (some o) with
  | false =>
    rw [hf] at H HS
    clear h1
    go_enter Try.func29, Try.ntmps29
    go_wp2_with (go_at_call 55; refine H.out.mono ?_; rintro e w' ⟨rfl, q, rfl⟩)
    go_ret
    exact ⟨ret_bool (by rw [HS.out]; rfl), _, rfl⟩
  | true =>
    rw [hf] at H HS
    go_enter Try.func29, Try.ntmps29
    go_wp2_with (go_at_call 55; refine H.out.mono ?_; rintro e w' ⟨rfl, q, rfl⟩)
    go_ret
    exact ⟨ret_bool (by rw [HS.out]; rfl), _, rfl⟩

/-- the share itself -/
def bsO (c o : Nat) : Option Nat := oF .quo .f32 (oF .sub .f32 (oF .mul .f32 (some c) (some o)) (oF .sub .f32 (some 1065353216) (some c))) (some o)
def ltzO (o : Option Nat) : Bool := oO .f32 o (some 0) == some .lt
def RBestShare (c o : Nat) : Nat × Bool := if (shareB c && aboveB o) = true then (if ltzO (bsO c o) = true then (0, true) else chkO (bsO c o)) else (0, false)
theorem rep_bs (c o : Nat) (W1 W2 W3 W4 : World) : Rep .f32 (bsO c o) (fV .quo .f32 (fV .sub .f32 (fV .mul .f32 c o W1) (fV .sub .f32 1065353216 c W2) W3) o W4) :=
  rep_f (rep_f (rep_f (rep_self _ _) (rep_self _ _) _) (rep_f (rep_self _ _) (rep_self _ _) _) _) (rep_self _ _) _

set_option maxHeartbeats 800000 in
theorem sBestShare (c o : Nat) (w : World) :
    Calls Try.prog 8 #[.float .f32 c, .float .f32 o] w fun e w' => e = .returned (.tuple #[.float .f32 (RBestShare c o).1, .bool (RBestShare c o).2]) ∧ ∃ q, w' = w.drewN q := by
  have H1 := Lib.hid (sShare c w)
  have H2 := Lib.hid (sAbove o w)
  cases q1 : shareB c with
  | false =>
    rw [q1] at H1
    have HR : Hid (RBestShare c o = (0, false)) := hide (by rw [RBestShare, if_neg (by simp [q1])])
    go_enter Try.func8, Try.ntmps8
    go_wp2_with (go_at_call 28; refine H1.out.mono ?_; rintro e w' ⟨rfl, rfl⟩)
    go_ret2
    exact ⟨by rw [HR.out]; rfl, 0, rfl⟩
  | true =>
    rw [q1] at H1
    cases q2 : aboveB o with
    | false =>
      rw [q2] at H2
      have HR : Hid (RBestShare c o = (0, false)) := hide (by rw [RBestShare, if_neg (by simp [q2])])
      go_enter Try.func8, Try.ntmps8
      go_wp2_with (first | (go_at_call 28; refine H1.out.mono ?_; rintro e w' ⟨rfl, rfl⟩) | (go_at_call 29; refine H2.out.mono ?_; rintro e w' ⟨rfl, q, rfl⟩))
      go_ret2
      exact ⟨by rw [HR.out]; rfl, _, rfl⟩
    | true =>
      rw [q2] at H2
      have HR : Hid (RBestShare c o = if ltzO (bsO c o) = true then (0, true) else chkO (bsO c o)) := hide (by rw [RBestShare, if_pos (by simp [q1, q2])])
      have hlt : ∀ W1 W2 W3 W4 : World, (FloatKind.f32.format.order (fV .quo .f32 (fV .sub .f32 (fV .mul .f32 c o W1) (fV .sub .f32 1065353216 c W2) W3) o W4) 0 == some .lt) = ltzO (bsO c o) := fun W1 W2 W3 W4 => by
        rw [rep_o (rep_bs c o W1 W2 W3 W4) (rep_self .f32 0)]; rfl
      have HN := Lib.hid (fun x W h => sNumber (bsO c o) x W h)
      have Hrep : Hid (∀ W1 W2 W3 W4 : World, Rep .f32 (bsO c o) (fV .quo .f32 (fV .sub .f32 (fV .mul .f32 c o W1) (fV .sub .f32 1065353216 c W2) W3) o W4)) := hide (rep_bs c o)
      generalize bsO c o = O at *
      cases q3 : ltzO O with
      | true =>
        simp only [q3] at hlt HR
        go_enter Try.func8, Try.ntmps8
        go_wp2_with (first | (go_at_call 28; refine H1.out.mono ?_; rintro e w' ⟨rfl, rfl⟩) | (go_at_call 29; refine H2.out.mono ?_; rintro e w' ⟨rfl, q, rfl⟩))
        go_ret2
        exact ⟨by rw [HR.out]; rfl, _, rfl⟩
      | false =>
        simp only [q3] at hlt HR
        go_enter Try.func8, Try.ntmps8
        go_wp2_with (first | (go_at_call 28; refine H1.out.mono ?_; rintro e w' ⟨rfl, rfl⟩) | (go_at_call 29; refine H2.out.mono ?_; rintro e w' ⟨rfl, q, rfl⟩) | (go_at_call 30; refine (HN.out _ _ (Hrep.out _ _ _ _)).mono ?_; rintro e w' ⟨rfl, q9, rfl⟩))
        go_ret2
        exact ⟨by rw [HR.out]; rfl, by repeat (first | exact ⟨_, rfl⟩ | exact drew2 _ _ _)⟩

theorem chk_zero : chkO (some 0) = (0, true) := by decide +kernel
theorem fin_le {o : Nat} (h : finO (some o) = true) : leO o 0 = !gtO o 0 := by
  have hn : (Ieee.single.read o).isNaN = false := by
    cases hx : (Ieee.single.read o).isNaN with
    | false => rfl
    | true =>
      have : floatBits .sub .f32 o o = none := nan_l o hx
      simp [finO, oF, this, oO] at h
  have h0 : ∃ s m e, Ieee.single.read 0 = .number s m e := ⟨_, _, _, rfl⟩
  obtain ⟨s, m, e, h0⟩ := h0
  unfold leO gtO Ieee.Format.order
  rw [h0]
  cases hr : Ieee.single.read o with
  | nan a b => rw [hr] at hn; cases hn
  | infinity a => cases a <;> simp [Ieee.Datum.order]
  | number a b c =>
    simp only [Ieee.Datum.order]
    generalize compare (α := Int) _ _ = q
    cases q <;> rfl

set_option maxHeartbeats 800000 in
theorem iBestShare (c o : Nat) (w : World) :
    Calls Try.prog 9 #[.float .f32 c, .float .f32 o] w fun e w' => e = .returned (.tuple #[.float .f32 (RBestShare c o).1, .bool (RBestShare c o).2]) ∧ ∃ q, w' = w.drewN q := by
  have H1 := Lib.hid (iShare c w)
  have H2 := Lib.hid (iFin (some o) o w rfl)
  cases q1 : shareB c with
  | false =>
    rw [q1] at H1
    have HR : Hid (RBestShare c o = (0, false)) := hide (by rw [RBestShare, if_neg (by simp [q1])])
    go_enter Try.func9, Try.ntmps9
    go_wp2_with (go_at_call 31; refine H1.out.mono ?_; rintro e w' ⟨rfl, rfl⟩)
    go_ret2
    exact ⟨by rw [HR.out]; rfl, 0, rfl⟩
  | true =>
    rw [q1] at H1
    cases q2 : finO (some o) with
    | false =>
      rw [q2] at H2
      have HR : Hid (RBestShare c o = (0, false)) := hide (by rw [RBestShare, if_neg (by simp [aboveB, q2])])
      go_enter Try.func9, Try.ntmps9
      go_wp2_with (first | (go_at_call 31; refine H1.out.mono ?_; rintro e w' ⟨rfl, rfl⟩) | (go_at_call 32; refine H2.out.mono ?_; rintro e w' ⟨rfl, q, rfl⟩))
      go_ret2
      exact ⟨by rw [HR.out]; rfl, _, rfl⟩
    | true =>
      rw [q2] at H2
      have hle : (FloatKind.f32.format.order o 0 == some .lt || FloatKind.f32.format.order o 0 == some .eq) = !gtO o 0 := fin_le q2
      cases q4 : gtO o 0 with
      | false =>
        have HR : Hid (RBestShare c o = (0, false)) := hide (by rw [RBestShare, if_neg (by simp [aboveB, q4])])
        rw [q4] at hle
        go_enter Try.func9, Try.ntmps9
        go_wp2_with (first | (go_at_call 31; refine H1.out.mono ?_; rintro e w' ⟨rfl, rfl⟩) | (go_at_call 32; refine H2.out.mono ?_; rintro e w' ⟨rfl, q, rfl⟩))
        go_ret2
        exact ⟨by rw [HR.out]; rfl, _, rfl⟩
      | true =>
        rw [q4] at hle
        have HR : Hid (RBestShare c o = if ltzO (bsO c o) = true then (0, true) else chkO (bsO c o)) := hide (by rw [RBestShare, if_pos (by simp [q1, aboveB, q2, q4])])
        have hlt : ∀ W1 W2 W3 W4 : World, (FloatKind.f32.format.order (fV .quo .f32 (fV .sub .f32 (fV .mul .f32 c o W1) (fV .sub .f32 1065353216 c W2) W3) o W4) 0 == some .lt) = ltzO (bsO c o) := fun W1 W2 W3 W4 => by
          rw [rep_o (rep_bs c o W1 W2 W3 W4) (rep_self .f32 0)]; rfl
        have HN := Lib.hid (fun x W h => iChecked (bsO c o) x W h)
        have HZ := Lib.hid (fun W => iChecked (some 0) 0 W rfl)
        rw [chk_zero] at HZ
        have Hrep : Hid (∀ W1 W2 W3 W4 : World, Rep .f32 (bsO c o) (fV .quo .f32 (fV .sub .f32 (fV .mul .f32 c o W1) (fV .sub .f32 1065353216 c W2) W3) o W4)) := hide (rep_bs c o)
        generalize bsO c o = O at *
        cases q3 : ltzO O with
        | true =>
          simp only [q3] at hlt HR
          go_enter Try.func9, Try.ntmps9
          go_wp2_with (first | (go_at_call 31; refine H1.out.mono ?_; rintro e w' ⟨rfl, rfl⟩) | (go_at_call 32; refine H2.out.mono ?_; rintro e w' ⟨rfl, q, rfl⟩) | (go_at_call 33; refine (HZ.out _).mono ?_; rintro e w' ⟨rfl, q9, rfl⟩))
          go_ret2
          exact ⟨by rw [HR.out]; rfl, by repeat (first | exact ⟨_, rfl⟩ | exact drew2 _ _ _)⟩
        | false =>
          simp only [q3] at hlt HR
          go_enter Try.func9, Try.ntmps9
          go_wp2_with (first | (go_at_call 31; refine H1.out.mono ?_; rintro e w' ⟨rfl, rfl⟩) | (go_at_call 32; refine H2.out.mono ?_; rintro e w' ⟨rfl, q, rfl⟩) | (go_at_call 33; refine (HN.out _ _ (Hrep.out _ _ _ _)).mono ?_; rintro e w' ⟨rfl, q9, rfl⟩))
          go_ret2
          exact ⟨by rw [HR.out]; rfl, by repeat (first | exact ⟨_, rfl⟩ | exact drew2 _ _ _)⟩
end Go.Proofs.Ytjeaiihgedennaa
