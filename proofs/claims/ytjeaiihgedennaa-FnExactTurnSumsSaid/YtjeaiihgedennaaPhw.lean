/- The point of the unit circle, both sides. Conditions: what is stated. -/
import Derived.Test.YtjeaiihgedennaaSine
namespace Go.Proofs.Ytjeaiihgedennaa
open Go.ChangeShapes Go.WideShapes Go.ChangeAt Go.RowKit

theorem nan_conv (W : World) : ∃ b, (convert 26 22 (.float .f64 9221120237041090561)).run Try.prog W = .ok (.float .f32 b) (W.drewN 1) := by
  have hd : FloatKind.f64.decode 9221120237041090561 = .nan false 2251799813685249 := by decide +kernel
  refine ⟨(Question.nanConv .f32 9221120237041090561).cut (W.tape W.drawn (.nanConv .f32 9221120237041090561)), ?_⟩
  obtain ⟨u, hs'⟩ : ∃ u, Try.prog.underlying 26 = some u := ⟨_, Try.underlying26⟩
  cases u <;> simp [convert, run_underlying hs', run_underlying Try.underlying22, Conv.floatToFloat, hd] <;> rfl
theorem sNarrow (x r : Nat) (h : floatToFloatBits .f64 x .f32 = some r) (w : World) :
    Calls Try.prog 56 #[.float .f64 x] w fun e w' => e = .returned (.float .f32 r) ∧ w = w' := by
  have hc := cr h
  clear h
  go_enter Try.func56, Try.ntmps56
  go_wp2
  go_ret
  exact ⟨rfl, rfl⟩
theorem iNaN (w : World) :
    Calls Try.prog 72 #[] w fun e w' => e = .returned (.float .f64 9221120237041090561) ∧ w = w' := by
  have hx := x_from
  go_enter Try.func72, Try.ntmps72
  go_wp2
  go_ret
  exact ⟨rfl, rfl⟩
theorem ret_c (a b c d : Nat) (h1 : a = c) (h2 : b = d) : Ending.returned (.complex .f32 a b) = Ending.returned (.complex .f32 c d) := by rw [h1, h2]

set_option maxRecDepth 10000 in
set_option maxHeartbeats 1600000 in
theorem sPhasor (t : Nat) (ht : Bd .f64 true t 127 (-7)) (w : World) :
    Calls Try.prog 39 #[.float .f64 t] w fun e w' => e = .returned (.complex .f32 (phRe t) (phIm t)) ∧ w = w' := by
  obtain ⟨hp, -⟩ := ph_bd ht
  have HP := hide hp
  have r0 := fr (self0 ht)
  have o5 : FloatKind.f64.format.order 0 0 = some .eq := by decide +kernel
  have o3 := lt_huge ht
  have o4 := gt_nhuge ht
  have i0 := ir (to_int0 ht)
  have f0 : floatOfInt .f64 0 = 0 := by decide +kernel
  have r1 := fr hp.f0
  have n0 := nlt0 ((sF_bd ht (by decide) (by decide)).2)
  change (FloatKind.f64.format.order (qF t 0) 0 == some .lt) = false at n0
  have HS := Lib.hid (sSine _ hp.bf)
  have HC := Lib.hid (sSine _ hp.bg)
  have HC' : Hid (∀ W, Calls Try.prog 62 #[.float .f64 (phG t)] W fun e w' => e = .returned (.float .f64 (phC t)) ∧ W = w') := HC
  have HS' : Hid (∀ W, Calls Try.prog 62 #[.float .f64 (qF t (qN t))] W fun e w' => e = .returned (.float .f64 (phS t)) ∧ W = w') := HS
  have N1 := Lib.hid (sNarrow _ _ hp.cc)
  have N2 := Lib.hid (sNarrow _ _ hp.cs)
  have N3 := Lib.hid (sNarrow _ _ hp.cnc)
  have N4 := Lib.hid (sNarrow _ _ hp.cns)
  have HR : Hid (phRe t = (match qN t with | 1 => cvB (nB (phS t)) | 2 => cvB (nB (phC t)) | 3 => cvB (phS t) | _ => cvB (phC t)) ∧ phIm t = (match qN t with | 1 => cvB (phC t) | 2 => cvB (nB (phS t)) | 3 => cvB (nB (phC t)) | _ => cvB (phS t))) := hide ⟨rfl, rfl⟩
  clear hp ht HS HC
  generalize phRe t = re at *
  generalize phIm t = im at *
  go_enter Try.func39, Try.ntmps39
  go_wp2
  go_loopw [3, 4] (fun t3 t4 wr => ∃ i : Nat, i ≤ qN t ∧ t3 = .float .f64 (qF t i) ∧ t4 = .int .i64 (i : Int) ∧ wr = w) (fun _ t4 _ => qN t - (intOf t4).toNat)
  case atStart => exact ⟨0, Nat.zero_le _, rfl, rfl, rfl⟩
  case round =>
    obtain ⟨i, hi, rfl, rfl, rfl⟩ := hrel
    clear r0 o5 o3 o4 i0 f0 r1 n0
    have hn4 := HP.out.n4
    by_cases hlt : i < qN t
    · have g1 := HP.out.ge i hlt
      have g2 := fr (HP.out.st i hlt)
      have e1 : wrap64 ((i : Int) + 1) = (i : Int) + 1 := IntWalk.wrap64_in _ (by omega)
      go_wp2
      exact ⟨⟨i + 1, hlt, rfl, rfl, trivial⟩, Nat.sub_lt_sub_left hlt (Nat.lt_succ_self i)⟩
    · obtain rfl : i = qN t := by omega
      have g1 := HP.out.lt
      have g2 := fr HP.out.sg
      have g3 := fr HP.out.nc
      have g4 := fr HP.out.ns
      clear HP
      generalize qF t (qN t) = f at *
      generalize phG t = g at *
      generalize phC t = c at *
      generalize phS t = s at *
      generalize nB c = nc at *
      generalize nB s = ns at *
      generalize cvB c = vc at *
      generalize cvB s = vs at *
      generalize cvB nc = vnc at *
      generalize cvB ns = vns at *
      generalize qN t = q at *
      obtain rfl | rfl | rfl | rfl | rfl : q = 0 ∨ q = 1 ∨ q = 2 ∨ q = 3 ∨ q = 4 := by omega
      all_goals
        go_wp2_with (first
          | (go_at_call 62; first | (with_reducible refine (HC'.out _).mono ?_; rintro e w' ⟨rfl, rfl⟩) | (with_reducible refine (HS'.out _).mono ?_; rintro e w' ⟨rfl, rfl⟩))
          | (go_at_call 56; first | (with_reducible refine (N1.out _).mono ?_; rintro e w' ⟨rfl, rfl⟩) | (with_reducible refine (N2.out _).mono ?_; rintro e w' ⟨rfl, rfl⟩) | (with_reducible refine (N3.out _).mono ?_; rintro e w' ⟨rfl, rfl⟩) | (with_reducible refine (N4.out _).mono ?_; rintro e w' ⟨rfl, rfl⟩)))
        go_ret
        exact ⟨ret_c _ _ _ _ HR.out.1.symm HR.out.2.symm, rfl⟩

set_option maxRecDepth 10000 in
set_option maxHeartbeats 1600000 in
theorem iPhasor (t : Nat) (ht : Bd .f64 true t 127 (-7)) (hlt : t < 9223372036854775808) (w : World) :
    Calls Try.prog 48 #[.float .f64 t] w fun e w' => e = .returned (.complex .f32 (phRe t) (phIm t)) ∧ w' = w.drewN 1 := by
  obtain ⟨hp, -⟩ := ph_bd ht
  have HP := hide hp
  obtain ⟨nb, hnb⟩ := nan_conv w
  have r0 := fr (self0 ht)
  have o5 : FloatKind.f64.format.order 0 0 = some .eq := by decide +kernel
  have HN := Lib.hid iNaN
  have HH := Lib.hid (iHuge t hlt ht)
  have HT := Lib.hid (iPart t ht)
  have HT' : Hid (∀ W, Calls Try.prog 74 #[.float .f64 t] W fun e w' => e = .returned (.float .f64 (qF t 0)) ∧ W = w') := HT
  have HS := Lib.hid (iSine _ hp.bf)
  have HC := Lib.hid (iSine _ hp.bg)
  have HC' : Hid (∀ W, Calls Try.prog 75 #[.float .f64 (phG t)] W fun e w' => e = .returned (.float .f64 (phC t)) ∧ W = w') := HC
  have HS' : Hid (∀ W, Calls Try.prog 75 #[.float .f64 (qF t (qN t))] W fun e w' => e = .returned (.float .f64 (phS t)) ∧ W = w') := HS
  have HR : Hid (phRe t = (match qN t with | 1 => cvB (nB (phS t)) | 2 => cvB (nB (phC t)) | 3 => cvB (phS t) | _ => cvB (phC t)) ∧ phIm t = (match qN t with | 1 => cvB (phC t) | 2 => cvB (nB (phS t)) | 3 => cvB (nB (phC t)) | _ => cvB (phS t))) := hide ⟨rfl, rfl⟩
  clear hp ht HS HC HT hlt
  generalize phRe t = re at *
  generalize phIm t = im at *
  go_enter Try.func48, Try.ntmps48
  go_wp2_with (first
    | (go_at_call 72; refine (HN.out _).mono ?_; rintro e w' ⟨rfl, rfl⟩)
    | (go_at_call 73; refine (HH.out _).mono ?_; rintro e w' ⟨rfl, rfl⟩)
    | (go_at_call 74; refine (HT'.out _).mono ?_; rintro e w' ⟨rfl, rfl⟩))
  go_loopw [4, 5] (fun t3 t4 wr => ∃ i : Nat, i ≤ qN t ∧ t3 = .float .f64 (qF t i) ∧ t4 = .int .i64 (i : Int) ∧ wr = w.drewN 1) (fun _ t4 _ => qN t - (intOf t4).toNat)
  case atStart => exact ⟨0, Nat.zero_le _, rfl, rfl, rfl⟩
  case round =>
    obtain ⟨i, hi, rfl, rfl, rfl⟩ := hrel
    clear r0 o5 hnb
    have hn4 := HP.out.n4
    by_cases hlt : i < qN t
    · have g1 := HP.out.ge i hlt
      have g2 := fr (HP.out.st i hlt)
      have e1 : wrap64 ((i : Int) + 1) = (i : Int) + 1 := IntWalk.wrap64_in _ (by omega)
      go_wp2
      exact ⟨⟨i + 1, hlt, rfl, rfl, trivial⟩, Nat.sub_lt_sub_left hlt (Nat.lt_succ_self i)⟩
    · obtain rfl : i = qN t := by omega
      have g1 := HP.out.lt
      have g2 := fr HP.out.sg
      have g3 := fr HP.out.nc
      have g4 := fr HP.out.ns
      have k1 := cr HP.out.cc
      have k2 := cr HP.out.cs
      have k3 := cr HP.out.cnc
      have k4 := cr HP.out.cns
      clear HP
      generalize qF t (qN t) = f at *
      generalize phG t = g at *
      generalize phC t = c at *
      generalize phS t = s at *
      generalize nB c = nc at *
      generalize nB s = ns at *
      generalize cvB c = vc at *
      generalize cvB s = vs at *
      generalize cvB nc = vnc at *
      generalize cvB ns = vns at *
      generalize qN t = q at *
      obtain rfl | rfl | rfl | rfl | rfl : q = 0 ∨ q = 1 ∨ q = 2 ∨ q = 3 ∨ q = 4 := by omega
      all_goals
        go_wp2_with (go_at_call 75; first | (with_reducible refine (HC'.out _).mono ?_; rintro e w' ⟨rfl, rfl⟩) | (with_reducible refine (HS'.out _).mono ?_; rintro e w' ⟨rfl, rfl⟩))
        go_ret
        exact ⟨ret_c _ _ _ _ HR.out.1.symm HR.out.2.symm, rfl⟩
end Go.Proofs.Ytjeaiihgedennaa
