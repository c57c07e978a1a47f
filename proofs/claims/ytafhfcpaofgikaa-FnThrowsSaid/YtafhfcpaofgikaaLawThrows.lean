/- The walk of the law FnThrows. Conditions: none. -/
import Derived.Test.YtafhfcpaofgikaaThrowsP
namespace Go.Proofs.Ytafhfcpaofgikaa
open Go.ChangeShapes Go.WideShapes Go.ChangeAt Go.RowKit

theorem lAtI (A : Option Addr) (n c : Nat) (xs : List Int) (i k : Int) (w : World) (hr : RdU w A n xs) (hi : 0 ≤ i ∧ i ≤ 100) (hk : 2 ≤ k ∧ k ≤ 1000) :
    Calls Try.prog 24 #[.slice A n c, .int .i64 i, .int .i64 k] w fun e w' => (∃ v : Nat, e = .returned (.int .i64 (v : Int)) ∧ (v : Int) < k) ∧ w = w' := by
  obtain ⟨i, rfl⟩ := Int.eq_ofNat_of_zero_le hi.1
  obtain ⟨k, rfl⟩ := Int.eq_ofNat_of_zero_le (show 0 ≤ k by omega)
  exact (lAt A n c i k xs w hr (by omega) (by omega) (by omega)).mono fun e w' h => by
    obtain ⟨⟨v, h1, h2⟩, h3⟩ := h
    exact ⟨⟨v, h1, by omega⟩, h3⟩
theorem own_form3 {w : World} {lo hi : Nat} {v : Value} {xs : List Int} (h : Own w lo hi v xs) (h3 : xs.length = 3) : ∃ g c, v = .slice (some ⟨g, 0, none⟩) 3 c ∧ 3 ≤ c ∧ g < w.heap.size ∧ ∀ j, j < 3 → w.cell? ⟨g, j, none⟩ = some (.int .i64 (xs.getD j 0)) := by
  obtain ⟨A, c, e, hc, _, hr, hf⟩ := h.form
  rw [h3] at e hc hr
  obtain ⟨ad, rfl, hb, _⟩ := hr.int (k := 0) (by omega)
  obtain ⟨e2, _, _⟩ := hf ad rfl
  refine ⟨ad.block, c, by rw [e]; congr 2, hc, hb, fun j hj => ?_⟩
  obtain ⟨ad', e3, _, hc'⟩ := hr.int (k := j) hj
  injection e3 with e3
  subst e3
  rw [e2, Addr.add_lit] at hc'
  simpa using hc'

set_option maxRecDepth 100000 in
set_option maxHeartbeats 3200000 in
theorem lawThrows (A0 A1 : Option Addr) (c0 c1 : Nat) (x0 x1 : List Int) (w : World) (hr1 : RdU w A1 x1.length x1) :
    Calls Try.prog 8 #[.slice A0 x0.length c0, .slice A1 x1.length c1] w fun e w' => e = .returned (.bool true) ∧ Below w.heap.size w w' := by
  have HL := Lib.hid (fun W => lLong A0 A1 x0.length x1.length c0 c1 W)
  by_cases hlong : 1048576 < x0.length ∨ 1048576 < x1.length
  · have e : (decide (1048576 < x0.length) || decide (1048576 < x1.length)) = true := by simpa using hlong
    rw [e] at HL
    clear hlong e hr1
    go_enter Try.func8, Try.ntmps8
    go_wp2_with (go_at_call 23; refine (HL.out _).mono ?_; rintro e w' ⟨rfl, rfl⟩)
    go_ret
    exact ⟨rfl, Below.refl _ _⟩
  have e : (decide (1048576 < x0.length) || decide (1048576 < x1.length)) = false := by simp; omega
  rw [e] at HL
  have HA := Lib.hid (fun W i k (h : RdU W A1 x1.length x1) a b => lAtI A1 x1.length c1 x1 i k W h a b)
  have HR := hide hr1
  clear hlong e hr1
  generalize x0.length = n0 at *
  generalize x1.length = n1 at *
  go_enter Try.func8, Try.ntmps8
  go_wp2_with fail
  refine (HL.out _).mono ?_
  rintro e w' ⟨rfl, rfl⟩
  go_wp2_with fail
  refine (HA.out _ 0 9 HR.out (by omega) (by omega)).mono ?_
  rintro e w' ⟨⟨a, rfl, ha⟩, rfl⟩
  have ha9 : (a : Int) ≤ 8 := by omega
  clear ha
  go_wp2_with fail
  refine (HA.out _ 1 9 HR.out (by omega) (by omega)).mono ?_
  rintro e w' ⟨⟨b, rfl, hb⟩, rfl⟩
  have hb9 : (b : Int) ≤ 8 := by omega
  clear hb
  go_wp2_with fail
  refine (HA.out _ 2 9 HR.out (by omega) (by omega)).mono ?_
  rintro e w' ⟨⟨c, rfl, hc⟩, rfl⟩
  have hc9 : (c : Int) ≤ 8 := by omega
  clear hc
  obtain ⟨es, hE, hes, hE1, hE2, hT, hF⟩ := chkT_t (a := a) (b := b) (c := c) (by omega) (by omega) (by omega)
  have hW := fun i hi => thW_in (a := 1 + (a : Int)) (b := 1 + (b : Int)) (c := 1 + (c : Int)) (by omega) (by omega) (by omega) (i := i) hi
  have HFal := hide hF
  have HE1 := hide hE1
  have HE2 := hide hE2
  have HW := hide hW
  have HT := hide hT
  have HE := hide hE
  have Hes := hide hes
  clear hE hes hE1 hE2 hT hF hW
  go_wp2_with fail
  have hB := Bk.new w 2 (iv (thW (1 + (a : Int)) (1 + (b : Int)) (1 + (c : Int))))
  have b1 : Below w.heap.size w (w.alloc (.cells (iv (thW (1 + (a : Int)) (1 + (b : Int)) (1 + (c : Int)))).toArray 2)) := (Below.refl _ _).alloc (Nat.le_refl _) _
  have hws : (thW (1 + (a : Int)) (1 + (b : Int)) (1 + (c : Int))).length = 9 := rfl
  have hlt := hB.lt
  refine (iEvenThrows _ (thW (1 + (a : Int)) (1 + (b : Int)) (1 + (c : Int))) _ (hB.rv (n := 9) rfl) (by rw [hws]; omega)).mono ?_
  generalize hG : w.alloc (.cells (iv (thW (1 + (a : Int)) (1 + (b : Int)) (1 + (c : Int)))).toArray 2) = w1 at *
  clear hG
  have HV : Hid (∀ ws, thW (1 + (a : Int)) (1 + (b : Int)) (1 + (c : Int)) = ws → True) := hide fun _ _ => trivial
  generalize thW (1 + (a : Int)) (1 + (b : Int)) (1 + (c : Int)) = ws at *
  clear HV
  rw [HE.out]
  rintro e w2 ⟨r0, rfl, F0, b2⟩
  have z1 := b1.size
  have z2 := b2.size
  have a2 := b1.trans (b2.mono z1)
  have hB := hB.below b2 hlt
  obtain ⟨g0, d0, rfl, hd0, hg0, hc0⟩ := own_form3 F0 Hes.out
  have HC0 := hide hc0
  clear hc0 F0
  go_wp2_with fail
  refine (HA.out _ 3 60 (HR.out.below a2) (by omega) (by omega)).mono ?_
  rintro e w' ⟨⟨r, rfl, hr⟩, rfl⟩
  have hr60 : (r : Int) ≤ 59 := by omega
  clear hr
  have hlr : lrOk ws (1 + (r : Int)) = true := by
    unfold lrOk
    rw [HT.out]
    simp only [ne_eq, show ¬ (3 = 0) by omega, not_false_eq_true, decide_true, Bool.true_and]
    exact inB_t (by omega)
  obtain ⟨p, q, s, u, v, t, hl, hl1, hl2⟩ := lr_sum ws r (by omega)
  have hRL : RLearnThrows ws (1 + (r : Int)) = ([(p : Int), (q : Int), (s : Int)], [(u : Int), (v : Int), (t : Int)], true) := by
    rw [RLearnThrows, if_pos hlr, HT.out, show (1 + (r : Int)).toNat - 1 = r by omega, hl]
  have hs1 := sm3 (xs := [(p : Int), (q : Int), (s : Int)]) rfl (by omega)
  have hs2 := sm3 (xs := [(u : Int), (v : Int), (t : Int)]) rfl (by omega)
  have hw1 : (Lit.int .i64 (1 + (r : Int))).wf = true := WalkArith.wf_i64 (by omega)
  have HLi := Lib.hid (fun V W (h : RV W V ws) => iLearnThrows V ws (1 + (r : Int)) W h (by rw [hws]; omega) hw1)
  have HLs := Lib.hid (fun V W (h : RV W V ws) => sLearnThrows V ws (1 + (r : Int)) W h (by rw [hws]; omega) hw1)
  rw [hRL] at HLi HLs
  have HS1 := hide hs1
  have HS2 := hide hs2
  have Hr1 : Hid (((p + q + s : Nat) : Int) = 1 + (r : Int)) := hide (by omega)
  have Hr2 : Hid (((u + v + t : Nat) : Int) = 1 + (r : Int)) := hide (by omega)
  have hml : ([(p : Int), (q : Int), (s : Int)] : List Int).length = 3 := rfl
  have hmu : ([(u : Int), (v : Int), (t : Int)] : List Int).length = 3 := rfl
  clear hlr hl hl1 hl2 hRL hs1 hs2 hw1
  generalize ([(p : Int), (q : Int), (s : Int)] : List Int) = ms at *
  generalize ([(u : Int), (v : Int), (t : Int)] : List Int) = os at *
  go_wp2_with fail
  refine (HLi.out _ _ (hB.rv hws)).mono ?_
  rintro e w3 ⟨m0, m1, hTw, rfl, b3⟩
  have z3 := b3.size
  have a3 := a2.trans (b3.mono a2.size)
  have hB := hB.below b3 (by omega)
  have HC3 : Hid (∀ j, j < 3 → w3.cell? ⟨g0, j, none⟩ = some (.int .i64 (es.getD j 0))) := hide fun j hj => (b3.cell (p := ⟨g0, j, none⟩) hg0).trans (HC0.out j hj)
  obtain ⟨ta, tb, tc, td, t1, t2, t3, t4, _, T1, T2⟩ := hTw
  have hv1 := T1.rv
  have hv2 := T2.rv
  clear T1 T2 HC0 t1 t2 t3 t4
  go_wp2_with fail
  refine (HLs.out _ _ (hB.rv hws)).mono ?_
  rintro e w4 ⟨n0', n1', hTw, rfl, b4⟩
  have z4 := b4.size
  have a4 := a3.trans (b4.mono a3.size)
  have hB := hB.below b4 (by omega)
  have HC4 : Hid (∀ j, j < 3 → w4.cell? ⟨g0, j, none⟩ = some (.int .i64 (es.getD j 0))) := hide fun j hj => (b4.cell (p := ⟨g0, j, none⟩) (show g0 < w3.heap.size by omega)).trans (HC3.out j hj)
  obtain ⟨ta, tb, tc, td, t1, t2, t3, t4, _, T1, T2⟩ := hTw
  have hu1 := T1.rv
  have hu2 := T2.rv
  have hv1 := hv1.below b4
  have hv2 := hv2.below b4
  clear T1 T2 HC3 t1 t2 t3 t4
  obtain ⟨A1', k1, rfl, R1, _⟩ := hv1
  obtain ⟨A2', k2, rfl, R2, _⟩ := hv2
  obtain ⟨A3', k3, rfl, R3, _⟩ := hu1
  obtain ⟨A4', k4, rfl, R4, _⟩ := hu2
  rw [hml] at R1 R3
  rw [hmu] at R2 R4
  simp only [hml, hmu]
  go_wp2_with fail
  refine (lInts _ _ 3 _ _ ms _ R1 R3 (by omega)).mono ?_
  rintro e w5 ⟨rfl, b5⟩
  have b5 := below_of_drew b5
  have z5 := b5.size
  have a5 := a4.trans (b5.mono a4.size)
  go_wp2_with fail
  refine (lInts _ _ 3 _ _ os _ (R2.below b5) (R4.below b5) (by omega)).mono ?_
  rintro e w6 ⟨rfl, b6⟩
  have b6 := below_of_drew b6
  have z6 := b6.size
  have a6 := a5.trans (b6.mono a5.size)
  have b46 := b5.trans (b6.mono z5)
  go_wp2_with fail
  refine (lSum _ 3 _ ms _ _ (R1.below b46) (by omega) HS1.out.1 HS1.out.2).mono ?_
  rintro e w' ⟨rfl, rfl⟩
  rw [Hr1.out]
  go_wp2_with fail
  refine (lSum _ 3 _ os _ _ (R2.below b46) (by omega) HS2.out.1 HS2.out.2).mono ?_
  rintro e w' ⟨rfl, rfl⟩
  rw [Hr2.out]
  have hB := hB.below b46 (by omega)
  have HC6 : Hid (∀ j, j < 3 → w6.cell? ⟨g0, j, none⟩ = some (.int .i64 (es.getD j 0))) := hide fun j hj => (b46.cell (p := ⟨g0, j, none⟩) (show g0 < w4.heap.size by omega)).trans (HC4.out j hj)
  have HD6 : Hid (∀ j, j < 9 → w6.cell? ⟨w.heap.size, j, none⟩ = some (.int .i64 (ws.getD j 0))) := hide fun j hj => hB.int (by rw [hws]; exact hj)
  have A6 := hide a6
  clear R1 R2 R3 R4 hB HC4 HLi HLs HS1 HS2 Hr1 Hr2 b5 b6 b46 a2 a3 a4 a5 a6 b1 b2 b3 b4 hml hmu
  go_wp2
  go_loopw [18] (fun i wr => ∃ k : Nat, k ≤ 3 ∧ i = .int .i64 k ∧ Hid (∃ q, wr = w6.drewN q)) (fun i _ => 3 - (intOf i).toNat)
  case atStart => exact ⟨0, Nat.zero_le _, rfl, hide ⟨0, rfl⟩⟩
  case round =>
    obtain ⟨k, hk, rfl, hq⟩ := hrel
    obtain ⟨q, rfl⟩ := hq.out
    by_cases hlt : k < 3
    · have c1 := HC6.out k hlt
      have c2 := HC6.out 0 (by omega)
      have c3 := HC6.out 1 (by omega)
      have c4 := HC6.out 2 (by omega)
      have c5 := HD6.out k (by omega)
      have c6 := HD6.out (3 + k) (by omega)
      have c7 := HD6.out (6 + k) (by omega)
      have y1 := HE1.out k hlt
      have y2 := HE1.out 0 (by omega)
      have y3 := HE1.out 1 (by omega)
      have y4 := HE1.out 2 (by omega)
      have y5 := HW.out k (by omega)
      have y6 := HW.out (3 + k) (by omega)
      have y7 := HW.out (6 + k) (by omega)
      have yE := HE2.out k hlt
      generalize es.getD k 0 = f1 at *
      generalize es.getD 0 0 = f2 at *
      generalize es.getD 1 0 = f3 at *
      generalize es.getD 2 0 = f4 at *
      generalize ws.getD k 0 = f5 at *
      generalize ws.getD (3 + k) 0 = f6 at *
      generalize ws.getD (6 + k) 0 = f7 at *
      have n1 : -81 ≤ f2 * f5 ∧ f2 * f5 ≤ 81 := ⟨by have := Int.mul_le_mul_of_nonneg_left y5.1 (show 0 ≤ f2 by omega); omega, by have := Int.mul_le_mul_of_nonneg_left y5.2 (show 0 ≤ f2 by omega); omega⟩
      have n2 : -81 ≤ f3 * f6 ∧ f3 * f6 ≤ 81 := ⟨by have := Int.mul_le_mul_of_nonneg_left y6.1 (show 0 ≤ f3 by omega); omega, by have := Int.mul_le_mul_of_nonneg_left y6.2 (show 0 ≤ f3 by omega); omega⟩
      have n3 : -81 ≤ f4 * f7 ∧ f4 * f7 ≤ 81 := ⟨by have := Int.mul_le_mul_of_nonneg_left y7.1 (show 0 ≤ f4 by omega); omega, by have := Int.mul_le_mul_of_nonneg_left y7.2 (show 0 ≤ f4 by omega); omega⟩
      have p1 : IntKind.i64.wrap (f2 * f5) = f2 * f5 := IntWalk.i64_in _ (by omega)
      have p2 : IntKind.i64.wrap (f3 * f6) = f3 * f6 := IntWalk.i64_in _ (by omega)
      have p3 : IntKind.i64.wrap (f4 * f7) = f4 * f7 := IntWalk.i64_in _ (by omega)
      have p4 : IntKind.i64.wrap (f2 * f5 + f3 * f6) = f2 * f5 + f3 * f6 := IntWalk.i64_in _ (by omega)
      have p5 : IntKind.i64.wrap (f2 * f5 + f3 * f6 + f4 * f7) = 0 := by rw [yE]; exact IntWalk.i64_in _ (by omega)
      have p6 : IntKind.i64.wrap (3 + (k : Int)) = 3 + (k : Int) := IntWalk.i64_in _ (by omega)
      have p7 : IntKind.i64.wrap (6 + (k : Int)) = 6 + (k : Int) := IntWalk.i64_in _ (by omega)
      have p8 : (3 + (k : Int)).toNat = 3 + k := by omega
      have p9 : (6 + (k : Int)).toNat = 6 + k := by omega
      have i1 : (0 : Int) ≤ 3 + (k : Int) := by omega
      have i2 : (0 : Int) ≤ 6 + (k : Int) := by omega
      have i3 : 3 + (k : Int) < 9 := by omega
      have i4 : 6 + (k : Int) < 9 := by omega
      have i5 : (k : Int) < 9 := by omega
      have i6 : (k : Int) < 3 := by omega
      have d1 : decide (f1 < 1) = false := decide_eq_false (by omega)
      clear yE y1 y2 y3 y4 y5 y6 y7 n1 n2 n3
      go_wp2
      go_quiet (fail)
      go_wp2
      go_roundw
      case rel => exact ⟨k + 1, by omega, by go_num, hide ⟨_, rfl⟩⟩
      case measure => simp [intOf]; omega
    · have hk3 : k = 3 := by omega
      subst hk3
      clear HC6 HD6 HE1 HE2 HW HT HE
      go_wp2_with fail
      have hB2 := Bk.new (w6.drewN q) 2 (iv (thV (1 + (a : Int)) (1 + (b : Int)) (1 + (c : Int))))
      refine (iEvenThrows _ (thV (1 + (a : Int)) (1 + (b : Int)) (1 + (c : Int))) _ (hB2.rv (n := 9) rfl) (by show 9 ≤ 1048576; omega)).mono ?_
      rw [HFal.out]
      rintro e w9 ⟨r9, rfl, _, b9⟩
      have b10 := (A6.out.trans ((below_drewN (Below.refl w6.heap.size w6) q).mono A6.out.size))
      have b11 := b10.alloc b10.size (.cells (iv (thV (1 + (a : Int)) (1 + (b : Int)) (1 + (c : Int)))).toArray 2)
      have b12 := b11.trans (b9.mono b11.size)
      clear b9 b10 b11 hB2
      go_wp2
      go_ret
      exact ⟨rfl, b12⟩
end Go.Proofs.Ytafhfcpaofgikaa
