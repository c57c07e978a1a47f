/- The walk of the law FnExactBeats. Conditions: none. Printed by gen_lawdie2.py. -/
import Derived.Test.YthpboedpoipkcaaBeats
import Derived.Test.YthpboedpoipkcaaLawValidDie
import Derived.Deep.RegionHeld3
namespace Go.Proofs.Ythpboedpoipkcaa
open Go.ChangeShapes Go.WideShapes Go.ChangeAt Go.RowKit

set_option maxRecDepth 100000 in
set_option maxHeartbeats 3200000 in
theorem lawBeats (A0 : Option Addr) (c0 : Nat) (x0 : List Int) (A1 : Option Addr) (c1 : Nat) (x1 : List Int) (w : World) (hr0 : Rd w A0 x0.length (iv x0)) (hc0 : x0.length ≤ c0) (hb0 : x0.length ≤ 9223372036854775807)
    (hr1 : Rd w A1 x1.length (iv x1)) (hc1 : x1.length ≤ c1) (hb1 : x1.length ≤ 9223372036854775807) :
    Calls Try.prog 6 #[.agg #[.slice A0 x0.length c0], .agg #[.slice A1 x1.length c1]] w fun e w' => e = .returned (.bool true) ∧ Below w.heap.size w w' := by
  have HZ := Lib.hid (fun W => szD A0 x0.length c0 1048576 W hb0 (Nat.le_refl _))
  obtain ⟨k1, k2⟩ := two_box w 24 (.slice A0 x0.length c0) (.slice A1 x1.length c1)
  have hbW := two_below w (.cells #[.slice A0 x0.length c0] 24) (.cells #[.slice A1 x1.length c1] 24)
  have hz : w.heap.size + 1 < ((w.alloc (.cells #[.slice A0 x0.length c0] 24)).alloc (.cells #[.slice A1 x1.length c1] 24)).heap.size := by simp
  by_cases hn0 : 1048576 < x0.length
  · simp only [if_pos hn0] at HZ
    clear hr0 hr1
    generalize x0.length = n at *
    generalize x1.length = m at *
    go_enter Try.func6, Try.ntmps6
    go_wp2_with (go_at_call 15; refine (HZ.out _).mono ?_; rintro e w1 ⟨rfl, hb1⟩)
    go_ret
    exact ⟨rfl, hbW.trans (hb1.mono hbW.size)⟩
  simp only [if_neg hn0] at HZ
  have HZ2 := Lib.hid (fun W => szD A1 x1.length c1 (1048576 - x0.length) W hb1 (by omega))
  rw [show ((1048576 - x0.length : Nat) : Int) = 1048576 - (x0.length : Int) from by omega] at HZ2
  by_cases hn1 : 1048576 - x0.length < x1.length
  · simp only [if_pos hn1] at HZ2
    clear hr0 hr1
    generalize x0.length = n at *
    generalize x1.length = m at *
    go_enter Try.func6, Try.ntmps6
    go_wp2_with fail
    refine (HZ.out _).mono ?_
    rintro e w1 ⟨rfl, hb1⟩
    have k2' := (hb1.cell (p := ⟨w.heap.size + 1, 0, none⟩) hz).trans k2
    go_wp2_with fail
    refine (HZ2.out _).mono ?_
    rintro e w2 ⟨rfl, hb2⟩
    go_wp2
    go_ret
    exact ⟨rfl, hbW.trans ((hb1.trans (hb2.mono hb1.size)).mono hbW.size)⟩
  · simp only [if_neg hn1] at HZ2
    have hm0 : x0.length ≤ 1048576 := by omega
    have hm1 : x1.length ≤ 1048576 := by omega
    have Hto0 := Lib.hid (fun W h => toD (.slice A0 x0.length c0) x0 W h hm0)
    have Hto1 := Lib.hid (fun W h => toD (.slice A1 x1.length c1) x1 W h hm1)
    have Hs := Lib.hid (fun v u W h h2 => sBeatsD v u x0 x1 W h h2 hm0 hm1)
    have Hi := Lib.hid (fun v u W h h2 => iBeatsD v u x0 x1 W h h2 hm0 hm1)
    have Heq0 := Lib.hid (fun v u W h h2 => eqD v u x0 W h h2 hm0)
    have Heq1 := Lib.hid (fun v u W h h2 => eqD v u x1 W h h2 hm1)
    have HV0 := hide (RV.mk hr0 hc0)
    have HV1 := hide (RV.mk hr1 hc1)
    generalize (((RBeats x0 x1).1.1 : Nat) : Int) = R1 at *
    generalize (((RBeats x0 x1).1.2.1 : Nat) : Int) = R2 at *
    generalize (((RBeats x0 x1).1.2.2 : Nat) : Int) = R3 at *
    generalize (RBeats x0 x1).2 = R4 at *
    clear hr0 hr1
    obtain ⟨n, HL0⟩ : ∃ n, Hid (x0.length = n) := ⟨_, hide rfl⟩
    obtain ⟨m, HL1⟩ : ∃ m, Hid (x1.length = m) := ⟨_, hide rfl⟩
    rw [HL0.out] at HZ HZ2 hm0 HV0 hc0 hb0 hn0 hn1 Hto0 k1 k2 hbW hz ⊢
    rw [HL1.out] at HZ2 hm1 HV1 hc1 hb1 hn1 Hto1 k1 k2 hbW hz ⊢
    go_enter Try.func6, Try.ntmps6
    go_wp2_with fail
    refine (HZ.out _).mono ?_
    rintro e w1 ⟨rfl, hb1⟩
    have d1 := hbW.trans (hb1.mono hbW.size)
    have j1 := (hb1.cell (p := ⟨w.heap.size, 0, none⟩) (Nat.lt_of_succ_lt hz)).trans k1
    have j2 := (hb1.cell (p := ⟨w.heap.size + 1, 0, none⟩) hz).trans k2
    have z1 := Nat.lt_of_lt_of_le hz hb1.size
    clear k1 k2 hbW hz hb1
    go_wp2_with fail
    refine (HZ2.out _).mono ?_
    rintro e w2 ⟨rfl, hb2⟩
    have d2 := d1.trans (hb2.mono d1.size)
    have k1 := (hb2.cell (p := ⟨w.heap.size, 0, none⟩) (Nat.lt_of_succ_lt z1)).trans j1
    have k2 := (hb2.cell (p := ⟨w.heap.size + 1, 0, none⟩) z1).trans j2
    have z2 := Nat.lt_of_lt_of_le z1 hb2.size
    have z2' := Nat.lt_of_succ_lt z2
    clear j1 j2 d1 z1 hb2
    have HD2 := hide (show Below w.heap.size w w2.drew from below_drewN d2 1)
    go_wp2_with fail
    go_region_held3 (fun w' => w'.cell? ⟨w.heap.size, 0, none⟩ = some (.slice A0 n c0) ∧ w'.cell? ⟨w.heap.size + 1, 0, none⟩ = some (.slice A1 m c1))
      (first | exact ⟨k1, k2⟩ | go_keep | (go_split_ands; refine ⟨?_, ?_⟩ <;> (rw [hbk.cell (by show _ < _; first | exact z2' | exact z2 | exact Nat.lt_of_lt_of_le z2' HB0.out.size | exact Nat.lt_of_lt_of_le z2 HB0.out.size | exact Nat.lt_of_lt_of_le z2' HB1.out.size | exact Nat.lt_of_lt_of_le z2 HB1.out.size | exact Nat.lt_of_lt_of_le (Nat.lt_of_lt_of_le z2' HB0.out.size) HB1.out.size | exact Nat.lt_of_lt_of_le (Nat.lt_of_lt_of_le z2 HB0.out.size) HB1.out.size | exact Nat.lt_of_lt_of_le (Nat.lt_of_lt_of_le z2' HB1.out.size) HB0.out.size | exact Nat.lt_of_lt_of_le (Nat.lt_of_lt_of_le z2 HB1.out.size) HB0.out.size)]; assumption)))
      ((first
        | (go_at_call 17; first
            | ((with_reducible refine (Hto0.out _ ?h0).mono ?_); (case h0 => first | exact HV0.out.below HD2.out | exact HV0.out.below (HD2.out.trans (HB1.out.mono HD2.out.size))); rintro e wa ⟨r0, rfl, hO0, hbk⟩; have HB0 := hide hbk)
            | ((with_reducible refine (Hto1.out _ ?h1).mono ?_); (case h1 => first | exact HV1.out.below HD2.out | exact HV1.out.below (HD2.out.trans (HB0.out.mono HD2.out.size))); rintro e wb ⟨r1, rfl, hO1, hbk⟩; have HB1 := hide hbk))
        | (go_at_call 26; refine (Hs.out _ _ _ ?g0 ?g1).mono ?_; (case g0 => first | exact hO0.rv | exact hO0.rv.below HB1.out); (case g1 => first | exact hO1.rv | exact hO1.rv.below HB0.out); rintro e wc ⟨rfl, hbk⟩)))
    all_goals
      have HX : Hid (Below w.heap.size w wc) := hide (by first | exact (HD2.out.trans ((HB0.out.trans (HB1.out.mono HB0.out.size)).mono HD2.out.size)).trans (hbk.mono ((HD2.out.trans ((HB0.out.trans (HB1.out.mono HB0.out.size)).mono HD2.out.size)).size)) | exact (HD2.out.trans ((HB1.out.trans (HB0.out.mono HB1.out.size)).mono HD2.out.size)).trans (hbk.mono ((HD2.out.trans ((HB1.out.trans (HB0.out.mono HB1.out.size)).mono HD2.out.size)).size)))
      have z3 : w.heap.size + 1 < wc.heap.size := by first | exact Nat.lt_of_lt_of_le (Nat.lt_of_lt_of_le (Nat.lt_of_lt_of_le z2 HB0.out.size) HB1.out.size) hbk.size | exact Nat.lt_of_lt_of_le (Nat.lt_of_lt_of_le (Nat.lt_of_lt_of_le z2 HB1.out.size) HB0.out.size) hbk.size
      obtain ⟨k1c, k2c⟩ : wc.cell? ⟨w.heap.size, 0, none⟩ = some (.slice A0 n c0) ∧ wc.cell? ⟨w.heap.size + 1, 0, none⟩ = some (.slice A1 m c1) := by assumption
      clear HD2 k1 k2 d2 z2 z2' hbk HB0 HB1 hO0 hO1
      go_wp2_with fail
      refine (Hto0.out _ (HV0.out.below HX.out)).mono ?_
      rintro e w4 ⟨r4, rfl, hO4, hb4⟩
      have d4 := HX.out.trans (hb4.mono HX.out.size)
      have k1d := (hb4.cell (p := ⟨w.heap.size, 0, none⟩) (Nat.lt_of_succ_lt z3)).trans k1c
      have k2d := (hb4.cell (p := ⟨w.heap.size + 1, 0, none⟩) z3).trans k2c
      have z4 := Nat.lt_of_lt_of_le z3 hb4.size
      obtain ⟨A4, c4, hx4, -, -, -, -⟩ := hO4.form
      rw [HL0.out] at hx4
      subst hx4
      have rv4 := hO4.rv
      clear k1c k2c HX hb4 hO4 z3
      have d5 := d4.alloc d4.size (.cells #[.slice A4 n c4] 27)
      have rv5 := rv4.below ((Below.refl _ _).alloc (Nat.le_refl _) (.cells #[.slice A4 n c4] 27))
      have k1e := (World.cell?_alloc_lt w4 (.cells #[.slice A4 n c4] 27) ⟨w.heap.size, 0, none⟩ (Nat.lt_of_succ_lt z4)).trans k1d
      have k2e := (World.cell?_alloc_lt w4 (.cells #[.slice A4 n c4] 27) ⟨w.heap.size + 1, 0, none⟩ z4).trans k2d
      have j4 : (w4.alloc (.cells #[.slice A4 n c4] 27)).cell? ⟨w4.heap.size, 0, none⟩ = some (.slice A4 n c4) := by
        rw [World.cell?_alloc_at _ _ _ _ rfl]; rfl
      have z5 : w4.heap.size < (w4.alloc (.cells #[.slice A4 n c4] 27)).heap.size := by simp
      clear rv4 d4 k1d k2d
      go_wp2_with fail
      refine (Hto1.out _ (HV1.out.below d5)).mono ?_
      rintro e w6 ⟨r6, rfl, hO6, hb6⟩
      have d6 := d5.trans (hb6.mono d5.size)
      have k1f := (hb6.cell (p := ⟨w.heap.size, 0, none⟩) (Nat.lt_trans (Nat.lt_of_succ_lt z4) z5)).trans k1e
      have k2f := (hb6.cell (p := ⟨w.heap.size + 1, 0, none⟩) (Nat.lt_trans z4 z5)).trans k2e
      have j6 := (hb6.cell (p := ⟨w4.heap.size, 0, none⟩) z5).trans j4
      have z6 := Nat.lt_of_lt_of_le z5 hb6.size
      have rv6 := rv5.below hb6
      obtain ⟨A6, c6, hx6, -, -, -, -⟩ := hO6.form
      rw [HL1.out] at hx6
      subst hx6
      have su6 := hO6.rv
      clear k1e k2e j4 z5 rv5 d5 hb6 hO6
      have d7 := d6.alloc d6.size (.cells #[.slice A6 m c6] 27)
      have rv7 := rv6.below ((Below.refl _ _).alloc (Nat.le_refl _) (.cells #[.slice A6 m c6] 27))
      have su7 := su6.below ((Below.refl _ _).alloc (Nat.le_refl _) (.cells #[.slice A6 m c6] 27))
      have k1g := (World.cell?_alloc_lt w6 (.cells #[.slice A6 m c6] 27) ⟨w.heap.size, 0, none⟩ (Nat.lt_trans (Nat.lt_of_succ_lt z4) z6)).trans k1f
      have k2g := (World.cell?_alloc_lt w6 (.cells #[.slice A6 m c6] 27) ⟨w.heap.size + 1, 0, none⟩ (Nat.lt_trans z4 z6)).trans k2f
      have j7 := (World.cell?_alloc_lt w6 (.cells #[.slice A6 m c6] 27) ⟨w4.heap.size, 0, none⟩ z6).trans j6
      have i7 : (w6.alloc (.cells #[.slice A6 m c6] 27)).cell? ⟨w6.heap.size, 0, none⟩ = some (.slice A6 m c6) := by
        rw [World.cell?_alloc_at _ _ _ _ rfl]; rfl
      have z7 : w6.heap.size < (w6.alloc (.cells #[.slice A6 m c6] 27)).heap.size := by simp
      clear rv6 su6 d6 k1f k2f j6
      go_wp2_with fail
      refine (Hi.out _ _ _ rv7 su7).mono ?_
      rintro e w8 ⟨rfl, hb8⟩
      have d8 := d7.trans (hb8.mono d7.size)
      have zz4 : w4.heap.size < w8.heap.size := Nat.lt_trans z6 (Nat.lt_of_lt_of_le z7 hb8.size)
      have zz6 : w6.heap.size < w8.heap.size := Nat.lt_of_lt_of_le z7 hb8.size
      have zz1 : w.heap.size + 1 < w8.heap.size := Nat.lt_trans z4 zz4
      have zz0 : w.heap.size < w8.heap.size := Nat.lt_of_succ_lt zz1
      have k1h := (hb8.cell (p := ⟨w.heap.size, 0, none⟩) (Nat.lt_trans (Nat.lt_trans (Nat.lt_of_succ_lt z4) z6) z7)).trans k1g
      have k2h := (hb8.cell (p := ⟨w.heap.size + 1, 0, none⟩) (Nat.lt_trans (Nat.lt_trans z4 z6) z7)).trans k2g
      have j8 := (hb8.cell (p := ⟨w4.heap.size, 0, none⟩) (Nat.lt_trans z6 z7)).trans j7
      have i8 := (hb8.cell (p := ⟨w6.heap.size, 0, none⟩) z7).trans i7
      have HRV := hide (show RV w8.drew (.slice A4 n c4) x0 from (rv7.below hb8).drewN 1)
      have HSU := hide (show RV w8.drew (.slice A6 m c6) x1 from (su7.below hb8).drewN 1)
      have HD := hide (show Below w.heap.size w w8.drew from below_drewN d8 1)
      clear k1g k2g j7 i7 rv7 su7 d7 d8 hb8 z4 z6 z7
      go_wp2_with fail
      go_region_held3 (fun w' => w'.cell? ⟨w4.heap.size, 0, none⟩ = some (.slice A4 n c4) ∧ w'.cell? ⟨w.heap.size, 0, none⟩ = some (.slice A0 n c0) ∧ w'.cell? ⟨w6.heap.size, 0, none⟩ = some (.slice A6 m c6) ∧ w'.cell? ⟨w.heap.size + 1, 0, none⟩ = some (.slice A1 m c1))
        (first | exact ⟨j8, k1h, i8, k2h⟩ | go_keep | (go_split_ands; refine ⟨?_, ?_, ?_, ?_⟩ <;> (rw [hbk.cell (by show _ < _; first | exact zz4 | exact zz0 | exact zz6 | exact zz1 | exact Nat.lt_of_lt_of_le zz4 HBa.out.size | exact Nat.lt_of_lt_of_le zz0 HBa.out.size | exact Nat.lt_of_lt_of_le zz6 HBa.out.size | exact Nat.lt_of_lt_of_le zz1 HBa.out.size)]; assumption)))
        ((first | (go_at_call 17; refine (Hto0.out _ (HV0.out.below HD.out)).mono ?_; rintro e wa ⟨ra, rfl, hOa, hbk⟩; have HBa := hide hbk) | (go_at_call 19; refine (Heq0.out _ _ _ (HRV.out.below HBa.out) hOa.rv).mono ?_; rintro e wb ⟨rfl, hbk⟩)))
      obtain ⟨-, -, i9, k9⟩ : wb.cell? ⟨w4.heap.size, 0, none⟩ = some (.slice A4 n c4) ∧ wb.cell? ⟨w.heap.size, 0, none⟩ = some (.slice A0 n c0) ∧ wb.cell? ⟨w6.heap.size, 0, none⟩ = some (.slice A6 m c6) ∧ wb.cell? ⟨w.heap.size + 1, 0, none⟩ = some (.slice A1 m c1) := by assumption
      have hab := HBa.out.trans (hbk.mono HBa.out.size)
      have HSU2 := hide (show RV wb.drew (.slice A6 m c6) x1 from (HSU.out.below hab).drewN 1)
      have d9 := HD.out.trans (hab.mono HD.out.size)
      have HD9 := hide (show Below w.heap.size w wb.drew from below_drewN d9 1)
      have zb6 : w6.heap.size < wb.heap.size := Nat.lt_of_lt_of_le zz6 hab.size
      have zb1 : w.heap.size + 1 < wb.heap.size := Nat.lt_of_lt_of_le zz1 hab.size
      clear hbk HBa hab d9 HRV HSU HD k1h k2h j8 i8 hOa zz0 zz1 zz4 zz6
      go_wp2_with fail
      go_region_held3 (fun w' => w'.cell? ⟨w6.heap.size, 0, none⟩ = some (.slice A6 m c6) ∧ w'.cell? ⟨w.heap.size + 1, 0, none⟩ = some (.slice A1 m c1))
        (first | exact ⟨i9, k9⟩ | go_keep | (go_split_ands; refine ⟨?_, ?_⟩ <;> (rw [hbk.cell (by show _ < _; first | exact zb6 | exact zb1 | exact Nat.lt_of_lt_of_le zb6 HBa.out.size | exact Nat.lt_of_lt_of_le zb1 HBa.out.size)]; assumption)))
        ((first | (go_at_call 17; refine (Hto1.out _ (HV1.out.below HD9.out)).mono ?_; rintro e wp ⟨rp, rfl, hOp, hbk⟩; have HBa := hide hbk) | (go_at_call 19; refine (Heq1.out _ _ _ (HSU2.out.below HBa.out) hOp.rv).mono ?_; rintro e wq ⟨rfl, hbk⟩)))
      have hab := HBa.out.trans (hbk.mono HBa.out.size)
      have dq := HD9.out.trans (hab.mono HD9.out.size)
      go_wp2
      all_goals go_ret
      all_goals exact ⟨rfl, dq⟩
end Go.Proofs.Ythpboedpoipkcaa
