/- The walk of the law FnExactValidDie. Conditions: none. -/
import Derived.Test.YthpboedpoipkcaaDie2
import Derived.Deep.RegionHeld3
namespace Go.Proofs.Ythpboedpoipkcaa
open Go.ChangeShapes Go.WideShapes Go.ChangeAt Go.RowKit

theorem bcell1 {W w1 : World} {B b : Nat} {v : Value} (hb : Below B W w1) (h : W.cell? ⟨b, 0, none⟩ = some v) (hlt : b < B) : w1.cell? ⟨b, 0, none⟩ = some v := (hb.cell (p := ⟨b, 0, none⟩) hlt).trans h

set_option maxRecDepth 100000 in
set_option maxHeartbeats 1600000 in
theorem lawValidDie (A0 : Option Addr) (c0 : Nat) (x0 : List Int) (w : World) (hr0 : Rd w A0 x0.length (iv x0)) (hc0 : x0.length ≤ c0) (hb0 : x0.length ≤ 9223372036854775807) :
    Calls Try.prog 3 #[.agg #[.slice A0 x0.length c0]] w fun e w' => e = .returned (.bool true) ∧ Below w.heap.size w w' := by
  have HZ := Lib.hid (fun W => szD A0 x0.length c0 1048576 W hb0 (Nat.le_refl _))
  by_cases hn0 : 1048576 < x0.length
  · simp only [if_pos hn0] at HZ
    clear hr0
    generalize x0.length = n at *
    go_enter Try.func3, Try.ntmps3
    go_wp2_with (go_at_call 15; refine (HZ.out _).mono ?_; rintro e w1 ⟨rfl, hb1⟩)
    go_ret
    exact ⟨rfl, ((Below.refl _ _).alloc (Nat.le_refl _) _).trans (hb1.mono (by simp))⟩
  · simp only [if_neg hn0] at HZ
    have hm0 : x0.length ≤ 1048576 := by omega
    have hv := RV.mk hr0 hc0
    have Hto := Lib.hid (fun v W h => toD v x0 W h hm0)
    have Hs := Lib.hid (fun v W h => sValidD v x0 W h hm0)
    have Hi := Lib.hid (fun v W h => iValidD v x0 W h hm0)
    have Heq := Lib.hid (fun v u W h1 h2 => eqD v u x0 W h1 h2 hm0)
    have HV := hide hv
    generalize dieB x0 = R at *
    clear hr0 hv
    obtain ⟨n, HL⟩ : ∃ n, Hid (x0.length = n) := ⟨_, hide rfl⟩
    rw [HL.out] at HZ hm0 HV hc0 hb0 hn0 ⊢
    have k0 : (w.alloc (.cells #[.slice A0 n c0] 24)).cell? ⟨w.heap.size, 0, none⟩ = some (.slice A0 n c0) := by
      rw [World.cell?_alloc_at _ _ _ _ rfl]; rfl
    have d0 : Below w.heap.size w (w.alloc (.cells #[.slice A0 n c0] 24)) := (Below.refl _ _).alloc (Nat.le_refl _) _
    have z0 : w.heap.size < (w.alloc (.cells #[.slice A0 n c0] 24)).heap.size := by simp
    go_enter Try.func3, Try.ntmps3
    go_wp2_with fail
    refine (HZ.out _).mono ?_
    rintro e w1 ⟨rfl, hb1⟩
    have d1 := d0.trans (hb1.mono (Nat.le_of_lt z0))
    have k1 := bcell1 hb1 k0 z0
    have z1 : w.heap.size < w1.heap.size := Nat.lt_of_lt_of_le z0 hb1.size
    clear k0 d0 z0 hb1
    go_wp2_with fail
    refine (Hto.out _ _ (HV.out.below d1)).mono ?_
    rintro e w2 ⟨r2, rfl, hO2, hb2⟩
    have d2 := d1.trans (hb2.mono d1.size)
    have k2 := bcell1 hb2 k1 z1
    have z2 : w.heap.size < w2.heap.size := Nat.lt_of_lt_of_le z1 hb2.size
    clear k1 d1 z1 hb2
    go_wp2_with fail
    refine (Hs.out _ _ hO2.rv).mono ?_
    rintro e w3 ⟨rfl, hb3⟩
    have d3 := d2.trans (hb3.mono d2.size)
    have k3 := bcell1 hb3 k2 z2
    have z3 : w.heap.size < w3.heap.size := Nat.lt_of_lt_of_le z2 hb3.size
    clear k2 d2 z2 hb3 hO2
    go_wp2_with fail
    refine (Hto.out _ _ (HV.out.below d3)).mono ?_
    rintro e w4 ⟨x4, rfl, hO4, hb4⟩
    have d4 := d3.trans (hb4.mono d3.size)
    have k4 := bcell1 hb4 k3 z3
    have z4 : w.heap.size < w4.heap.size := Nat.lt_of_lt_of_le z3 hb4.size
    clear k3 d3 z3 hb4
    obtain ⟨A4, c4, hx4, -, -, -, -⟩ := hO4.form
    rw [HL.out] at hx4
    subst hx4
    have rv4 : RV w4 (.slice A4 n c4) x0 := hO4.rv
    have rv5 := rv4.below ((Below.refl _ _).alloc (Nat.le_refl _) (.cells #[.slice A4 n c4] 27))
    have d5 := d4.alloc (Nat.le_of_lt z4) (.cells #[.slice A4 n c4] 27)
    have k5 : (w4.alloc (.cells #[.slice A4 n c4] 27)).cell? ⟨w.heap.size, 0, none⟩ = some (.slice A0 n c0) := (World.cell?_alloc_lt _ _ _ z4).trans k4
    have j5 : (w4.alloc (.cells #[.slice A4 n c4] 27)).cell? ⟨w4.heap.size, 0, none⟩ = some (.slice A4 n c4) := by
      rw [World.cell?_alloc_at _ _ _ _ rfl]; rfl
    have z5 : w4.heap.size < (w4.alloc (.cells #[.slice A4 n c4] 27)).heap.size := by simp
    clear rv4 d4 k4 hO4
    go_wp2_with fail
    refine (Hi.out _ _ rv5).mono ?_
    rintro e w6 ⟨rfl, hb6⟩
    have d6 := d5.trans (hb6.mono d5.size)
    have k6 := bcell1 hb6 k5 (by omega)
    have j6 := bcell1 hb6 j5 z5
    have z6 := Nat.lt_of_lt_of_le z5 hb6.size
    have rv6 := rv5.below hb6
    have rv6' : RV w6.drew (.slice A4 n c4) x0 := rv6.drewN 1
    have hv6 : RV w6.drew (.slice A0 n c0) x0 := (HV.out.below d6).drewN 1
    have d6' : Below w.heap.size w w6.drew := below_drewN d6 1
    have HRV := hide rv6'
    have HHV := hide hv6
    have HD := hide d6'
    clear d5 k5 j5 hb6 rv5 rv6 rv6' hv6 d6 d6'
    have z46 : w.heap.size < w6.heap.size := by omega
    go_wp2_with fail
    go_region_held3 (fun w' => w'.cell? ⟨w4.heap.size, 0, none⟩ = some (.slice A4 n c4) ∧ w'.cell? ⟨w.heap.size, 0, none⟩ = some (.slice A0 n c0))
      (first | exact ⟨j6, k6⟩ | go_keep | (go_split_ands; refine ⟨?_, ?_⟩ <;> (rw [hbk.cell (by show _ < _; first | exact z6 | exact z46 | exact Nat.lt_of_lt_of_le z6 HBa.out.size | exact Nat.lt_of_lt_of_le z46 HBa.out.size)]; assumption)))
      ((first | (go_at_call 17; refine (Hto.out _ _ HHV.out).mono ?_; rintro e wa ⟨ra, rfl, hOa, hbk⟩; have HBa := hide hbk) | (go_at_call 19; refine (Heq.out _ _ _ (HRV.out.below HBa.out) hOa.rv).mono ?_; rintro e wb ⟨rfl, hbk⟩)))
    all_goals go_wp2
    all_goals go_ret
    all_goals exact ⟨rfl, HD.out.trans ((HBa.out.trans (hbk.mono HBa.out.size)).mono (Nat.le_of_lt z46))⟩
end Go.Proofs.Ythpboedpoipkcaa
