/- The walk of impl.FindRing. Conditions: 2 to 3 faces, most 1 to 6. -/
import Derived.Test.YthpboedpoipkcaaFindV
import Derived.Test.YthpboedpoipkcaaOwnX
namespace Go.Proofs.Ythpboedpoipkcaa
open Go.ChangeShapes Go.WideShapes Go.ChangeAt Go.RowKit

/-- where the dice lie in the list -/
theorem FRi.cells {lo Bc F M N : Nat} {O : Nat → Prop} {w : World} (hF : 2 ≤ F) (hF3 : F ≤ 3) (hM : 1 ≤ M) (hM6 : M ≤ 6) (hN : N = (growL M F 1).length) (h : FRi lo Bc (growL M F 1) O w) :
    ∃ g c, w.cell? ⟨Bc, 0, none⟩ = some (.slice (some ⟨g, 0, none⟩) N c) ∧ g < w.heap.size ∧ Bc < w.heap.size ∧ ∀ i, i < N → ∃ B d, w.cell? ⟨g, i, none⟩ = some (.slice B F d) ∧ RV w (.slice B F d) (dieAt F M i) := by
  obtain ⟨g, c, vs, hB, how, hl, hrow, -, -, -⟩ := h
  rw [← hN] at hl
  have h1 := hB.cell 0
  rw [hl] at h1
  refine ⟨g, c, h1, (how.lt g rfl).2, hB.lt, fun i hi => ?_⟩
  have hv : vs[i]? = some (vs[i]'(by omega)) := List.getElem?_eq_getElem _
  obtain ⟨hr, -⟩ := hrow i _ hv
  have hd : dieAt F M i = (growL M F 1).getD i [] := by unfold dieAt; rw [Nat.min_eq_left (by omega)]
  rw [← hd] at hr
  obtain ⟨N', -, -, -, -, hDl, -⟩ := dieAt_facts hF hF3 hM hM6
  have hlen := hDl i
  obtain ⟨B, d, e, hr2, hd2⟩ := id hr
  rw [hlen] at e
  rw [e] at hr
  refine ⟨B, d, ?_, hr⟩
  have hrd := Rd.of_own how
  obtain ⟨ad, u, e1, -, e2, e3⟩ := hrd.at (k := i) (by omega)
  injection e1 with e1
  subst e1
  rw [hv] at e2
  injection e2 with e2
  rw [Addr.add_lit, Nat.zero_add] at e3
  rw [e3, ← e2, e]

theorem FRi.start (w : World) : ∃ O, FRi w.heap.size (w.heap.size + 1) [] O ((w.alloc (.cells #[] 27)).alloc (.cells #[.slice (some ⟨w.heap.size, 0, none⟩) 0 0] 42)) := by
  refine ⟨_, w.heap.size, 0, [], ?_, ?_, rfl, fun k v hk => by simp at hk, by omega, by omega, fun b => Iff.rfl⟩
  · have := Bk.new (w.alloc (.cells #[] 27)) 42 [.slice (some ⟨w.heap.size, 0, none⟩) 0 0]
    simpa using this
  · exact World.ownsRow.alloc (World.ownsRow_made w #[] 0 (Nat.le_refl _) (by simp [maxLen]) (by simp)) _

set_option maxRecDepth 100000 in
set_option maxHeartbeats 3200000 in
theorem iFind (F M N : Nat) (w : World) (hF : 2 ≤ F) (hF3 : F ≤ 3) (hM : 1 ≤ M) (hM6 : M ≤ 6) (hN : N = (growL M F 1).length) :
    Calls Try.prog 34 #[.int .i64 (F : Int), .int .i64 (M : Int)] w fun e w' => Below w.heap.size w w' ∧
      ((∃ i j k r, i < N ∧ j < N ∧ k < N ∧ noRing F M N i j k ∧ ring3 F M i j k = true ∧ e = .returned (.tuple #[r, .bool true]) ∧ OwnX w' 27 w.heap.size w'.heap.size r [dieAt F M i, dieAt F M j, dieAt F M k]) ∨
       (noRing F M N N 0 0 ∧ e = .returned (.tuple #[.slice none 0 0, .bool false]))) := by
  obtain ⟨N', hN', hN0, hN56, hD0, hDl, hDx, hDn⟩ := dieAt_facts hF hF3 hM hM6
  rw [← hN] at hN'
  have hN' := hN'.symm
  subst hN'
  have HDl := hide hDl
  have HN := hide hN
  have H1 := Lib.hid (iIn (F : Int) 2 3 w)
  have H2 := Lib.hid (iIn (M : Int) 1 6 w)
  have b1 : inB (F : Int) 2 3 = true := inB_t (by omega)
  have b2 : inB (M : Int) 1 6 = true := inB_t (by omega)
  rw [b1] at H1
  rw [b2] at H2
  clear hD0 hDl hDx hDn hN b1 b2
  go_enter Try.func34, Try.ntmps34
  go_upto_region 4 with (go_at_call 57; first | (with_reducible refine H1.out.mono ?_; rintro e w' ⟨rfl, rfl⟩) | (with_reducible refine H2.out.mono ?_; rintro e w' ⟨rfl, rfl⟩))
  obtain ⟨O, hst⟩ := FRi.start w
  have hb0 : Below w.heap.size w ((w.alloc (.cells #[] 27)).alloc (.cells #[.slice (some ⟨w.heap.size, 0, none⟩) 0 0] 42)) := ((Below.refl _ _).alloc (Nat.le_refl _) _).alloc (by simp) _
  generalize (w.alloc (.cells #[] 27)).alloc (.cells #[.slice (some ⟨w.heap.size, 0, none⟩) 0 0] 42) = w1 at hst hb0 ⊢
  have HE := iEach (frV w.heap.size (w.heap.size + 1)) (frV_ok _ _) F M 1 [] O w1 (by omega) (by omega) (by omega) hb0.size hst (frV_fit _ _ _ (by rw [← HN.out]; omega) (fun x hx => by
    obtain ⟨i, hi, e⟩ := List.mem_iff_getElem.1 hx
    have h1 := HDl.out i
    unfold dieAt at h1
    rw [Nat.min_eq_left (by omega)] at h1
    simp [List.getD, hi, e] at h1
    omega))
  rw [frV_run, List.nil_append] at HE
  have HE2 := Lib.hid HE
  generalize hbc : w.heap.size + 1 = Bc at *
  have HB0 := hide hb0
  have hBc := hide hbc
  clear HE hst hb0 hbc
  go_wp2_with (go_at_call 71; refine HE2.out.mono ?_; rintro e w4 ⟨rfl, ⟨O4, hi4⟩, hb4⟩; obtain ⟨g, c, d1, hgl, hBl, d2⟩ := FRi.cells hF hF3 hM hM6 HN.out hi4; have HD := hide d2; have HB4 : Hid (Below w.heap.size w w4) := hide (HB0.out.trans hb4); clear hi4 d2 hb4)
  have hno0 : noRing F M N 0 0 0 := fun i' j' k' _ _ _ h => by omega
  have HNo := hide hno0
  clear hno0
  go_loopw [28] (fun i wr => ∃ k : Nat, k ≤ N ∧ i = .int .i64 (k : Int) ∧ Hid (noRing F M N k 0 0) ∧ Hid (Below w4.heap.size w4 wr)) (fun i _ => N - (intOf i).toNat)
  case atStart => exact ⟨0, Nat.zero_le _, rfl, HNo, hide (Below.refl _ _)⟩
  case round =>
    obtain ⟨i, hi, rfl, hno, hb⟩ := hrel
    by_cases hlt : i < N
    · obtain ⟨A1, e1, hc1, hv1⟩ := HD.out i hlt
      have hwc1 : wr.cell? ⟨g, i, none⟩ = some (.slice A1 F e1) := (hb.out.cell (p := ⟨g, i, none⟩) hgl).trans hc1
      have hwl1 : wr.cell? ⟨Bc, 0, none⟩ = some (.slice (some ⟨g, 0, none⟩) N c) := (hb.out.cell (p := ⟨Bc, 0, none⟩) hBl).trans d1
      go_upto_region 8 with fail
      obtain ⟨wa, hwa⟩ : ∃ wa, wa = wr.alloc (.cells #[.slice A1 F e1] 27) := ⟨_, rfl⟩
      have ka : wa.cell? ⟨wr.heap.size, 0, none⟩ = some (.slice A1 F e1) := by rw [hwa]; exact dcell _ _ _
      have hza : wr.heap.size < wa.heap.size := by rw [hwa]; simp
      have HBa : Hid (Below w4.heap.size w4 wa) := hide (by rw [hwa]; exact hb.out.alloc hb.out.size _)
      rw [← hwa]
      clear hwa hwc1 hwl1
      generalize wr.heap.size = ba at *
      have hca : wa.cell? ⟨Bc, 0, none⟩ = some (.slice (some ⟨g, 0, none⟩) N c) := (HBa.out.cell (p := ⟨Bc, 0, none⟩) hBl).trans d1
      go_wp2
      have HNo2 : Hid (noRing F M N i 0 0) := hno
      clear hb hno
      go_loopw [34] (fun x wr => ∃ j : Nat, j ≤ N ∧ x = .int .i64 (j : Int) ∧ Hid (noRing F M N i j 0) ∧ Hid (Below wa.heap.size wa wr)) (fun x _ => N - (intOf x).toNat)
      case atStart => exact ⟨0, Nat.zero_le _, rfl, HNo2, hide (Below.refl _ _)⟩
      case round =>
        obtain ⟨j, hj, rfl, hno2, hb2⟩ := hrel
        by_cases hlt2 : j < N
        · obtain ⟨A2, e2, hc2, hv2⟩ := HD.out j hlt2
          have hwab := hide (HBa.out.trans (hb2.out.mono HBa.out.size))
          have hwc2 : wr.cell? ⟨g, j, none⟩ = some (.slice A2 F e2) := (hwab.out.cell (p := ⟨g, j, none⟩) hgl).trans hc2
          go_upto_region 11 with fail
          obtain ⟨wb, hwb⟩ : ∃ wb, wb = wr.alloc (.cells #[.slice A2 F e2] 27) := ⟨_, rfl⟩
          have kb : wb.cell? ⟨wr.heap.size, 0, none⟩ = some (.slice A2 F e2) := by rw [hwb]; exact dcell _ _ _
          have hzb : wr.heap.size < wb.heap.size := by rw [hwb]; simp
          have HBb : Hid (Below wa.heap.size wa wb) := hide (by rw [hwb]; exact hb2.out.alloc hb2.out.size _)
          rw [← hwb]
          clear hwb hwc2 hwab hb2
          generalize wr.heap.size = bb at *
          have kab : wb.cell? ⟨ba, 0, none⟩ = some (.slice A1 F e1) := bcell1 HBb.out ka hza
          have HB4b : Hid (Below w4.heap.size w4 wb) := hide (HBa.out.trans (HBb.out.mono HBa.out.size))
          have HM := Lib.hid (iWins _ _ (dieAt F M i) (dieAt F M j) wb (hv1.below HB4b.out) (hv2.below HB4b.out) (by rw [HDl.out]; omega) (by rw [HDl.out]; omega))
          cases hW : winB (dieAt F M i) (dieAt F M j) with
          | false =>
            rw [hW] at HM
            have HNo3 : Hid (noRing F M N i (j + 1) 0) := hide fun i' j' k' h1 h2 h3 h4 => by
              by_cases e : i' = i ∧ j' = j
              · obtain ⟨rfl, rfl⟩ := e
                simp [ring3, hW]
              · exact hno2.out i' j' k' h1 h2 h3 (by omega)
            clear hW hno2
            go_wp2_with (go_at_call 68; refine HM.out.mono ?_; rintro e w6 ⟨rfl, hb6⟩)
            go_roundw
            case measure => simp [intOf]; omega
            case rel => exact ⟨j + 1, by omega, by go_num, HNo3, hide (HBb.out.trans (hb6.mono HBb.out.size))⟩
          | true =>
            rw [hW] at HM
            have HW := hide hW
            clear hW
            have hcb : wb.cell? ⟨Bc, 0, none⟩ = some (.slice (some ⟨g, 0, none⟩) N c) := (HB4b.out.cell (p := ⟨Bc, 0, none⟩) hBl).trans d1
            have hBl' : Bc < wb.heap.size := Nat.lt_of_lt_of_le hBl HB4b.out.size
            have hza' : ba < wb.heap.size := Nat.lt_of_lt_of_le hza HBb.out.size
            go_wp2_with (go_at_call 68; refine HM.out.mono ?_; rintro e w6 ⟨rfl, hb6⟩; have hcc : w6.cell? ⟨Bc, 0, none⟩ = some (.slice (some ⟨g, 0, none⟩) N c) := bcell1 hb6 hcb hBl'; have ka6 := bcell1 hb6 kab hza'; have kb6 := bcell1 hb6 kb hzb; have HB6 := hide hb6; clear hb6)
            have HB46 : Hid (Below w4.heap.size w4 w6) := hide (HB4b.out.trans (HB6.out.mono HB4b.out.size))
            have HBb6 : Hid (Below wa.heap.size wa w6) := hide (HBb.out.trans (HB6.out.mono HBb.out.size))
            have hza6 : ba < w6.heap.size := Nat.lt_of_lt_of_le hza' HB6.out.size
            have hzb6 : bb < w6.heap.size := Nat.lt_of_lt_of_le hzb HB6.out.size
            clear HM HB6 HB4b HBb hcb hcc ka kb kab hca hza' hza hBl'
            go_loopw [44] (fun x wr => ∃ k : Nat, k ≤ N ∧ x = .int .i64 (k : Int) ∧ Hid (noRing F M N i j k) ∧ Hid (Below w6.heap.size w6 wr)) (fun x _ => N - (intOf x).toNat)
            case atStart => exact ⟨0, Nat.zero_le _, rfl, hno2, hide (Below.refl _ _)⟩
            case round =>
              obtain ⟨k, hk, rfl, hno3, hb3⟩ := hrel
              by_cases hlt3 : k < N
              · obtain ⟨A3, e3, hc3, hv3⟩ := HD.out k hlt3
                have hwc3 : wr.cell? ⟨g, k, none⟩ = some (.slice A3 F e3) := ((HB46.out.trans (hb3.out.mono HB46.out.size)).cell (p := ⟨g, k, none⟩) hgl).trans hc3
                go_upto_region 15 with fail
                obtain ⟨wc, hwc⟩ : ∃ wc, wc = wr.alloc (.cells #[.slice A3 F e3] 27) := ⟨_, rfl⟩
                have kc : wc.cell? ⟨wr.heap.size, 0, none⟩ = some (.slice A3 F e3) := by rw [hwc]; exact dcell _ _ _
                have hzc : wr.heap.size < wc.heap.size := by rw [hwc]; simp
                have HBc : Hid (Below w6.heap.size w6 wc) := hide (by rw [hwc]; exact hb3.out.alloc hb3.out.size _)
                rw [← hwc]
                clear hwc hwc3 hb3
                generalize wr.heap.size = bc at *
                have kac := bcell1 HBc.out ka6 hza6
                have kbc := bcell1 HBc.out kb6 hzb6
                have zac : ba < wc.heap.size := Nat.lt_of_lt_of_le hza6 HBc.out.size
                have zbc : bb < wc.heap.size := Nat.lt_of_lt_of_le hzb6 HBc.out.size
                have HB4c : Hid (Below w4.heap.size w4 wc) := hide (HB46.out.trans (HBc.out.mono HB46.out.size))
                have HM1 := Lib.hid (iWins _ _ (dieAt F M j) (dieAt F M k) wc (hv2.below HB4c.out) (hv3.below HB4c.out) (by rw [HDl.out]; omega) (by rw [HDl.out]; omega))
                have HM2 := Lib.hid (fun W (hW : Below wc.heap.size wc W) => iWins _ _ (dieAt F M k) (dieAt F M i) W ((hv3.below HB4c.out).below hW) ((hv1.below HB4c.out).below hW) (by rw [HDl.out]; omega) (by rw [HDl.out]; omega))
                cases hW2 : winB (dieAt F M j) (dieAt F M k) with
                | false =>
                  rw [hW2] at HM1
                  have HNo8 : Hid (noRing F M N i j (k + 1)) := hide fun i' j' k' h1 h2 h3 h4 => by
                    by_cases e : i' = i ∧ j' = j ∧ k' = k
                    · obtain ⟨rfl, rfl, rfl⟩ := e
                      simp [ring3, hW2]
                    · exact hno3.out i' j' k' h1 h2 h3 (by omega)
                  clear hW2 hno3 HM2
                  go_wp2_with (go_at_call 68; refine HM1.out.mono ?_; rintro e w7 ⟨rfl, hb7⟩)
                  go_roundw
                  case measure => simp [intOf]; omega
                  case rel => exact ⟨k + 1, by omega, by go_num, HNo8, hide (HBc.out.trans (hb7.mono HBc.out.size))⟩
                | true =>
                  rw [hW2] at HM1
                  cases hW3 : winB (dieAt F M k) (dieAt F M i) with
                  | false =>
                    rw [hW3] at HM2
                    have HNo8 : Hid (noRing F M N i j (k + 1)) := hide fun i' j' k' h1 h2 h3 h4 => by
                      by_cases e : i' = i ∧ j' = j ∧ k' = k
                      · obtain ⟨rfl, rfl, rfl⟩ := e
                        simp [ring3, hW2, hW3]
                      · exact hno3.out i' j' k' h1 h2 h3 (by omega)
                    clear hW2 hW3 hno3
                    go_wp2_with fail
                    refine HM1.out.mono ?_
                    rintro e w7 ⟨rfl, hb7⟩
                    have ka7 := bcell1 hb7 kac zac
                    have kc7 := bcell1 hb7 kc hzc
                    go_wp2_with fail
                    refine (HM2.out _ hb7).mono ?_
                    rintro e w8 ⟨rfl, hb8⟩
                    go_wp2
                    go_roundw
                    case measure => simp [intOf]; omega
                    case rel => exact ⟨k + 1, by omega, by go_num, HNo8, hide (HBc.out.trans ((hb7.trans (hb8.mono hb7.size)).mono HBc.out.size))⟩
                  | true =>
                    rw [hW3] at HM2
                    have HR3 : Hid (ring3 F M i j k = true) := hide (by simp [ring3, hW2, hW3, HW.out])
                    clear hW2 hW3
                    go_wp2_with fail
                    refine HM1.out.mono ?_
                    rintro e w7 ⟨rfl, hb7⟩
                    have ka7 := bcell1 hb7 kac zac
                    have kc7 := bcell1 hb7 kc hzc
                    go_wp2_with fail
                    refine (HM2.out _ hb7).mono ?_
                    rintro e w8 ⟨rfl, hb8⟩
                    have HBc8 : Hid (Below wc.heap.size wc w8) := hide (hb7.trans (hb8.mono hb7.size))
                    have ka8 := bcell1 HBc8.out kac zac
                    have kb8 := bcell1 HBc8.out kbc zbc
                    have kc8 := bcell1 HBc8.out kc hzc
                    have za8 : ba < w8.heap.size := Nat.lt_of_lt_of_le zac HBc8.out.size
                    have zb8 : bb < w8.heap.size := Nat.lt_of_lt_of_le zbc HBc8.out.size
                    have zc8 : bc < w8.heap.size := Nat.lt_of_lt_of_le hzc HBc8.out.size
                    have HB48 : Hid (Below w4.heap.size w4 w8) := hide (HB4c.out.trans (HBc8.out.mono HB4c.out.size))
                    have HW8 : Hid (Below w.heap.size w w8) := hide (HB4.out.trans (HB48.out.mono HB4.out.size))
                    have HCA : Hid (∀ W, Below w8.heap.size w8 W → Calls Try.prog 73 #[.slice A1 F e1] W fun e w' => ∃ A d, e = .returned (.slice A F d) ∧ Own w' W.heap.size w'.heap.size (.slice A F d) (dieAt F M i) ∧ Below W.heap.size W w') := hide fun W hW => by
                      refine (libClone _ _ W ((hv1.below HB48.out).below hW) (by rw [HDl.out]; omega)).mono ?_
                      rintro e w' ⟨r, rfl, ho, hbl⟩
                      obtain ⟨A, d, rfl, -, -, -, -⟩ := ho.form
                      rw [HDl.out] at ho ⊢
                      exact ⟨A, d, rfl, ho, hbl⟩
                    have HCB : Hid (∀ W, Below w8.heap.size w8 W → Calls Try.prog 73 #[.slice A2 F e2] W fun e w' => ∃ A d, e = .returned (.slice A F d) ∧ Own w' W.heap.size w'.heap.size (.slice A F d) (dieAt F M j) ∧ Below W.heap.size W w') := hide fun W hW => by
                      refine (libClone _ _ W ((hv2.below HB48.out).below hW) (by rw [HDl.out]; omega)).mono ?_
                      rintro e w' ⟨r, rfl, ho, hbl⟩
                      obtain ⟨A, d, rfl, -, -, -, -⟩ := ho.form
                      rw [HDl.out] at ho ⊢
                      exact ⟨A, d, rfl, ho, hbl⟩
                    have HCC : Hid (∀ W, Below w8.heap.size w8 W → Calls Try.prog 73 #[.slice A3 F e3] W fun e w' => ∃ A d, e = .returned (.slice A F d) ∧ Own w' W.heap.size w'.heap.size (.slice A F d) (dieAt F M k) ∧ Below W.heap.size W w') := hide fun W hW => by
                      refine (libClone _ _ W ((hv3.below HB48.out).below hW) (by rw [HDl.out]; omega)).mono ?_
                      rintro e w' ⟨r, rfl, ho, hbl⟩
                      obtain ⟨A, d, rfl, -, -, -, -⟩ := ho.form
                      rw [HDl.out] at ho ⊢
                      exact ⟨A, d, rfl, ho, hbl⟩

                    have hcur : Below w8.heap.size w8 w8.drew := below_drewN (Below.refl _ _) 1
                    clear HM1 HM2 HNo HE2 HBc8 HB48 HB4c HBc HB46 hb7 hb8 ka7 kc7 kac kbc zac zbc ka6 kb6 kc hzc hza6 hzb6 hv1 hv2 hv3 hc1 hc2 hc3 HD d1
                    go_wp2_with fail
                    go_region_held3 (fun w' => w'.cell? ⟨ba, 0, none⟩ = some (.slice A1 F e1) ∧ w'.cell? ⟨bb, 0, none⟩ = some (.slice A2 F e2) ∧ w'.cell? ⟨bc, 0, none⟩ = some (.slice A3 F e3))
                      (first | exact ⟨bcell1 hcur ka8 za8, bcell1 hcur kb8 zb8, bcell1 hcur kc8 zc8⟩ | exact ⟨bcell1 (hcur.alloc hcur.size _) ka8 za8, bcell1 (hcur.alloc hcur.size _) kb8 zb8, bcell1 (hcur.alloc hcur.size _) kc8 zc8⟩)
                      ((first | (go_at_call 73; with_reducible refine (HCA.out _ hcur).mono ?_; rintro e wA ⟨AA, dA, rfl, hoA, hbA⟩; have hcur := hcur.trans (hbA.mono hcur.size); obtain ⟨qA, qA1, qA2, hoA⟩ := own_exact hoA (by rw [HDl.out]; omega); have hzA := hbA.size; try (replace hoB := hoB.below hbA); try (replace hoC := hoC.below hbA)) | (go_at_call 73; with_reducible refine (HCB.out _ hcur).mono ?_; rintro e wB ⟨AB, dB, rfl, hoB, hbB⟩; have hcur := hcur.trans (hbB.mono hcur.size); obtain ⟨qB, qB1, qB2, hoB⟩ := own_exact hoB (by rw [HDl.out]; omega); have hzB := hbB.size; try (replace hoA := hoA.below hbB); try (replace hoC := hoC.below hbB)) | (go_at_call 73; with_reducible refine (HCC.out _ hcur).mono ?_; rintro e wC ⟨AC, dC, rfl, hoC, hbC⟩; have hcur := hcur.trans (hbC.mono hcur.size); obtain ⟨qC, qC1, qC2, hoC⟩ := own_exact hoC (by rw [HDl.out]; omega); have hzC := hbC.size; try (replace hoA := hoA.below hbC); try (replace hoB := hoB.below hbC))))
                    go_wp2
                    go_ret2
                    have hW1 : Below w.heap.size w wC := HW8.out.trans (hcur.mono HW8.out.size)
                    have s0 := HW8.out.size
                    have s1 : w8.drew.heap.size = w8.heap.size := rfl
                    have s2 := hW1.size
                    have hB1 := (Below.refl wC.heap.size wC).alloc (Nat.le_refl _) (.cells #[.slice AA F dA, .slice AB F dB, .slice AC F dC] 27)
                    have hoA := hoA.below hB1
                    have hoB := hoB.below hB1
                    have hoC := hoC.below hB1
                    refine ⟨hW1.alloc hW1.size _, .inl ⟨i, j, k, _, hlt, hlt2, hlt3, hno3.out, HR3.out, rfl, wC.heap.size, [.slice AA F dA, .slice AB F dB, .slice AC F dC], rfl, by omega, by simp, Bk.new wC 27 [.slice AA F dA, .slice AB F dB, .slice AC F dC], rfl, (fun x => if x = 0 then qA else if x = 1 then qB else qC), fun x hx => ?_, fun x y hx hy hxy => ?_⟩⟩
                    · have hx : x < 3 := hx
                      have sz : (wC.alloc (.cells #[.slice AA F dA, .slice AB F dB, .slice AC F dC] 27)).heap.size = wC.heap.size + 1 := by simp
                      match x, hx with
                      | 0, _ => exact ⟨hoA, by show _ ≤ qA; omega, by show qA < _; omega, by show qA ≠ _; omega⟩
                      | 1, _ => exact ⟨hoB, by show _ ≤ qB; omega, by show qB < _; omega, by show qB ≠ _; omega⟩
                      | 2, _ => exact ⟨hoC, by show _ ≤ qC; omega, by show qC < _; omega, by show qC ≠ _; omega⟩
                    · have hx : x < 3 := hx
                      have hy : y < 3 := hy
                      have a1 : qA < qB := by omega
                      have a2 : qB < qC := by omega
                      match x, hx, y, hy with
                      | 0, _, 0, _ => exact absurd rfl hxy
                      | 0, _, 1, _ => show qA ≠ qB; omega
                      | 0, _, 2, _ => show qA ≠ qC; omega
                      | 1, _, 0, _ => show qB ≠ qA; omega
                      | 1, _, 1, _ => exact absurd rfl hxy
                      | 1, _, 2, _ => show qB ≠ qC; omega
                      | 2, _, 0, _ => show qC ≠ qA; omega
                      | 2, _, 1, _ => show qC ≠ qB; omega
                      | 2, _, 2, _ => exact absurd rfl hxy
              · have hin : k = N := by omega
                subst hin
                go_wp2
                go_roundw
                case measure => simp [intOf]; omega
                case rel => exact ⟨j + 1, by omega, by go_num, hide (fun i' j' k' h1 h2 h3 h4 => hno3.out i' j' k' h1 h2 h3 (by omega)), hide (HBb6.out.trans (hb3.out.mono HBb6.out.size))⟩
        · have hin : j = N := by omega
          subst hin
          go_wp2
          go_roundw
          case measure => simp [intOf]; omega
          case rel => exact ⟨i + 1, by omega, by go_num, hide (noRing_next hno2.out), hide (HBa.out.trans (hb2.out.mono HBa.out.size))⟩
    · have hin : i = N := by omega
      subst hin
      go_wp2
      go_ret2
      exact ⟨HB4.out.trans (hb.out.mono HB4.out.size), .inr ⟨hno.out, rfl⟩⟩
end Go.Proofs.Ythpboedpoipkcaa
