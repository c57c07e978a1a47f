/- Contracts of CoinsLeft, both sides. Conditions: lengths at most 2^20. -/
import Derived.Test.YtafhfcpaofgikaaCoins
namespace Go.Proofs.Ytafhfcpaofgikaa
open Go.ChangeShapes Go.WideShapes Go.ChangeAt Go.RowKit

theorem left_clo (x : Int) (w : World) : Calls Try.prog 36 #[.int .i64 x] w fun e w' => e = .returned (.bool (!inB x (-1) 1)) ∧ w = w' := by
  go_enter Try.func36, Try.ntmps36
  go_wp2_with (go_at_call 31; refine (iIn _ _ _ _).mono ?_; rintro e w' ⟨rfl, rfl⟩)
  go_ret
  exact ⟨rfl, rfl⟩
theorem leftOk_p {c : Int} {xs ss : List Int} (h : pansB c xs = false) : leftOk c xs ss = false := by simp [leftOk, h]
theorem leftOk_n {c : Nat} {xs ss : List Int} (h : ss.length ≠ xs.length / c) : leftOk c xs ss = false := by simp [leftOk, h]
theorem leftOk_a {c : Int} {xs ss : List Int} (h : ss.any (fun s => !inB s (-1) 1) = true) : leftOk c xs ss = false := by rw [leftOk, h]; simp
theorem leftOk_t {c : Nat} {xs ss : List Int} (h1 : pansB c xs = true) (h2 : ss.length = xs.length / c) (h3 : ss.any (fun s => !inB s (-1) 1) = false) : leftOk c xs ss = true := by
  rw [leftOk, h1, h3]; simp [h2]
theorem RCoinsLeft_no {c : Int} {xs ss : List Int} (h : leftOk c xs ss = false) : RCoinsLeft c xs ss = ([], false) := by rw [RCoinsLeft, if_neg (by rw [h]; simp)]
theorem RCoinsLeft_yes {c : Nat} {xs ss : List Int} (h : leftOk c xs ss = true) : RCoinsLeft c xs ss = (leftTo c xs ss (c + 1), true) := by rw [RCoinsLeft, if_pos h, Int.toNat_natCast]

set_option maxHeartbeats 1600000 in
theorem iCoinsLeft (c : Int) (v : Value) (xs : List Int) (u : Value) (ss : List Int) (w : World) (hv : RV w v xs) (hu : RV w u ss) (hn : xs.length ≤ 1048576) (hm : ss.length ≤ 1048576) (_w0 : (Lit.int .i64 c).wf = true) :
    Calls Try.prog 18 #[.int .i64 c, v, u] w fun e w' => ∃ r, e = .returned (.tuple #[r, .bool (RCoinsLeft c xs ss).2]) ∧ Own w' w.heap.size w'.heap.size r (RCoinsLeft c xs ss).1 ∧ Below w.heap.size w w' := by
  have HP := Lib.hid (iPansV c v xs w hv hn)
  obtain ⟨Av, dv, rfl, hrv, hdv⟩ := hv
  have hv : RV w (.slice Av xs.length dv) xs := ⟨Av, dv, rfl, hrv, hdv⟩
  cases hP : pansB c xs with
  | false =>
    rw [RCoinsLeft_no (leftOk_p hP)]
    rw [hP] at HP
    clear hP
    go_enter Try.func18, Try.ntmps18
    go_wp2_with (first | (go_at_call 30; refine HP.out.mono ?_; rintro e w' ⟨rfl, rfl⟩))
    go_ret2
    exact ⟨_, rfl, Own.nil _ _ _, Below.refl _ _⟩
  | true =>
    obtain ⟨h1, h2, h3, h4⟩ := pansB_facts hP
    obtain ⟨c, rfl⟩ := Int.eq_ofNat_of_zero_le (show 0 ≤ c by omega)
    rw [Int.toNat_natCast] at h3 h4
    have q1 : (xs.length : Int) / (c : Int) ≤ 4 := by rw [← Int.natCast_ediv]; omega
    have q2 : (0 : Int) ≤ (xs.length : Int) / (c : Int) := by rw [← Int.natCast_ediv]; exact Int.natCast_nonneg _
    have HV := hide hv
    have HU := hide hu
    have HlenS : Hid (∀ h, (shows c xs h (xs.length / c)).length ≤ 1048576) := hide fun h => by rw [shows_len]; omega
    have HW : Hid (∀ (W : World) (h : Int), RV W (.slice Av xs.length dv) xs → -1 ≤ h → h < c → _) := hide (fun W h hW a b => iWeighV c (.slice Av xs.length dv) h xs W hW hn (by omega) (by omega) h3 a b)
    by_cases hl : ss.length = xs.length / c
    · have hne : ((ss.length : Int) != (xs.length : Int) / (c : Int)) = false := by rw [← Int.natCast_ediv, hl]; simp
      obtain ⟨A, d, rfl, hr, hd⟩ := hu
      have HF := Lib.hid (hasF 36 #[] (fun s => !inB s (-1) 1) A ss.length d ss w (fun _ _ => rfl) hr hm (fun x _ => left_clo x w))
      clear hv
      cases hA : ss.any (fun s => !inB s (-1) 1) with
      | true =>
        rw [RCoinsLeft_no (leftOk_a hA)]
        rw [hA] at HF
        rw [hP] at HP
        clear hP hA h3 h4 hl
        go_enter Try.func18, Try.ntmps18
        go_wp2_with (first | (go_at_call 30; refine HP.out.mono ?_; rintro e w' ⟨rfl, rfl⟩) | (go_at_call 35; refine HF.out.mono ?_; rintro e w' ⟨rfl, rfl⟩))
        go_ret2
        exact ⟨_, rfl, Own.nil _ _ _, Below.refl _ _⟩
      | false =>
        rw [RCoinsLeft_yes (leftOk_t hP hl hA)]
        rw [hA] at HF
        rw [hP] at HP
        clear hP hA h3 h4 hl
        go_enter Try.func18, Try.ntmps18
        go_wp2_with (first | (go_at_call 30; refine HP.out.mono ?_; rintro e w' ⟨rfl, rfl⟩) | (go_at_call 35; refine HF.out.mono ?_; rintro e w' ⟨rfl, rfl⟩))
        go_loopw [8, 9] (fun r i wr => ∃ k : Nat, k ≤ c + 1 ∧ i = .int .i64 ((k : Int) - 1) ∧ OwnL wr w.heap.size r (leftTo c xs ss k) ∧ Below w.heap.size w wr) (fun _ i _ => c + 1 - (intOf i + 1).toNat)
        case atStart => exact ⟨0, Nat.zero_le _, rfl, OwnL.empty _ _ rfl (Nat.le_refl _), (Below.refl _ _).alloc (Nat.le_refl _) _⟩
        case round =>
          obtain ⟨k, hk, rfl, ho, hb⟩ := hrel
          by_cases hlt : k < c + 1
          · have hll := leftTo_len c xs ss k
            have hz := hb.size
            go_wp2_with fail
            refine (HW.out _ _ (HV.out.below hb) (by omega) (by omega)).mono ?_
            rintro e w2 ⟨r1, rfl, ho1, hb1⟩
            have hz1 := hb1.size
            have B1 := hb.trans (hb1.mono hz)
            have ho' := ho.below hb1
            have HS := Lib.hid (iSameV r1 (.slice A ss.length d) _ _ w2 ho1.rv (HU.out.below B1) (HlenS.out _) hm)
            have HB1 := hide B1
            clear hb1 ho1 B1 hb ho
            cases hq : eqL (shows c xs ((k : Int) - 1) (xs.length / c)) ss with
            | true =>
              rw [hq] at HS
              have Hy := hide (leftTo_yes hq)
              clear hq
              go_wp2_with fail
              refine HS.out.mono ?_
              rintro e w4 ⟨rfl, hb4⟩
              have hz4 := hb4.size
              have B4 := hide (HB1.out.trans (hb4.mono HB1.out.size))
              have ho4 := ho'.below hb4
              clear hb4 ho'
              go_wp2_with (at_builtin; refine app1 ho4 (by omega) (by omega) rfl rfl rfl rfl ?_; intro v' w5 ho5 hg5)
              go_roundw
              case rel => exact ⟨k + 1, by omega, by go_num, by rw [Hy.out]; exact ho5, B4.out.grown hg5 (by omega) (fun j hj => (ho4.lt j hj).1)⟩
              case measure => simp [intOf]; omega
            | false =>
              rw [hq] at HS
              have Hy := hide (leftTo_no hq)
              clear hq
              go_wp2_with fail
              refine HS.out.mono ?_
              rintro e w4 ⟨rfl, hb4⟩
              have B4 := hide (HB1.out.trans (hb4.mono HB1.out.size))
              have ho4 := ho'.below hb4
              clear hb4 ho'
              go_wp2
              go_roundw
              case rel => exact ⟨k + 1, by omega, by go_num, by rw [Hy.out]; exact ho4, B4.out⟩
              case measure => simp [intOf]; omega
          · have hkc : k = c + 1 := by omega
            subst hkc
            go_wp2
            go_ret2
            exact ⟨_, rfl, ho.own, hb⟩

    · have hne : ((ss.length : Int) != (xs.length : Int) / (c : Int)) = true := by rw [← Int.natCast_ediv]; generalize xs.length / c = z at *; rw [bne_iff_ne]; omega
      rw [RCoinsLeft_no (leftOk_n hl)]
      rw [hP] at HP
      clear hP h3 h4 hl
      obtain ⟨A, d, rfl, hr, hd⟩ := hu
      go_enter Try.func18, Try.ntmps18
      go_wp2_with (first | (go_at_call 30; refine HP.out.mono ?_; rintro e w' ⟨rfl, rfl⟩))
      go_ret2
      exact ⟨_, rfl, Own.nil _ _ _, Below.refl _ _⟩

set_option maxHeartbeats 1600000 in
theorem sCoinsLeft (c : Int) (v : Value) (xs : List Int) (u : Value) (ss : List Int) (w : World) (hv : RV w v xs) (hu : RV w u ss) (hn : xs.length ≤ 1048576) (hm : ss.length ≤ 1048576) (_w0 : (Lit.int .i64 c).wf = true) :
    Calls Try.prog 17 #[.int .i64 c, v, u] w fun e w' => ∃ r, e = .returned (.tuple #[r, .bool (RCoinsLeft c xs ss).2]) ∧ Own w' w.heap.size w'.heap.size r (RCoinsLeft c xs ss).1 ∧ Below w.heap.size w w' := by
  have HP := Lib.hid (sPansV c v xs w hv hn)
  obtain ⟨Av, dv, rfl, hrv, hdv⟩ := hv
  have hv : RV w (.slice Av xs.length dv) xs := ⟨Av, dv, rfl, hrv, hdv⟩
  cases hP : pansB c xs with
  | false =>
    rw [RCoinsLeft_no (leftOk_p hP)]
    rw [hP] at HP
    clear hP
    go_enter Try.func17, Try.ntmps17
    go_wp2_with (first | (go_at_call 27; refine HP.out.mono ?_; rintro e w' ⟨rfl, rfl⟩))
    go_ret2
    exact ⟨_, rfl, Own.nil _ _ _, Below.refl _ _⟩
  | true =>
    obtain ⟨h1, h2, h3, h4⟩ := pansB_facts hP
    obtain ⟨c, rfl⟩ := Int.eq_ofNat_of_zero_le (show 0 ≤ c by omega)
    rw [Int.toNat_natCast] at h3 h4
    have q1 : (xs.length : Int) / (c : Int) ≤ 4 := by rw [← Int.natCast_ediv]; omega
    have q2 : (0 : Int) ≤ (xs.length : Int) / (c : Int) := by rw [← Int.natCast_ediv]; exact Int.natCast_nonneg _
    have HV := hide hv
    have HU := hide hu
    have HlenS : Hid (∀ h, (shows c xs h (xs.length / c)).length ≤ 1048576) := hide fun h => by rw [shows_len]; omega
    have HW : Hid (∀ (W : World) (h : Int), RV W (.slice Av xs.length dv) xs → -1 ≤ h → h < c → _) := hide (fun W h hW a b => sWeighV c (.slice Av xs.length dv) h xs W hW hn (by omega) (by omega) h3 a b)
    by_cases hl : ss.length = xs.length / c
    · have hne : ((ss.length : Int) != (xs.length : Int) / (c : Int)) = false := by rw [← Int.natCast_ediv, hl]; simp

      have Hany : Hid (∀ k, k < ss.length → (∀ j, j < k → (fun s => !inB s (-1) 1) (ss.getD j 0) = false) → (fun s => !inB s (-1) 1) (ss.getD k 0) = true → RCoinsLeft c xs ss = ([], false)) := hide fun k hk h1 h2 => RCoinsLeft_no (leftOk_a (any_take_succ _ ss k hk h1 h2).1)
      have Hnone : Hid ((∀ j, j < ss.length → (fun s => !inB s (-1) 1) (ss.getD j 0) = false) → RCoinsLeft c xs ss = (leftTo c xs ss (c + 1), true)) := hide fun h => RCoinsLeft_yes (leftOk_t hP hl (any_none _ ss h))
      have HL : Hid (ss.length = xs.length / c) := hide hl
      generalize RCoinsLeft c xs ss = R at *
      rw [hP] at HP
      clear hP h3 h4 hl
      obtain ⟨A, d, rfl, hr, hd⟩ := HU.out
      go_enter Try.func17, Try.ntmps17
      go_wp2_with (first | (go_at_call 27; refine HP.out.mono ?_; rintro e w' ⟨rfl, rfl⟩))
      go_loop [8, 26] (fun _ i => ∃ k : Nat, k ≤ ss.length ∧ i = .int .i64 k ∧ Hid (∀ j, j < k → (fun s => !inB s (-1) 1) (ss.getD j 0) = false)) (fun _ i => ss.length - (intOf i).toNat)
      case atStart => exact ⟨0, Nat.zero_le _, rfl, hide fun j hj => absurd hj (by omega)⟩
      case round =>
        obtain ⟨k, hk, rfl, hfa⟩ := hrel
        by_cases hlt : k < ss.length
        · obtain ⟨ad, rfl, hbl, hcell⟩ := hr.int hlt
          generalize hy : ss.getD k 0 = y at *
          have HY := hide hy
          clear hy
          cases hq : inB y (-1) 1 with
          | false =>
            have hR := Hany.out k hlt hfa.out (by simp only [HY.out, hq]; rfl)
            subst hR
            go_wp2_with (first | (go_at_call 28; refine (sIn _ _ _ _).mono ?_; rintro e w' ⟨rfl, rfl⟩))
            go_ret2
            exact ⟨_, rfl, Own.nil _ _ _, Below.refl _ _⟩
          | true =>
            go_wp2_with (first | (go_at_call 28; refine (sIn _ _ _ _).mono ?_; rintro e w' ⟨rfl, rfl⟩))
            go_round
            case rel =>
              refine ⟨k + 1, by omega, by go_num, hide fun j hj => ?_⟩
              by_cases e : j = k
              · subst e
                simp only [HY.out, hq]
                rfl
              · exact hfa.out j (by omega)
            case measure => simp [intOf]; omega
        · have hkn : k = ss.length := by omega
          have hR := Hnone.out (by rw [← hkn]; exact hfa.out)
          subst hR
          clear hkn
          have HU : Hid (RV w (.slice A ss.length d) ss) := hide ⟨A, d, rfl, hr, hd⟩
          go_wp2
          go_loopw [9, 10] (fun r i wr => ∃ k : Nat, k ≤ c + 1 ∧ i = .int .i64 ((k : Int) - 1) ∧ OwnL wr w.heap.size r (leftTo c xs ss k) ∧ Below w.heap.size w wr) (fun _ i _ => c + 1 - (intOf i + 1).toNat)
          case atStart => exact ⟨0, Nat.zero_le _, rfl, OwnL.empty _ _ rfl (Nat.le_refl _), (Below.refl _ _).alloc (Nat.le_refl _) _⟩
          case round =>
            obtain ⟨k, hk, rfl, ho, hb⟩ := hrel
            by_cases hlt : k < c + 1
            · have hll := leftTo_len c xs ss k
              have hz := hb.size
              go_wp2_with fail
              refine (HW.out _ _ (HV.out.below hb) (by omega) (by omega)).mono ?_
              rintro e w2 ⟨r1, rfl, ho1, hb1⟩
              have hz1 := hb1.size
              have B1 := hb.trans (hb1.mono hz)
              have ho' := ho.below hb1
              have HS := Lib.hid (sSameV r1 (.slice A ss.length d) _ _ w2 ho1.rv (HU.out.below B1) (HlenS.out _) hm)
              have HB1 := hide B1
              clear hb1 ho1 B1 hb ho
              cases hq : eqL (shows c xs ((k : Int) - 1) (xs.length / c)) ss with
              | true =>
                rw [hq] at HS
                have Hy := hide (leftTo_yes hq)
                clear hq
                go_wp2_with fail
                refine HS.out.mono ?_
                rintro e w4 ⟨rfl, hb4⟩
                have hz4 := hb4.size
                have B4 := hide (HB1.out.trans (hb4.mono HB1.out.size))
                have ho4 := ho'.below hb4
                clear hb4 ho'
                go_wp2_with (at_builtin; refine app1 ho4 (by omega) (by omega) rfl rfl rfl rfl ?_; intro v' w5 ho5 hg5)
                go_roundw
                case rel => exact ⟨k + 1, by omega, by go_num, by rw [Hy.out]; exact ho5, B4.out.grown hg5 (by omega) (fun j hj => (ho4.lt j hj).1)⟩
                case measure => simp [intOf]; omega
              | false =>
                rw [hq] at HS
                have Hy := hide (leftTo_no hq)
                clear hq
                go_wp2_with fail
                refine HS.out.mono ?_
                rintro e w4 ⟨rfl, hb4⟩
                have B4 := hide (HB1.out.trans (hb4.mono HB1.out.size))
                have ho4 := ho'.below hb4
                clear hb4 ho'
                go_wp2
                go_roundw
                case rel => exact ⟨k + 1, by omega, by go_num, by rw [Hy.out]; exact ho4, B4.out⟩
                case measure => simp [intOf]; omega
            · have hkc : k = c + 1 := by omega
              subst hkc
              go_wp2
              go_ret2
              exact ⟨_, rfl, ho.own, hb⟩

    · have hne : ((ss.length : Int) != (xs.length : Int) / (c : Int)) = true := by rw [← Int.natCast_ediv]; generalize xs.length / c = z at *; rw [bne_iff_ne]; omega
      rw [RCoinsLeft_no (leftOk_n hl)]
      rw [hP] at HP
      clear hP h3 h4 hl
      obtain ⟨A, d, rfl, hr, hd⟩ := hu
      go_enter Try.func17, Try.ntmps17
      go_wp2_with (first | (go_at_call 27; refine HP.out.mono ?_; rintro e w' ⟨rfl, rfl⟩))
      go_ret2
      exact ⟨_, rfl, Own.nil _ _ _, Below.refl _ _⟩
end Go.Proofs.Ytafhfcpaofgikaa
