/- The contract of spec.FindRing (does NOT build yet). Conditions: faces 2..3, most 1..6. -/
import Derived.Test.YthpboedpoipkcaaFindP
import Derived.Deep.LoopGhost
namespace Go.Proofs.Ythpboedpoipkcaa
open Go.ChangeShapes Go.WideShapes Go.ChangeAt Go.RowKit

theorem owns_form {w : World} {lo hi n : Nat} {v : Value} {xs : List Int} (h : Own w lo hi v xs) (hl : xs.length = n) (h0 : 0 < n) : ∃ g c, v = .slice (some ⟨g, 0, none⟩) n c ∧ lo ≤ g ∧ g < w.heap.size ∧ n ≤ c ∧ w.ownsRow lo 2 1 (.slice (some ⟨g, 0, none⟩) n c) n (iv xs) := by
  obtain ⟨h1, h2⟩ := h
  rw [hl] at h1
  have h1' := h1
  rcases h1.2 with ⟨rfl, h0'⟩ | ⟨g, cap, cur, rfl, hlo, _, hn, hm, _⟩
  · omega
  · exact ⟨g, cap, rfl, hlo, (World.ownsRow.lt h1' g rfl).2, hn, h1'⟩

theorem owns_below {w w' : World} {lo n : Nat} {v : Value} {xs : List Value} (h : w.ownsRow lo 2 1 v n xs) (hb : Below w.heap.size w w') : w'.ownsRow lo 2 1 v n xs :=
  h.kept (grown_of_below hb none) (by cases hv : v.ownBlock <;> simp)
theorem rv_own {w : World} {lo n g c : Nat} {xs : List Int} (h : w.ownsRow lo 2 1 (.slice (some ⟨g, 0, none⟩) n c) n (iv xs)) (hl : xs.length = n) (hc : n ≤ c) : RV w (.slice (some ⟨g, 0, none⟩) n c) xs := by
  subst hl
  exact ⟨_, c, rfl, Rd.of_own h, hc⟩
theorem noRing_next {n m N i : Nat} (h : noRing n m N i N 0) : noRing n m N (i + 1) 0 0 := fun i' j' k' h1 h2 h3 h4 => h i' j' k' h1 h2 h3 (by omega)

set_option maxRecDepth 100000 in
set_option maxHeartbeats 1600000 in
theorem sFind (F M N : Nat) (w : World) (hF : 2 ≤ F) (hF3 : F ≤ 3) (hM : 1 ≤ M) (hM6 : M ≤ 6) (hN : N = (growL M F 1).length) :
    Calls Try.prog 33 #[.int .i64 (F : Int), .int .i64 (M : Int)] w fun e w' => Below w.heap.size w w' ∧
      ((∃ i j k r, i < N ∧ j < N ∧ k < N ∧ noRing F M N i j k ∧ ring3 F M i j k = true ∧ e = .returned (.tuple #[r, .bool true]) ∧ RVR w' r [dieAt F M i, dieAt F M j, dieAt F M k]) ∨
       (noRing F M N N 0 0 ∧ e = .returned (.tuple #[.slice none 0 0, .bool false]))) := by
  obtain ⟨N', hN', hN0, hN56, hD0, hDl, hDx, hDn⟩ := dieAt_facts hF hF3 hM hM6
  rw [← hN] at hN'
  have hN' := hN'.symm
  subst hN'
  have HSF := Lib.hid (fun W => sIn (F : Int) 2 3 W)
  rw [inB_t (by omega)] at HSF
  have HSM := Lib.hid (fun W => sIn (M : Int) 1 6 W)
  rw [inB_t (by omega)] at HSM
  have HD0 := hide hD0
  have HDl := Lib.hid hDl
  have HDx := Lib.hid hDx
  have HDn := Lib.hid hDn
  clear hD0 hDl hDx hDn hN
  go_enter Try.func33, Try.ntmps33
  go_wp2_with (go_at_call 60; first | (with_reducible refine (HSF.out _).mono ?_; rintro e w' ⟨rfl, rfl⟩) | (with_reducible refine (HSM.out _).mono ?_; rintro e w' ⟨rfl, rfl⟩))
  refine (sFirst F w (by omega)).mono ?_
  rintro e w1 ⟨r, rfl, ho1, b1⟩
  obtain ⟨ga, ca, rfl, hla, hga, hca, hoa⟩ := owns_form (n := F) ho1 (by simp) (by omega)
  rw [← HD0.out] at hoa
  have HOA := hide hoa
  have HB1 := hide b1
  have hno0 : noRing F M N 0 0 0 := fun i' j' k' _ _ _ h => by omega
  have HNo := hide hno0
  clear ho1 hoa b1 hno0
  go_wp2
  go_loopg [8] N (fun gk b wr => ∃ i, i ≤ N ∧ gk = N - i ∧ b = .bool (decide (i < N)) ∧ Hid (noRing F M N i 0 0) ∧ Hid (wr.ownsRow w.heap.size 2 1 (.slice (some ⟨ga, 0, none⟩) F ca) F (iv (dieAt F M i))) ∧ Hid (Below w.heap.size w wr))
  case atStart => exact ⟨0, Nat.zero_le _, rfl, by rw [decide_eq_true hN0], HNo, HOA, HB1⟩
  case round =>
    obtain ⟨i, hi, hgk, rfl, hno, hoa, hb⟩ := hrel
    by_cases hlt : i < N
    · rw [decide_eq_true hlt]
      go_wp2_with fail
      obtain ⟨wo, rfl⟩ : ∃ wo : World, wo = wr := ⟨_, rfl⟩
      refine (sFirst F wo (by omega)).mono ?_
      rintro e w2 ⟨r, rfl, ho2, b2⟩
      obtain ⟨gb, cb, rfl, hlb, hgb, hcb, hob⟩ := owns_form (n := F) ho2 (by simp) (by omega)
      rw [← HD0.out] at hob
      have HOB := hide hob
      have HB2 := hide b2
      have hno2 : noRing F M N i 0 0 := hno.out
      have HNo2 := hide hno2
      clear ho2 hob b2 hno2
      go_wp2
      go_loopg [10] N (fun gk b wr => ∃ j, j ≤ N ∧ gk = N - j ∧ b = .bool (decide (j < N)) ∧ Hid (noRing F M N i j 0) ∧ Hid (wr.ownsRow wo.heap.size 2 1 (.slice (some ⟨gb, 0, none⟩) F cb) F (iv (dieAt F M j))) ∧ Hid (Below wo.heap.size wo wr))
      case atStart => exact ⟨0, Nat.zero_le _, rfl, by rw [decide_eq_true hN0], HNo2, HOB, HB2⟩
      case round =>
        obtain ⟨j, hj, hgk2, rfl, hno2, hob, hb2⟩ := hrel
        by_cases hlt2 : j < N
        · rw [decide_eq_true hlt2]
          have HM := Lib.hid (sMore (some ⟨ga, 0, none⟩) (some ⟨gb, 0, none⟩) F F ca cb (dieAt F M i) (dieAt F M j) wr (Rd.of_own (owns_below hoa.out hb2.out)) (Rd.of_own hob.out) (by omega) (by omega))
          cases hW : winB (dieAt F M i) (dieAt F M j) with
          | false =>
            rw [hW] at HM
            have HNo3 : Hid (noRing F M N i (j + 1) 0) := hide fun i' j' k' h1 h2 h3 h4 => by
              by_cases e : i' = i ∧ j' = j
              · obtain ⟨rfl, rfl⟩ := e
                simp [ring3, hW]
              · exact hno2.out i' j' k' h1 h2 h3 (by omega)
            clear hW
            go_wp2_with fail
            refine HM.out.mono ?_
            rintro e w' ⟨rfl, q, rfl⟩
            go_wp2_with fail
            refine (sNext wo.heap.size gb F cb M (dieAt F M j) (wr.drewN q) hob.out (HDl.out j) (by omega) (by omega) (HDx.out j)).mono ?_
            rintro e w3 ⟨rfl, ho3, hg3⟩
            rw [(HDn.out j hlt2).1]
            have HO3 := hide ho3
            have HG3 := hide hg3
            clear ho3 hg3
            go_wp2
            go_roundg (N - (j + 1))
            case measure => omega
            case rel => exact ⟨j + 1, by omega, rfl, rfl, HNo3, hide (by rw [← (HDn.out j hlt2).2]; exact HO3.out), hide ((below_drewN hb2.out q).grown HG3.out (below_drewN hb2.out q).size (fun g e => by injection e with e; omega))⟩
          | true =>
            rw [hW] at HM
            have HW := hide hW
            clear hW
            go_wp2_with fail
            refine HM.out.mono ?_
            rintro e w' ⟨rfl, q, rfl⟩
            have HOB4 : Hid ((wr.drewN q).ownsRow wo.heap.size 2 1 (.slice (some ⟨gb, 0, none⟩) F cb) F (iv (dieAt F M j))) := hide hob.out
            have HOA4 : Hid ((wr.drewN q).ownsRow w.heap.size 2 1 (.slice (some ⟨ga, 0, none⟩) F ca) F (iv (dieAt F M i))) := hide (owns_below hoa.out (below_drewN hb2.out q))
            have HB4 := hide (below_drewN hb2.out q)
            obtain ⟨w4, hw4⟩ : ∃ w4, w4 = wr.drewN q := ⟨_, rfl⟩
            rw [← hw4] at HOA4 HOB4 HB4 ⊢
            clear hw4 HM
            go_wp2_with fail
            refine (sFirst F w4 (by omega)).mono ?_
            rintro e w5 ⟨r, rfl, ho5, b5⟩
            obtain ⟨gc, cc, rfl, hlc, hgc, hcc, hoc⟩ := owns_form (n := F) ho5 (by simp) (by omega)
            rw [← HD0.out] at hoc
            have HOC := hide hoc
            have HB5 := hide b5
            have hno5 : noRing F M N i j 0 := hno2.out
            have HNo5 := hide hno5
            clear ho5 hoc b5 hno5
            go_wp2
            go_loopg [12] N (fun gk b wr => ∃ k, k ≤ N ∧ gk = N - k ∧ b = .bool (decide (k < N)) ∧ Hid (noRing F M N i j k) ∧ Hid (wr.ownsRow w4.heap.size 2 1 (.slice (some ⟨gc, 0, none⟩) F cc) F (iv (dieAt F M k))) ∧ Hid (Below w4.heap.size w4 wr))
            case atStart => exact ⟨0, Nat.zero_le _, rfl, by rw [decide_eq_true hN0], HNo5, HOC, HB5⟩
            case round =>
              obtain ⟨k, hk, hgk3, rfl, hno6, hoc, hb6⟩ := hrel
              by_cases hlt3 : k < N
              · rw [decide_eq_true hlt3]
                have HM1 := Lib.hid (sMore (some ⟨gb, 0, none⟩) (some ⟨gc, 0, none⟩) F F cb cc (dieAt F M j) (dieAt F M k) wr (Rd.of_own (owns_below HOB4.out hb6.out)) (Rd.of_own hoc.out) (by omega) (by omega))
                have HM2 := Lib.hid (fun Q => sMore (some ⟨gc, 0, none⟩) (some ⟨ga, 0, none⟩) F F cc ca (dieAt F M k) (dieAt F M i) (wr.drewN Q) (Rd.of_own (show (wr.drewN Q).ownsRow _ _ _ _ _ _ from hoc.out)) (Rd.of_own (show (wr.drewN Q).ownsRow _ _ _ _ _ _ from owns_below HOA4.out (below_drewN hb6.out Q))) (by omega) (by omega))
                cases hW2 : winB (dieAt F M j) (dieAt F M k) with
                | false =>
                    rw [hW2] at HM1
                    have HNo8 : Hid (noRing F M N i j (k + 1)) := hide fun i' j' k' h1 h2 h3 h4 => by
                      by_cases e : i' = i ∧ j' = j ∧ k' = k
                      · obtain ⟨rfl, rfl, rfl⟩ := e
                        simp [ring3, hW2]
                      · exact hno6.out i' j' k' h1 h2 h3 (by omega)
                    clear hW2
                    go_wp2_with fail
                    refine HM1.out.mono ?_
                    rintro e w' ⟨rfl, q, rfl⟩
                    go_wp2_with fail
                    refine (sNext w4.heap.size gc F cc M (dieAt F M k) (wr.drewN q) hoc.out (HDl.out k) (by omega) (by omega) (HDx.out k)).mono ?_
                    rintro e w3 ⟨rfl, ho3, hg3⟩
                    rw [(HDn.out k hlt3).1]
                    have HO3 := hide ho3
                    have HG3 := hide hg3
                    clear ho3 hg3
                    go_wp2
                    go_roundg (N - (k + 1))
                    case measure => omega
                    case rel => exact ⟨k + 1, by omega, rfl, rfl, HNo8, hide (by rw [← (HDn.out k hlt3).2]; exact HO3.out), hide ((below_drewN hb6.out q).grown HG3.out (below_drewN hb6.out q).size (fun g e => by injection e with e; omega))⟩
                | true =>
                    rw [hW2] at HM1
                    cases hW3 : winB (dieAt F M k) (dieAt F M i) with
                    | false =>
                      rw [hW3] at HM2
                      have HNo8 : Hid (noRing F M N i j (k + 1)) := hide fun i' j' k' h1 h2 h3 h4 => by
                        by_cases e : i' = i ∧ j' = j ∧ k' = k
                        · obtain ⟨rfl, rfl, rfl⟩ := e
                          simp [ring3, hW2, hW3]
                        · exact hno6.out i' j' k' h1 h2 h3 (by omega)
                      clear hW3 hW2
                      go_wp2_with fail
                      refine HM1.out.mono ?_
                      rintro e w' ⟨rfl, q, rfl⟩
                      go_wp2_with fail
                      refine (HM2.out _).mono ?_
                      rintro e w' ⟨rfl, q2, rfl⟩
                      go_wp2_with fail
                      refine (sNext w4.heap.size gc F cc M (dieAt F M k) (wr.drewN (q + q2)) hoc.out (HDl.out k) (by omega) (by omega) (HDx.out k)).mono ?_
                      rintro e w3 ⟨rfl, ho3, hg3⟩
                      rw [(HDn.out k hlt3).1]
                      have HO3 := hide ho3
                      have HG3 := hide hg3
                      clear ho3 hg3
                      go_wp2
                      go_roundg (N - (k + 1))
                      case measure => omega
                      case rel => exact ⟨k + 1, by omega, rfl, rfl, HNo8, hide (by rw [← (HDn.out k hlt3).2]; exact HO3.out), hide ((below_drewN hb6.out (q + q2)).grown HG3.out (below_drewN hb6.out (q + q2)).size (fun g e => by injection e with e; omega))⟩
                    | true =>
                      rw [hW3] at HM2
                      have HR3 : Hid (ring3 F M i j k = true) := hide (by simp [ring3, hW2, hW3, HW.out])
                      clear hW2 hW3
                      go_wp2_with fail
                      refine HM1.out.mono ?_
                      rintro e w' ⟨rfl, q, rfl⟩
                      go_wp2_with fail
                      refine (HM2.out _).mono ?_
                      rintro e w' ⟨rfl, q2, rfl⟩
                      go_wp2
                      go_ret2
                      have hBB := below_drewN (hb.out.trans ((HB4.out.trans (hb6.out.mono HB4.out.size)).mono hb.out.size)) (q + q2)
                      have hz := hBB.size
                      refine ⟨hBB.alloc hz _, Or.inl ⟨i, j, k, _, hlt, hlt2, hlt3, hno6.out, HR3.out, rfl, some _, 3, rfl, ⟨_, rfl, (Bk.new _ _ _).rd, fun x v hx => ?_⟩, Nat.le_refl _⟩⟩
                      have hB1 := (Below.refl (wr.drewN (q + q2)).heap.size (wr.drewN (q + q2))).alloc (Nat.le_refl _) (.cells #[.slice (some ⟨ga, 0, none⟩) F ca, .slice (some ⟨gb, 0, none⟩) F cb, .slice (some ⟨gc, 0, none⟩) F cc] 27)
                      match x, hx with
                      | 0, hx => injection hx with hx; subst hx; exact RV.below (rv_own (owns_below HOA4.out (below_drewN hb6.out (q + q2))) (HDl.out i) hca) hB1
                      | 1, hx => injection hx with hx; subst hx; exact RV.below (rv_own (owns_below HOB4.out (below_drewN hb6.out (q + q2))) (HDl.out j) hcb) hB1
                      | 2, hx => injection hx with hx; subst hx; exact RV.below (rv_own (show (wr.drewN (q + q2)).ownsRow _ _ _ _ _ _ from hoc.out) (HDl.out k) hcc) hB1
                      | x + 3, hx => simp at hx
              · rw [decide_eq_false hlt3]
                have e : k = N := by omega
                have hno7 := hno6.out
                rw [e] at hno7
                have HNo7 : Hid (noRing F M N i (j + 1) 0) := hide fun i' j' k' h1 h2 h3 h4 => hno7 i' j' k' h1 h2 h3 (by omega)
                clear hno7 e
                go_wp2_with fail
                refine (sNext wo.heap.size gb F cb M (dieAt F M j) wr (owns_below HOB4.out hb6.out) (HDl.out j) (by omega) (by omega) (HDx.out j)).mono ?_
                rintro e w3 ⟨rfl, ho3, hg3⟩
                rw [(HDn.out j hlt2).1]
                have HO3 := hide ho3
                have HG3 := hide hg3
                clear ho3 hg3
                go_wp2
                go_roundg (N - (j + 1))
                case measure => omega
                case rel => exact ⟨j + 1, by omega, rfl, rfl, HNo7, hide (by rw [← (HDn.out j hlt2).2]; exact HO3.out), hide ((HB4.out.trans (hb6.out.mono HB4.out.size)).grown HG3.out (HB4.out.trans (hb6.out.mono HB4.out.size)).size (fun g e => by injection e with e; omega))⟩
        · rw [decide_eq_false hlt2]
          have e : j = N := by omega
          have hno3 := hno2.out
          rw [e] at hno3
          have HNo3 := hide (noRing_next hno3)
          clear hno3 e
          go_wp2_with fail
          refine (sNext w.heap.size ga F ca M (dieAt F M i) wr (owns_below hoa.out hb2.out) (HDl.out i) (by omega) (by omega) (HDx.out i)).mono ?_
          rintro e w3 ⟨rfl, ho3, hg3⟩
          rw [(HDn.out i hlt).1]
          have HO3 := hide ho3
          have HG3 := hide hg3
          clear ho3 hg3
          go_wp2
          go_roundg (N - (i + 1))
          case measure => omega
          case rel => exact ⟨i + 1, by omega, rfl, rfl, HNo3, hide (by rw [← (HDn.out i hlt).2]; exact HO3.out), hide ((hb.out.trans (hb2.out.mono hb.out.size)).grown HG3.out (hb.out.trans (hb2.out.mono hb.out.size)).size (fun g e => by injection e with e; omega))⟩
    · rw [decide_eq_false hlt]
      go_wp2
      go_ret2
      refine ⟨hb.out, Or.inr ⟨?_, rfl⟩⟩
      have e : i = N := by omega
      have h := hno.out
      rw [e] at h
      exact h
end Go.Proofs.Ythpboedpoipkcaa
