/- Contracts of CouponCounts, both sides. Conditions: none. -/
import Derived.Test.YtajpieblbijciaaNum
namespace Go.Proofs.Ytajpieblbijciaa
open Go.ChangeShapes Go.WideShapes Go.ChangeAt Go.RowKit

/-! ### the plain function, wraps and all -/
def cpA (row nx : List Int) (k : Nat) : List Int := nx.set k (wrap64 (nx.getD k 0 + wrap64 ((k : Int) * row.getD k 0)))
def cpB (m : Nat) (row nx : List Int) (k : Nat) : List Int :=
  if k < m then (cpA row nx k).set (k + 1) (wrap64 (nx.getD (k + 1) 0 + wrap64 (((m : Int) - (k : Int)) * row.getD k 0))) else cpA row nx k
def cpIn (m : Nat) (row : List Int) : Nat → List Int
  | 0 => List.replicate (m + 1) 0
  | k + 1 => cpB m row (cpIn m row k) k
theorem cpIn_len (m : Nat) (row : List Int) (k : Nat) : (cpIn m row k).length = m + 1 := by
  induction k with
  | zero => simp [cpIn]
  | succ k ih =>
    unfold cpIn cpB
    split <;> simp [cpA, ih]
def cpRow (m : Nat) : Nat → List Int
  | 0 => (List.replicate (m + 1) 0).set 0 1
  | t + 1 => cpIn m (cpRow m t) (m + 1)
theorem cpRow_len (m t : Nat) : (cpRow m t).length = m + 1 := by
  cases t with
  | zero => simp [cpRow]
  | succ t => rw [cpRow, cpIn_len]
theorem cpB_yes {m k : Nat} {row nx : List Int} (h : k < m) : cpB m row nx k = (nx.set k (wrap64 (nx.getD k 0 + wrap64 ((k : Int) * row.getD k 0)))).set (k + 1) (wrap64 (nx.getD (k + 1) 0 + wrap64 (((m : Int) - (k : Int)) * row.getD k 0))) := by
  rw [cpB, if_pos h, cpA]
theorem cpB_no {m k : Nat} {row nx : List Int} (h : ¬ k < m) : cpB m row nx k = nx.set k (wrap64 (nx.getD k 0 + wrap64 ((k : Int) * row.getD k 0))) := by
  rw [cpB, if_neg h, cpA]
def cpOk (m t : Int) : Bool := inB m 1 10 && inB t 0 15
def RCouponCounts (m t : Int) : List Int × Bool := if cpOk m t = true then (cpRow m.toNat t.toNat, true) else ([], false)
theorem RCouponCounts_len0 (m t : Int) : (RCouponCounts m t).1.length ≤ 1048576 := by
  unfold RCouponCounts
  split
  · rename_i h
    simp only [cpOk, Bool.and_eq_true, inB_iff] at h
    rw [cpRow_len]
    omega
  · simp

set_option maxHeartbeats 1600000 in
theorem iCouponCounts (m t : Int) (w : World) (_wf : (Lit.int .i64 m).wf = true) (_wg : (Lit.int .i64 t).wf = true) :
    Calls Try.prog 19 #[.int .i64 m, .int .i64 t] w fun e w' => ∃ r, e = .returned (.tuple #[r, .bool (RCouponCounts m t).2]) ∧ Own w' w.heap.size w'.heap.size r (RCouponCounts m t).1 ∧ Below w.heap.size w w' := by
  cases hA : inB m 1 10 with
  | false =>
    rw [show RCouponCounts m t = ([], false) from by rw [RCouponCounts, if_neg (by simp [cpOk, hA])]]
    go_enter Try.func19, Try.ntmps19
    go_wp2_with (go_at_call 34; refine (iIn _ _ _ _).mono ?_; rintro e w' ⟨rfl, rfl⟩)
    go_ret2
    exact ⟨_, rfl, Own.nil _ _ _, Below.refl _ _⟩
  | true =>
    cases hT : inB t 0 15 with
    | false =>
      rw [show RCouponCounts m t = ([], false) from by rw [RCouponCounts, if_neg (by simp [cpOk, hT])]]
      go_enter Try.func19, Try.ntmps19
      go_wp2_with (go_at_call 34; refine (iIn _ _ _ _).mono ?_; rintro e w' ⟨rfl, rfl⟩)
      go_ret2
      exact ⟨_, rfl, Own.nil _ _ _, Below.refl _ _⟩
    | true =>
      rw [show RCouponCounts m t = (cpRow m.toNat t.toNat, true) from by rw [RCouponCounts, if_pos (by simp [cpOk, hA, hT])]]
      obtain ⟨h1, h2⟩ := inB_iff.1 hA
      obtain ⟨h3, h4⟩ := inB_iff.1 hT
      obtain ⟨m, rfl⟩ := Int.eq_ofNat_of_zero_le (show 0 ≤ m by omega)
      obtain ⟨t, rfl⟩ := Int.eq_ofNat_of_zero_le (show 0 ≤ t by omega)
      simp only [Int.toNat_natCast]
      go_enter Try.func19, Try.ntmps19
      go_wp2_with (first | (go_at_call 34; refine (iIn _ _ _ _).mono ?_; rintro e w' ⟨rfl, rfl⟩) | (at_make; refine mk1 (n := m + 1) (by omega) rfl rfl rfl rfl ?_; intro w1 hB1 hb1 hz1; have hc1 := hB1.int (k := 0) (by simp); have hf1 := hB1.free 0))
      have hB2 := hB1.seti 0 1
      have hb2 := hb1.setCell (p := ⟨w.heap.size, 0, none⟩) (Nat.le_refl _) (.int .i64 1)
      clear hc1 hf1 hB1 hb1
      generalize w1.setCell ⟨w.heap.size, 0, none⟩ (.int .i64 1) = w2 at *
      clear hz1
      go_loopw [6, 24] (fun r i wr => ∃ k g : Nat, k ≤ t ∧ i = .int .i64 k ∧ r = .slice (some ⟨g, 0, none⟩) (m + 1) (m + 1) ∧ Bk wr g 2 (iv (cpRow m k)) ∧ w.heap.size ≤ g ∧ Below w.heap.size w wr) (fun _ i _ => t - (intOf i).toNat)
      case atStart => exact ⟨0, w.heap.size, Nat.zero_le _, rfl, rfl, hB2, Nat.le_refl _, hb2⟩
      case round =>
        clear hB2 hb2
        obtain ⟨k, g, hk, rfl, rfl, hB, hg, hb⟩ := hrel
        have hlen := cpRow_len m k
        have Hlen := hide hlen
        clear hlen
        by_cases hlt : k < t
        · go_wp2_with (at_make; refine mk1 (n := m + 1) (by omega) rfl rfl rfl rfl ?_; intro w1 hB1 hb1 hz1)
          have hgw : g < wr.heap.size := hB.lt
          have hBr := hB.below hb1 hgw
          have hbw := hb.trans (hb1.mono hb.size)
          have hzw := hb.size
          generalize hR : cpRow m k = row at *
          have HR := hide hR
          rw [show List.replicate (m + 1) (0 : Int) = cpIn m row 0 from rfl] at hB1
          clear hB hb1 hb hR
          generalize hG2 : wr.heap.size = g2 at *
          clear hG2 hz1
          go_loopw [31] (fun i wx => ∃ j : Nat, j ≤ m + 1 ∧ i = .int .i64 j ∧ Bk wx g 2 (iv row) ∧ Bk wx g2 2 (iv (cpIn m row j)) ∧ Below w.heap.size w wx) (fun i _ => m + 1 - (intOf i).toNat)
          case atStart => exact ⟨0, Nat.zero_le _, rfl, hBr, hB1, hbw⟩
          case round =>
            clear hBr hB1 hbw
            obtain ⟨j, hj, rfl, hBr, hB1, hbw⟩ := hrel
            have hl2 := cpIn_len m row j
            have Hl2 := hide hl2
            clear hl2
            by_cases hjt : j < m + 1
            · have hc1 := hBr.int (k := j) (by rw [Hlen.out]; exact hjt)
              have hc2 := hB1.int (k := j) (by rw [Hl2.out]; omega)
              have hf2 := hB1.free j
              by_cases hjn : j < m
              · have hst := cpB_yes (row := row) (nx := cpIn m row j) hjn
                have hc3 := hB1.int (k := j + 1) (by rw [Hl2.out]; omega)
                have hf3 := hB1.free (j + 1)
                have HB := hide ((hB1.seti j (wrap64 ((cpIn m row j).getD j 0 + wrap64 ((j : Int) * row.getD j 0)))).seti (j + 1) (wrap64 ((cpIn m row j).getD (j + 1) 0 + wrap64 (((m : Int) - (j : Int)) * row.getD j 0))))
                rw [← hst] at HB
                have HBr := hide hBr
                have Hbw := hide hbw
                clear hst hBr hB1 hbw
                generalize row.getD j 0 = y at *
                generalize (cpIn m row j).getD j 0 = x0 at *
                generalize (cpIn m row j).getD (j + 1) 0 = x1 at *
                go_wp2
                go_roundw
                case rel => exact ⟨j + 1, by omega, by go_num, (HBr.out.far (by show g ≠ g2; omega) _).far (by show g ≠ g2; omega) _, HB.out, (by first | exact ((Hbw.out.setCell hzw _).setCell hzw _).drew.drew | exact ((Hbw.out.setCell hzw _).setCell hzw _).drew | exact ((Hbw.out.setCell hzw _).setCell hzw _))⟩
                case measure => simp [intOf]; omega
              · have hst := cpB_no (row := row) (nx := cpIn m row j) hjn
                have HB := hide (hB1.seti j (wrap64 ((cpIn m row j).getD j 0 + wrap64 ((j : Int) * row.getD j 0))))
                rw [← hst] at HB
                have HBr := hide hBr
                have Hbw := hide hbw
                clear hst hBr hB1 hbw
                generalize row.getD j 0 = y at *
                generalize (cpIn m row j).getD j 0 = x0 at *
                go_wp2
                go_roundw
                case rel => exact ⟨j + 1, by omega, by go_num, HBr.out.far (by show g ≠ g2; omega) _, HB.out, (by first | exact (Hbw.out.setCell hzw _).drew | exact (Hbw.out.setCell hzw _))⟩
                case measure => simp [intOf]; omega
            · have hjn : j = m + 1 := by omega
              have HB : Hid (Bk _ g2 2 (iv (cpRow m (k + 1)))) := hide (by rw [cpRow, HR.out, ← hjn]; exact hB1)
              have Hbw := hide hbw
              have hjm : m < j := by omega
              clear hBr hB1 hbw hjn hj hjt
              go_wp2
              go_roundw
              case rel => exact ⟨k + 1, g2, by omega, by go_num, rfl, HB.out, by omega, Hbw.out⟩
              case measure => simp [intOf]; omega
        · have hkt : k = t := by omega
          subst hkt
          have Ho := hide (hB.owned hg (by rw [Hlen.out]; unfold maxLen; omega))
          rw [Hlen.out] at Ho
          have Hb := hide hb
          clear hb
          go_wp2
          go_ret2
          exact ⟨_, rfl, Ho.out, Hb.out⟩

set_option maxHeartbeats 1600000 in
theorem sCouponCounts (m t : Int) (w : World) (_wf : (Lit.int .i64 m).wf = true) (_wg : (Lit.int .i64 t).wf = true) :
    Calls Try.prog 18 #[.int .i64 m, .int .i64 t] w fun e w' => ∃ r, e = .returned (.tuple #[r, .bool (RCouponCounts m t).2]) ∧ Own w' w.heap.size w'.heap.size r (RCouponCounts m t).1 ∧ Below w.heap.size w w' := by
  cases hA : inB m 1 10 with
  | false =>
    rw [show RCouponCounts m t = ([], false) from by rw [RCouponCounts, if_neg (by simp [cpOk, hA])]]
    go_enter Try.func18, Try.ntmps18
    go_wp2_with (go_at_call 32; refine (sIn _ _ _ _).mono ?_; rintro e w' ⟨rfl, rfl⟩)
    go_ret2
    exact ⟨_, rfl, Own.nil _ _ _, Below.refl _ _⟩
  | true =>
    cases hT : inB t 0 15 with
    | false =>
      rw [show RCouponCounts m t = ([], false) from by rw [RCouponCounts, if_neg (by simp [cpOk, hT])]]
      go_enter Try.func18, Try.ntmps18
      go_wp2_with (go_at_call 32; refine (sIn _ _ _ _).mono ?_; rintro e w' ⟨rfl, rfl⟩)
      go_ret2
      exact ⟨_, rfl, Own.nil _ _ _, Below.refl _ _⟩
    | true =>
      rw [show RCouponCounts m t = (cpRow m.toNat t.toNat, true) from by rw [RCouponCounts, if_pos (by simp [cpOk, hA, hT])]]
      obtain ⟨h1, h2⟩ := inB_iff.1 hA
      obtain ⟨h3, h4⟩ := inB_iff.1 hT
      obtain ⟨m, rfl⟩ := Int.eq_ofNat_of_zero_le (show 0 ≤ m by omega)
      obtain ⟨t, rfl⟩ := Int.eq_ofNat_of_zero_le (show 0 ≤ t by omega)
      simp only [Int.toNat_natCast]
      go_enter Try.func18, Try.ntmps18
      go_wp2_with (first | (go_at_call 32; refine (sIn _ _ _ _).mono ?_; rintro e w' ⟨rfl, rfl⟩) | (at_make; refine mk1 (n := m + 1) (by omega) rfl rfl rfl rfl ?_; intro w1 hB1 hb1 hz1; have hc1 := hB1.int (k := 0) (by simp); have hf1 := hB1.free 0))
      have hB2 := hB1.seti 0 1
      have hb2 := hb1.setCell (p := ⟨w.heap.size, 0, none⟩) (Nat.le_refl _) (.int .i64 1)
      clear hc1 hf1 hB1 hb1
      generalize w1.setCell ⟨w.heap.size, 0, none⟩ (.int .i64 1) = w2 at *
      clear hz1
      go_loopw [6, 7] (fun r i wr => ∃ k g : Nat, k ≤ t ∧ i = .int .i64 k ∧ r = .slice (some ⟨g, 0, none⟩) (m + 1) (m + 1) ∧ Bk wr g 2 (iv (cpRow m k)) ∧ w.heap.size ≤ g ∧ Below w.heap.size w wr) (fun _ i _ => t - (intOf i).toNat)
      case atStart => exact ⟨0, w.heap.size, Nat.zero_le _, rfl, rfl, hB2, Nat.le_refl _, hb2⟩
      case round =>
        clear hB2 hb2
        obtain ⟨k, g, hk, rfl, rfl, hB, hg, hb⟩ := hrel
        have hlen := cpRow_len m k
        have Hlen := hide hlen
        clear hlen
        by_cases hlt : k < t
        · go_wp2_with (at_make; refine mk1 (n := m + 1) (by omega) rfl rfl rfl rfl ?_; intro w1 hB1 hb1 hz1)
          have hgw : g < wr.heap.size := hB.lt
          have hBr := hB.below hb1 hgw
          have hbw := hb.trans (hb1.mono hb.size)
          have hzw := hb.size
          generalize hR : cpRow m k = row at *
          have HR := hide hR
          rw [show List.replicate (m + 1) (0 : Int) = cpIn m row 0 from rfl] at hB1
          clear hB hb1 hb hR
          generalize hG2 : wr.heap.size = g2 at *
          clear hG2 hz1
          go_loopw [9] (fun i wx => ∃ j : Nat, j ≤ m + 1 ∧ i = .int .i64 j ∧ Bk wx g 2 (iv row) ∧ Bk wx g2 2 (iv (cpIn m row j)) ∧ Below w.heap.size w wx) (fun i _ => m + 1 - (intOf i).toNat)
          case atStart => exact ⟨0, Nat.zero_le _, rfl, hBr, hB1, hbw⟩
          case round =>
            clear hBr hB1 hbw
            obtain ⟨j, hj, rfl, hBr, hB1, hbw⟩ := hrel
            have hl2 := cpIn_len m row j
            have Hl2 := hide hl2
            clear hl2
            by_cases hjt : j < m + 1
            · have hc1 := hBr.int (k := j) (by rw [Hlen.out]; exact hjt)
              have hc2 := hB1.int (k := j) (by rw [Hl2.out]; omega)
              have hf2 := hB1.free j
              by_cases hjn : j < m
              · have hst := cpB_yes (row := row) (nx := cpIn m row j) hjn
                have hc3 := hB1.int (k := j + 1) (by rw [Hl2.out]; omega)
                have hf3 := hB1.free (j + 1)
                have HB := hide ((hB1.seti j (wrap64 ((cpIn m row j).getD j 0 + wrap64 ((j : Int) * row.getD j 0)))).seti (j + 1) (wrap64 ((cpIn m row j).getD (j + 1) 0 + wrap64 (((m : Int) - (j : Int)) * row.getD j 0))))
                rw [← hst] at HB
                have HBr := hide hBr
                have Hbw := hide hbw
                clear hst hBr hB1 hbw
                generalize row.getD j 0 = y at *
                generalize (cpIn m row j).getD j 0 = x0 at *
                generalize (cpIn m row j).getD (j + 1) 0 = x1 at *
                go_wp2
                go_region
                all_goals go_wp2
                all_goals go_region
                all_goals go_wp2
                all_goals go_roundw
                case rel => exact ⟨j + 1, by omega, by go_num, (HBr.out.far (by show g ≠ g2; omega) _).far (by show g ≠ g2; omega) _, HB.out, (by first | exact ((Hbw.out.setCell hzw _).setCell hzw _).drew.drew | exact ((Hbw.out.setCell hzw _).setCell hzw _).drew | exact ((Hbw.out.setCell hzw _).setCell hzw _))⟩
                case measure => simp [intOf]; omega
              · have hst := cpB_no (row := row) (nx := cpIn m row j) hjn
                have HB := hide (hB1.seti j (wrap64 ((cpIn m row j).getD j 0 + wrap64 ((j : Int) * row.getD j 0))))
                rw [← hst] at HB
                have HBr := hide hBr
                have Hbw := hide hbw
                clear hst hBr hB1 hbw
                generalize row.getD j 0 = y at *
                generalize (cpIn m row j).getD j 0 = x0 at *
                go_wp2
                go_region
                all_goals go_wp2
                all_goals go_roundw
                case rel => exact ⟨j + 1, by omega, by go_num, HBr.out.far (by show g ≠ g2; omega) _, HB.out, (by first | exact (Hbw.out.setCell hzw _).drew | exact (Hbw.out.setCell hzw _))⟩
                case measure => simp [intOf]; omega
            · have hjn : j = m + 1 := by omega
              have HB : Hid (Bk _ g2 2 (iv (cpRow m (k + 1)))) := hide (by rw [cpRow, HR.out, ← hjn]; exact hB1)
              have Hbw := hide hbw
              have hjm : m < j := by omega
              clear hBr hB1 hbw hjn hj hjt
              go_wp2
              go_roundw
              case rel => exact ⟨k + 1, g2, by omega, by go_num, rfl, HB.out, by omega, Hbw.out⟩
              case measure => simp [intOf]; omega
        · have hkt : k = t := by omega
          subst hkt
          have Ho := hide (hB.owned hg (by rw [Hlen.out]; unfold maxLen; omega))
          rw [Hlen.out] at Ho
          have Hb := hide hb
          clear hb
          go_wp2
          go_ret2
          exact ⟨_, rfl, Ho.out, Hb.out⟩
end Go.Proofs.Ytajpieblbijciaa
