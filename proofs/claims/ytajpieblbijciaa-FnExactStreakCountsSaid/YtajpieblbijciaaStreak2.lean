/- Contracts of StreakCount and StreakCounts, both sides. Conditions: none. -/
import Derived.Test.YtajpieblbijciaaStreak
import Derived.Deep.RegionWith
namespace Go.Proofs.Ytajpieblbijciaa
open Go.ChangeShapes Go.WideShapes Go.ChangeAt Go.RowKit

def skOk (t n : Int) : Bool := inB t 1 60 && inB n 1 t
def RStreakCount (t n : Int) : Int × Bool := if skOk t n = true then (wrap64 (wrap64 ((2 : Int) ^ t.toNat) - without t.toNat n.toNat), true) else (0, false)

set_option maxHeartbeats 800000 in
theorem sStreakCount (t n : Int) (w : World) (_wf : (Lit.int .i64 t).wf = true) (_wg : (Lit.int .i64 n).wf = true) :
    Calls Try.prog 11 #[.int .i64 t, .int .i64 n] w fun e w' => e = .returned (.tuple #[.int .i64 (RStreakCount t n).1, .bool (RStreakCount t n).2]) ∧ Below w.heap.size w w' := by
  cases hA : inB t 1 60 with
  | false =>
    rw [show RStreakCount t n = (0, false) from by rw [RStreakCount, if_neg (by simp [skOk, hA])]]
    go_enter Try.func11, Try.ntmps11
    go_wp2_with (go_at_call 32; refine (sIn _ _ _ _).mono ?_; rintro e w' ⟨rfl, rfl⟩)
    go_ret2
    exact ⟨rfl, Below.refl _ _⟩
  | true =>
    cases hB : inB n 1 t with
    | false =>
      rw [show RStreakCount t n = (0, false) from by rw [RStreakCount, if_neg (by simp [skOk, hB])]]
      go_enter Try.func11, Try.ntmps11
      go_wp2_with (go_at_call 32; refine (sIn _ _ _ _).mono ?_; rintro e w' ⟨rfl, rfl⟩)
      go_ret2
      exact ⟨rfl, Below.refl _ _⟩
    | true =>
      rw [show RStreakCount t n = (wrap64 (wrap64 ((2 : Int) ^ t.toNat) - without t.toNat n.toNat), true) from by rw [RStreakCount, if_pos (by simp [skOk, hA, hB])]]
      have h1 := inB_iff.1 hA
      have h2 := inB_iff.1 hB
      obtain ⟨h1, h3⟩ := h1
      obtain ⟨h2, h4⟩ := h2
      obtain ⟨t, rfl⟩ := Int.eq_ofNat_of_zero_le (show 0 ≤ t by omega)
      obtain ⟨n, rfl⟩ := Int.eq_ofNat_of_zero_le (show 0 ≤ n by omega)
      simp only [Int.toNat_natCast]
      have HS := Lib.hid (fun W => sWithout t n W (by omega) (by omega) (by omega))
      generalize without t n = z at *
      go_enter Try.func11, Try.ntmps11
      go_wp2_with (first | (go_at_call 32; refine (sIn _ _ _ _).mono ?_; rintro e w' ⟨rfl, rfl⟩) | (go_at_call 33; refine (HS.out _).mono ?_; rintro e w2 ⟨rfl, hb⟩))
      go_ret2
      exact ⟨rfl, hb⟩

set_option maxHeartbeats 800000 in
theorem iStreakCount (t n : Int) (w : World) (_wf : (Lit.int .i64 t).wf = true) (_wg : (Lit.int .i64 n).wf = true) :
    Calls Try.prog 12 #[.int .i64 t, .int .i64 n] w fun e w' => e = .returned (.tuple #[.int .i64 (RStreakCount t n).1, .bool (RStreakCount t n).2]) ∧ Below w.heap.size w w' := by
  cases hA : inB t 1 60 with
  | false =>
    rw [show RStreakCount t n = (0, false) from by rw [RStreakCount, if_neg (by simp [skOk, hA])]]
    go_enter Try.func12, Try.ntmps12
    go_wp2_with (go_at_call 34; refine (iIn _ _ _ _).mono ?_; rintro e w' ⟨rfl, rfl⟩)
    go_ret2
    exact ⟨rfl, Below.refl _ _⟩
  | true =>
    cases hB : inB n 1 t with
    | false =>
      rw [show RStreakCount t n = (0, false) from by rw [RStreakCount, if_neg (by simp [skOk, hB])]]
      go_enter Try.func12, Try.ntmps12
      go_wp2_with (go_at_call 34; refine (iIn _ _ _ _).mono ?_; rintro e w' ⟨rfl, rfl⟩)
      go_ret2
      exact ⟨rfl, Below.refl _ _⟩
    | true =>
      rw [show RStreakCount t n = (wrap64 (wrap64 ((2 : Int) ^ t.toNat) - without t.toNat n.toNat), true) from by rw [RStreakCount, if_pos (by simp [skOk, hA, hB])]]
      have h1 := inB_iff.1 hA
      have h2 := inB_iff.1 hB
      obtain ⟨h1, h3⟩ := h1
      obtain ⟨h2, h4⟩ := h2
      obtain ⟨t, rfl⟩ := Int.eq_ofNat_of_zero_le (show 0 ≤ t by omega)
      obtain ⟨n, rfl⟩ := Int.eq_ofNat_of_zero_le (show 0 ≤ n by omega)
      simp only [Int.toNat_natCast]
      have HS := Lib.hid (fun W => iStreakless t n W (by omega) (by omega))
      generalize without t n = z at *
      go_enter Try.func12, Try.ntmps12
      go_wp2_with (first | (go_at_call 34; refine (iIn _ _ _ _).mono ?_; rintro e w' ⟨rfl, rfl⟩))
      go_region_with (go_at_call 35; refine (HS.out _).mono ?_; rintro e w2 ⟨rfl, hb⟩)
      all_goals go_wp2
      all_goals go_ret2
      all_goals exact ⟨by simp [Act.put, IntKind.wrap_i64, wrap64], by first | exact hb | exact hb.drew | exact (Below.refl _ w).drew.trans hb | exact ((Below.refl _ w).drew.trans hb).drew⟩

/-- the counts of words by their longest streak -/
def skTo (t : Nat) : Nat → List Int
  | 0 => []
  | k + 1 => skTo t k ++ [wrap64 (without t (k + 1) - without t k)]
theorem skTo_len (t k : Nat) : (skTo t k).length = k := by
  induction k with
  | zero => rfl
  | succ k ih => simp [skTo, ih]
theorem without_zero (t : Nat) : without t 0 = 0 := rfl
def RStreakCounts (t : Int) : List Int × Bool := if inB t 1 60 = true then (skTo t.toNat (t.toNat + 1), true) else ([], false)
theorem RStreakCounts_len0 (t : Int) : (RStreakCounts t).1.length ≤ 1048576 := by
  unfold RStreakCounts
  split
  · rename_i h
    have := inB_iff.1 h
    rw [skTo_len]
    omega
  · simp

set_option maxHeartbeats 800000 in
theorem sStreakCounts (t : Int) (w : World) (_wf : (Lit.int .i64 t).wf = true) :
    Calls Try.prog 13 #[.int .i64 t] w fun e w' => ∃ r, e = .returned (.tuple #[r, .bool (RStreakCounts t).2]) ∧ Own w' w.heap.size w'.heap.size r (RStreakCounts t).1 ∧ Below w.heap.size w w' := by
  cases hA : inB t 1 60 with
  | false =>
    rw [show RStreakCounts t = ([], false) from by rw [RStreakCounts, if_neg (by simp [hA])]]
    go_enter Try.func13, Try.ntmps13
    go_wp2_with (go_at_call 32; refine (sIn _ _ _ _).mono ?_; rintro e w' ⟨rfl, rfl⟩)
    go_ret2
    exact ⟨_, rfl, Own.nil _ _ _, Below.refl _ _⟩
  | true =>
    rw [show RStreakCounts t = (skTo t.toNat (t.toNat + 1), true) from by rw [RStreakCounts, if_pos hA]]
    obtain ⟨h1, h2⟩ := inB_iff.1 hA
    obtain ⟨t, rfl⟩ := Int.eq_ofNat_of_zero_le (show 0 ≤ t by omega)
    rw [Int.toNat_natCast]
    go_enter Try.func13, Try.ntmps13
    go_wp2_with (go_at_call 32; refine (sIn _ _ _ _).mono ?_; rintro e w' ⟨rfl, rfl⟩)
    go_loopw [4, 5, 6] (fun r b i wr => ∃ k : Nat, k ≤ t + 1 ∧ i = .int .i64 ((k + 1 : Nat) : Int) ∧ b = .int .i64 (without t k) ∧ OwnL wr w.heap.size r (skTo t k) ∧ Below w.heap.size w wr) (fun _ _ i _ => t + 2 - (intOf i).toNat)
    case atStart => exact ⟨0, Nat.zero_le _, rfl, rfl, OwnL.empty _ _ rfl (Nat.le_refl _), (Below.refl _ _).alloc (Nat.le_refl _) _⟩
    case round =>
      obtain ⟨k, hk, rfl, rfl, ho, hb⟩ := hrel
      by_cases hlt : k < t + 1
      · have HS := Lib.hid (fun W => sWithout t (k + 1) W (by omega) (by omega) (by omega))
        have Hst : Hid (skTo t (k + 1) = skTo t k ++ [wrap64 (without t (k + 1) - without t k)]) := hide rfl
        have hll := skTo_len t k
        have Hll := hide hll
        clear hll
        generalize hz1 : without t (k + 1) = z1 at *
        have HZ1 := hide hz1
        clear hz1
        generalize without t k = z0 at *
        generalize hK : k + 1 = K at *
        have HK := hide hK
        have hK2 : K ≤ t + 1 := by omega
        clear hK
        go_wp2_with fail
        refine (HS.out _).mono ?_
        rintro e w2 ⟨rfl, hb2⟩
        have ho2 := ho.below hb2
        have hz := hb.size
        have hz2 := hb2.size
        have HB := hide (hb.trans (hb2.mono hz))
        clear ho hb hb2
        go_wp2_with (at_builtin; refine app1 ho2 (by rw [Hll.out]; omega) (by omega) rfl rfl rfl rfl ?_; intro v' w3 ho3 hg3)
        go_roundw
        case rel => exact ⟨K, by omega, by go_num, by rw [HZ1.out], by rw [Hst.out]; exact ho3, HB.out.grown hg3 (by omega) (fun j hj => (ho2.lt j hj).1)⟩
        case measure => simp [intOf]; omega
      · have hkn : k = t + 1 := by omega
        subst hkn
        go_wp2
        go_ret2
        exact ⟨_, rfl, ho.own, hb⟩

set_option maxHeartbeats 800000 in
theorem iStreakCounts (t : Int) (w : World) (_wf : (Lit.int .i64 t).wf = true) :
    Calls Try.prog 14 #[.int .i64 t] w fun e w' => ∃ r, e = .returned (.tuple #[r, .bool (RStreakCounts t).2]) ∧ Own w' w.heap.size w'.heap.size r (RStreakCounts t).1 ∧ Below w.heap.size w w' := by
  cases hA : inB t 1 60 with
  | false =>
    rw [show RStreakCounts t = ([], false) from by rw [RStreakCounts, if_neg (by simp [hA])]]
    go_enter Try.func14, Try.ntmps14
    go_wp2_with (go_at_call 34; refine (iIn _ _ _ _).mono ?_; rintro e w' ⟨rfl, rfl⟩)
    go_ret2
    exact ⟨_, rfl, Own.nil _ _ _, Below.refl _ _⟩
  | true =>
    rw [show RStreakCounts t = (skTo t.toNat (t.toNat + 1), true) from by rw [RStreakCounts, if_pos hA]]
    obtain ⟨h1, h2⟩ := inB_iff.1 hA
    obtain ⟨t, rfl⟩ := Int.eq_ofNat_of_zero_le (show 0 ≤ t by omega)
    rw [Int.toNat_natCast]
    go_enter Try.func14, Try.ntmps14
    go_wp2_with (go_at_call 34; refine (iIn _ _ _ _).mono ?_; rintro e w' ⟨rfl, rfl⟩)
    go_loopw [4, 5, 12] (fun r _ i wr => ∃ k : Nat, k ≤ t + 1 ∧ i = .int .i64 (k : Int) ∧ OwnL wr w.heap.size r (skTo t k) ∧ Below w.heap.size w wr) (fun _ _ i _ => t + 1 - (intOf i).toNat)
    case atStart => exact ⟨0, Nat.zero_le _, rfl, OwnL.empty _ _ rfl (Nat.le_refl _), (Below.refl _ _).alloc (Nat.le_refl _) _⟩
    case round =>
      obtain ⟨k, hk, rfl, ho, hb⟩ := hrel
      by_cases hlt : k < t + 1
      · have HS := Lib.hid (fun W => iStreakless t (k + 1) W (by omega) (by omega))
        have HT := Lib.hid (fun W => iStreakless t k W (by omega) (by omega))
        have Hst : Hid (skTo t (k + 1) = skTo t k ++ [wrap64 (without t (k + 1) - without t k)]) := hide rfl
        have hll := skTo_len t k
        have Hll := hide hll
        have ek := hide (show ((k : Int) + 1) = ((k + 1 : Nat) : Int) by omega)
        clear hll
        generalize without t (k + 1) = z1 at *
        generalize without t k = z0 at *
        go_wp2_with fail
        rw [ek.out]
        refine (HS.out _).mono ?_
        rintro e w2 ⟨rfl, hb2⟩
        have ho2 := ho.below hb2
        have hz := hb.size
        have hz2 := hb2.size
        have HB := hide (hb.trans (hb2.mono hz))
        clear ho hb hb2
        go_wp2_with fail
        refine (HT.out _).mono ?_
        rintro e w3 ⟨rfl, hb3⟩
        have ho3 := ho2.below hb3
        have hz3 := hb3.size
        have HB3 := hide (HB.out.trans (hb3.mono (by omega)))
        clear ho2 HB hb3
        go_wp2_with (at_builtin; refine app1 ho3 (by rw [Hll.out]; omega) (by omega) rfl rfl rfl rfl ?_; intro v' w4 ho4 hg4)
        go_roundw
        case rel => exact ⟨k + 1, by omega, by go_num, by rw [Hst.out]; exact ho4, HB3.out.grown hg4 (by omega) (fun j hj => (ho3.lt j hj).1)⟩
        case measure => simp [intOf]; omega
      · have hkn : k = t + 1 := by omega
        subst hkn
        go_wp2
        go_ret2
        exact ⟨_, rfl, ho.own, hb⟩
end Go.Proofs.Ytajpieblbijciaa
