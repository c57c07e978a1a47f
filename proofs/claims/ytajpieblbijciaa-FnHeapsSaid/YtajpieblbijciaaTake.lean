/- Contracts of the values of heaps and of TakeValues, both sides. Conditions: lengths at most 2^20. Printed by gen_take.py. -/
import Derived.Test.YtajpieblbijciaaMoves
namespace Go.Proofs.Ytajpieblbijciaa
open Go.ChangeShapes Go.WideShapes Go.ChangeAt Go.RowKit

/-- the values that the first i moves leave of k -/
def tvL (ms out : List Int) (k i : Nat) : List Int := ((ms.take i).filter fun m => decide (m ≤ (k : Int))).map fun m => out.getD (k - m.toNat) 0
theorem tvL_zero (ms out : List Int) (k : Nat) : tvL ms out k 0 = [] := by simp [tvL]
theorem tvL_yes {ms out : List Int} {k i : Nat} (hi : i < ms.length) (h : ms.getD i 0 ≤ (k : Int)) : tvL ms out k (i + 1) = tvL ms out k i ++ [out.getD (k - (ms.getD i 0).toNat) 0] := by
  rw [tvL, tvL, take_snoc' ms 0 i hi, List.filter_append, List.map_append, List.filter_cons_of_pos (by simpa using h)]
  rfl
theorem tvL_no {ms out : List Int} {k i : Nat} (hi : i < ms.length) (h : ¬ ms.getD i 0 ≤ (k : Int)) : tvL ms out k (i + 1) = tvL ms out k i := by
  rw [tvL, tvL, take_snoc' ms 0 i hi, List.filter_append, List.filter_cons_of_neg (by simpa using h)]
  simp
theorem tvL_len (ms out : List Int) (k i : Nat) : (tvL ms out k i).length ≤ i := by
  unfold tvL
  rw [List.length_map]
  exact Nat.le_trans (List.length_filter_le _ _) (by simp; omega)
/-- the values of the heaps up to size k - 1 -/
def tvTo (ms : List Int) : Nat → List Int
  | 0 => []
  | k + 1 => tvTo ms k ++ [(mex (tvL ms (tvTo ms k) k ms.length) : Int)]
theorem tvTo_len (ms : List Int) (k : Nat) : (tvTo ms k).length = k := by
  induction k with
  | zero => rfl
  | succ k ih => simp [tvTo, ih]

set_option maxHeartbeats 1600000 in
theorem sValues (v : Value) (ms : List Int) (n : Nat) (w : World) (hv : RV w v ms) (hm : movesB ms = true) (hn : n ≤ 200) :
    Calls Try.prog 42 #[v, .int .i64 (n : Int)] w fun e w' => ∃ r, e = .returned r ∧ Own w' w.heap.size w'.heap.size r (tvTo ms (n + 1)) ∧ Below w.heap.size w w' := by
  obtain ⟨hm1, hm8, hmb⟩ := movesB_of hm
  obtain ⟨A, c, rfl, hr, hcc⟩ := hv
  have Hmb := hide hmb
  clear hmb hm
  generalize hN : ms.length = N at *
  have HN := hide hN
  clear hN
  go_enter Try.func42, Try.ntmps42
  go_wp2
  go_loopw [5, 6] (fun r i wr => ∃ k H : Nat, k ≤ n + 1 ∧ i = .int .i64 k ∧ Hid (wr.heap.size = H) ∧ OwnL wr w.heap.size r (tvTo ms k) ∧ Below w.heap.size w wr) (fun _ i _ => n + 2 - (intOf i).toNat)
  case atStart => exact ⟨0, _, Nat.zero_le _, rfl, hide rfl, OwnL.empty _ _ rfl (Nat.le_refl _), (Below.refl _ _).alloc (Nat.le_refl _) _⟩
  case round =>
    obtain ⟨k, H, hk, rfl, hH, ho, hb⟩ := hrel
    by_cases hlt : k < n + 1
    · have dk1 : decide (k ≤ n) = true := decide_eq_true (by omega)
      have dk2 : decide (k < n + 1) = true := decide_eq_true hlt
      have dk3 : decide ((k : Int) < (n : Int) + 1) = true := decide_eq_true (by omega)
      have Hst : Hid (tvTo ms (k + 1) = tvTo ms k ++ [(mex (tvL ms (tvTo ms k) k N) : Int)]) := hide (by rw [← HN.out]; rfl)
      have hlo := tvTo_len ms k
      generalize tvTo ms k = out at *
      have hoo := ho.own
      rw [hH.out] at hoo
      obtain ⟨B, d, e, hd1, hd2, -, -⟩ := hoo.form
      rw [hlo] at e hd1
      subst e
      have Hlo := hide hlo
      clear hlo ho
      have hsz := hb.size
      rw [hH.out] at hsz
      have Hal : Hid (∀ o, H ≤ (wr.alloc o).heap.size) := hide fun o => by
        rw [← hH.out]
        exact ((Below.refl _ wr).alloc (Nat.le_refl _) o).size
      go_wp2
      go_loopw [7, 8] (fun l i w2 => ∃ j : Nat, j ≤ N ∧ i = .int .i64 j ∧ OwnL w2 H l (tvL ms out k j) ∧ Own w2 w.heap.size H (.slice B k d) out ∧ Below w.heap.size w w2 ∧ Hid (H ≤ w2.heap.size)) (fun _ i _ => N - (intOf i).toNat)
      case atStart => exact ⟨0, Nat.zero_le _, rfl, by rw [tvL_zero]; exact OwnL.empty _ _ rfl (by rw [hH.out]; exact Nat.le_refl _), hoo.below ((Below.refl _ _).alloc (Nat.le_refl _) _), hb.alloc hb.size _, hide (Hal.out _)⟩
      case round =>
        obtain ⟨j, hj, rfl, hl, ho2, hb2, hH2⟩ := hrel
        by_cases hjn : j < N
        · obtain ⟨ad, rfl, hbl, hcell⟩ := (hr.below hb2).int hjn
          obtain ⟨hm1', hm2'⟩ := Hmb.out j hjn
          have Hyes : Hid (ms.getD j 0 ≤ (k : Int) → tvL ms out k (j + 1) = tvL ms out k j ++ [out.getD (k - (ms.getD j 0).toNat) 0]) := hide fun h => tvL_yes (by rw [HN.out]; exact hjn) h
          have Hno : Hid (¬ ms.getD j 0 ≤ (k : Int) → tvL ms out k (j + 1) = tvL ms out k j) := hide fun h => tvL_no (by rw [HN.out]; exact hjn) h
          have hll := tvL_len ms out k j
          generalize ms.getD j 0 = m at *
          obtain ⟨m, rfl⟩ := Int.eq_ofNat_of_zero_le (show 0 ≤ m by omega)
          rw [Int.toNat_natCast] at Hyes
          by_cases hmk : m ≤ k
          · have Hs := hide (Hyes.out (by omega))
            have hkm : k - m < k := by omega
            have dmk : decide (m ≤ k) = true := decide_eq_true hmk
            obtain ⟨bd, rfl, hbb, hcb⟩ := ho2.rd.1.int hkm
            generalize out.getD (k - m) 0 = y at *
            generalize hT : tvL ms out k j = T at *
            have hl2 : T.length ≤ 1048576 := by omega
            have Hl2 := hide hl2
            have HH2 := hH2.out
            clear hll Hyes Hno hT hl2
            go_wp2_with (at_builtin; refine app1 hl Hl2.out (by omega) rfl rfl rfl rfl ?_; intro v' w3 ho3 hg3)
            go_roundw
            case rel => exact ⟨j + 1, by omega, by go_num, by rw [Hs.out]; exact ho3, ho2.grown hg3 (fun g hg => Or.inr (hl.lt g hg).1), hb2.grown hg3 (by omega) (fun g hg => by have := (hl.lt g hg).1; omega), hide (by have := hg3.size; omega)⟩
            case measure => simp [intOf]; omega
          · have Hs := hide (Hno.out (by omega))
            have dmk : decide (m ≤ k) = false := decide_eq_false hmk
            clear Hyes Hno hll
            go_wp2
            go_roundw
            case rel => exact ⟨j + 1, by omega, by go_num, by rw [Hs.out]; exact hl, ho2, hb2, hH2⟩
            case measure => simp [intOf]; omega
        · have hjN : j = N := by omega
          subst hjN
          have hll := tvL_len ms out k j
          generalize tvL ms out k j = T at *
          have HM := Lib.hid (sMex _ T _ hl.own.rv (by omega))
          generalize (mex T : Int) = y at *
          have ho3 := ho2.l
          have Hl3 : Hid (out.length ≤ 1048576) := hide (by rw [Hlo.out]; omega)
          have HH2 := hH2.out
          clear ho2 hl hll
          go_wp2_with (first | (go_at_call 39; refine HM.out.mono ?_; rintro e w' ⟨rfl, rfl⟩) | (at_builtin; refine app1 ho3 Hl3.out (by omega) rfl rfl rfl rfl ?_; intro v' w4 ho4 hg4))
          go_roundw
          case rel => exact ⟨k + 1, _, by omega, by go_num, hide rfl, by rw [Hst.out]; exact ho4, hb2.grown hg4 (by omega) (fun g hg => (ho3.lt g hg).1)⟩
          case measure => simp [intOf]; omega
    · have hkn : k = n + 1 := by omega
      subst hkn
      go_wp2
      go_ret
      exact ⟨_, rfl, ho.own, hb⟩

set_option maxHeartbeats 1600000 in
theorem iValues (v : Value) (ms : List Int) (n : Nat) (w : World) (hv : RV w v ms) (hm : movesB ms = true) (hn : n ≤ 200) :
    Calls Try.prog 44 #[v, .int .i64 (n : Int)] w fun e w' => ∃ r, e = .returned r ∧ Own w' w.heap.size w'.heap.size r (tvTo ms (n + 1)) ∧ Below w.heap.size w w' := by
  obtain ⟨hm1, hm8, hmb⟩ := movesB_of hm
  obtain ⟨A, c, rfl, hr, hcc⟩ := hv
  have Hmb := hide hmb
  clear hmb hm
  generalize hN : ms.length = N at *
  have HN := hide hN
  clear hN
  go_enter Try.func44, Try.ntmps44
  go_wp2
  go_loopw [5, 13] (fun r i wr => ∃ k H : Nat, k ≤ n + 1 ∧ i = .int .i64 k ∧ Hid (wr.heap.size = H) ∧ OwnL wr w.heap.size r (tvTo ms k) ∧ Below w.heap.size w wr) (fun _ i _ => n + 2 - (intOf i).toNat)
  case atStart => exact ⟨0, _, Nat.zero_le _, rfl, hide rfl, OwnL.empty _ _ rfl (Nat.le_refl _), (Below.refl _ _).alloc (Nat.le_refl _) _⟩
  case round =>
    obtain ⟨k, H, hk, rfl, hH, ho, hb⟩ := hrel
    by_cases hlt : k < n + 1
    · have dk1 : decide (k ≤ n) = true := decide_eq_true (by omega)
      have dk2 : decide (k < n + 1) = true := decide_eq_true hlt
      have dk3 : decide ((k : Int) < (n : Int) + 1) = true := decide_eq_true (by omega)
      have Hst : Hid (tvTo ms (k + 1) = tvTo ms k ++ [(mex (tvL ms (tvTo ms k) k N) : Int)]) := hide (by rw [← HN.out]; rfl)
      have hlo := tvTo_len ms k
      generalize tvTo ms k = out at *
      have hoo := ho.own
      rw [hH.out] at hoo
      obtain ⟨B, d, e, hd1, hd2, -, -⟩ := hoo.form
      rw [hlo] at e hd1
      subst e
      have Hlo := hide hlo
      clear hlo ho
      have hsz := hb.size
      rw [hH.out] at hsz
      have Hal : Hid (∀ o, H ≤ (wr.alloc o).heap.size) := hide fun o => by
        rw [← hH.out]
        exact ((Below.refl _ wr).alloc (Nat.le_refl _) o).size
      go_wp2
      go_loopw [7, 19] (fun l i w2 => ∃ j : Nat, j ≤ N ∧ i = .int .i64 j ∧ OwnL w2 H l (tvL ms out k j) ∧ Own w2 w.heap.size H (.slice B k d) out ∧ Below w.heap.size w w2 ∧ Hid (H ≤ w2.heap.size)) (fun _ i _ => N - (intOf i).toNat)
      case atStart => exact ⟨0, Nat.zero_le _, rfl, by rw [tvL_zero]; exact OwnL.empty _ _ rfl (by rw [hH.out]; exact Nat.le_refl _), hoo.below ((Below.refl _ _).alloc (Nat.le_refl _) _), hb.alloc hb.size _, hide (Hal.out _)⟩
      case round =>
        obtain ⟨j, hj, rfl, hl, ho2, hb2, hH2⟩ := hrel
        by_cases hjn : j < N
        · obtain ⟨ad, rfl, hbl, hcell⟩ := (hr.below hb2).int hjn
          obtain ⟨hm1', hm2'⟩ := Hmb.out j hjn
          have Hyes : Hid (ms.getD j 0 ≤ (k : Int) → tvL ms out k (j + 1) = tvL ms out k j ++ [out.getD (k - (ms.getD j 0).toNat) 0]) := hide fun h => tvL_yes (by rw [HN.out]; exact hjn) h
          have Hno : Hid (¬ ms.getD j 0 ≤ (k : Int) → tvL ms out k (j + 1) = tvL ms out k j) := hide fun h => tvL_no (by rw [HN.out]; exact hjn) h
          have hll := tvL_len ms out k j
          generalize ms.getD j 0 = m at *
          obtain ⟨m, rfl⟩ := Int.eq_ofNat_of_zero_le (show 0 ≤ m by omega)
          rw [Int.toNat_natCast] at Hyes
          by_cases hmk : m ≤ k
          · have Hs := hide (Hyes.out (by omega))
            have hkm : k - m < k := by omega
            have dmk : decide (m ≤ k) = true := decide_eq_true hmk
            obtain ⟨bd, rfl, hbb, hcb⟩ := ho2.rd.1.int hkm
            generalize out.getD (k - m) 0 = y at *
            generalize hT : tvL ms out k j = T at *
            have hl2 : T.length ≤ 1048576 := by omega
            have Hl2 := hide hl2
            have HH2 := hH2.out
            clear hll Hyes Hno hT hl2
            go_wp2_with (at_builtin; refine app1 hl Hl2.out (by omega) rfl rfl rfl rfl ?_; intro v' w3 ho3 hg3)
            go_roundw
            case rel => exact ⟨j + 1, by omega, by go_num, by rw [Hs.out]; exact ho3, ho2.grown hg3 (fun g hg => Or.inr (hl.lt g hg).1), hb2.grown hg3 (by omega) (fun g hg => by have := (hl.lt g hg).1; omega), hide (by have := hg3.size; omega)⟩
            case measure => simp [intOf]; omega
          · have Hs := hide (Hno.out (by omega))
            have dmk : decide (m ≤ k) = false := decide_eq_false hmk
            clear Hyes Hno hll
            go_wp2
            go_roundw
            case rel => exact ⟨j + 1, by omega, by go_num, by rw [Hs.out]; exact hl, ho2, hb2, hH2⟩
            case measure => simp [intOf]; omega
        · have hjN : j = N := by omega
          subst hjN
          have hll := tvL_len ms out k j
          generalize tvL ms out k j = T at *
          have HM := Lib.hid (iMex _ T _ hl.own.rv (by omega))
          generalize (mex T : Int) = y at *
          have ho3 := ho2.l
          have Hl3 : Hid (out.length ≤ 1048576) := hide (by rw [Hlo.out]; omega)
          have HH2 := hH2.out
          clear ho2 hl hll
          go_wp2_with (first | (go_at_call 40; refine HM.out.mono ?_; rintro e w' ⟨rfl, rfl⟩) | (at_builtin; refine app1 ho3 Hl3.out (by omega) rfl rfl rfl rfl ?_; intro v' w4 ho4 hg4))
          go_roundw
          case rel => exact ⟨k + 1, _, by omega, by go_num, hide rfl, by rw [Hst.out]; exact ho4, hb2.grown hg4 (by omega) (fun g hg => (ho3.lt g hg).1)⟩
          case measure => simp [intOf]; omega
    · have hkn : k = n + 1 := by omega
      subst hkn
      go_wp2
      go_ret
      exact ⟨_, rfl, ho.own, hb⟩

def takeOk (ms : List Int) (n : Int) : Bool := movesB ms && inB n 0 200
def RTakeValues (ms : List Int) (n : Int) : List Int × Bool := if takeOk ms n = true then (tvTo ms (n.toNat + 1), true) else ([], false)
theorem RTakeValues_len0 (ms : List Int) (n : Int) : (RTakeValues ms n).1.length ≤ 1048576 := by
  unfold RTakeValues
  split
  · rename_i hq
    simp only [takeOk, Bool.and_eq_true] at hq
    have := inB_iff.1 hq.2
    rw [tvTo_len]
    omega
  · simp
theorem sMovesV (v : Value) (xs : List Int) (w : World) (hv : RV w v xs) (hn : xs.length ≤ 1048576) :
    Calls Try.prog 41 #[v] w fun e w' => e = .returned (.bool (movesB xs)) ∧ ∃ q, w' = w.drewN q := by
  obtain ⟨A, c, rfl, hr, _⟩ := hv
  exact sTakes A _ c xs w hr hn
theorem iMovesV (v : Value) (xs : List Int) (w : World) (hv : RV w v xs) (hn : xs.length ≤ 1048576) :
    Calls Try.prog 43 #[v] w fun e w' => e = .returned (.bool (movesB xs)) ∧ ∃ q, w' = w.drewN q := by
  obtain ⟨A, c, rfl, hr, _⟩ := hv
  exact (iMoves A _ c xs w hr hn).mono fun _ _ ⟨h1, h2⟩ => ⟨h1, 0, h2.symm⟩

set_option maxHeartbeats 800000 in
theorem sTakeValues (v : Value) (ms : List Int) (n : Int) (w : World) (hv : RV w v ms) (hn : ms.length ≤ 1048576) (_w1 : (Lit.int .i64 n).wf = true) :
    Calls Try.prog 24 #[v, .int .i64 n] w fun e w' => ∃ r, e = .returned (.tuple #[r, .bool (RTakeValues ms n).2]) ∧ Own w' w.heap.size w'.heap.size r (RTakeValues ms n).1 ∧ Below w.heap.size w w' := by
  have HA := Lib.hid (sMovesV v ms w hv hn)
  cases hA : movesB ms with
  | false =>
    rw [show RTakeValues ms n = ([], false) from by rw [RTakeValues, if_neg (by simp [takeOk, hA])]]
    rw [hA] at HA
    go_enter Try.func24, Try.ntmps24
    go_wp2_with (go_at_call 41; refine HA.out.mono ?_; rintro e w' ⟨rfl, q, rfl⟩)
    go_ret2
    exact ⟨_, rfl, Own.nil _ _ _, below_drewN (Below.refl _ _) _⟩
  | true =>
    cases hB : inB n 0 200 with
    | false =>
      rw [show RTakeValues ms n = ([], false) from by rw [RTakeValues, if_neg (by simp [takeOk, hB])]]
      rw [hA] at HA
      go_enter Try.func24, Try.ntmps24
      go_wp2_with (first | (go_at_call 41; refine HA.out.mono ?_; rintro e w' ⟨rfl, q, rfl⟩) | (go_at_call 32; refine (sIn _ _ _ _).mono ?_; rintro e w' ⟨rfl, rfl⟩))
      go_ret2
      exact ⟨_, rfl, Own.nil _ _ _, below_drewN (Below.refl _ _) _⟩
    | true =>
      rw [show RTakeValues ms n = (tvTo ms (n.toNat + 1), true) from by rw [RTakeValues, if_pos (by simp [takeOk, hA, hB])]]
      obtain ⟨h1, h2⟩ := inB_iff.1 hB
      obtain ⟨n, rfl⟩ := Int.eq_ofNat_of_zero_le h1
      rw [Int.toNat_natCast]
      have HV := Lib.hid (fun q => sValues v ms n (w.drewN q) (hv.below (below_drewN (Below.refl _ _) _)) hA (by omega))
      rw [hA] at HA
      generalize tvTo ms (n + 1) = out at *
      go_enter Try.func24, Try.ntmps24
      go_wp2_with (first | (go_at_call 41; refine HA.out.mono ?_; rintro e w' ⟨rfl, q, rfl⟩) | (go_at_call 32; refine (sIn _ _ _ _).mono ?_; rintro e w' ⟨rfl, rfl⟩) | (go_at_call 42; refine (HV.out q).mono ?_; rintro e w2 ⟨r, rfl, hoR, hbR⟩))
      go_ret2
      exact ⟨_, rfl, hoR, (below_drewN (Below.refl _ _) q).trans hbR⟩

set_option maxHeartbeats 800000 in
theorem iTakeValues (v : Value) (ms : List Int) (n : Int) (w : World) (hv : RV w v ms) (hn : ms.length ≤ 1048576) (_w1 : (Lit.int .i64 n).wf = true) :
    Calls Try.prog 26 #[v, .int .i64 n] w fun e w' => ∃ r, e = .returned (.tuple #[r, .bool (RTakeValues ms n).2]) ∧ Own w' w.heap.size w'.heap.size r (RTakeValues ms n).1 ∧ Below w.heap.size w w' := by
  have HA := Lib.hid (iMovesV v ms w hv hn)
  cases hA : movesB ms with
  | false =>
    rw [show RTakeValues ms n = ([], false) from by rw [RTakeValues, if_neg (by simp [takeOk, hA])]]
    rw [hA] at HA
    go_enter Try.func26, Try.ntmps26
    go_wp2_with (go_at_call 43; refine HA.out.mono ?_; rintro e w' ⟨rfl, q, rfl⟩)
    go_ret2
    exact ⟨_, rfl, Own.nil _ _ _, below_drewN (Below.refl _ _) _⟩
  | true =>
    cases hB : inB n 0 200 with
    | false =>
      rw [show RTakeValues ms n = ([], false) from by rw [RTakeValues, if_neg (by simp [takeOk, hB])]]
      rw [hA] at HA
      go_enter Try.func26, Try.ntmps26
      go_wp2_with (first | (go_at_call 43; refine HA.out.mono ?_; rintro e w' ⟨rfl, q, rfl⟩) | (go_at_call 34; refine (iIn _ _ _ _).mono ?_; rintro e w' ⟨rfl, rfl⟩))
      go_ret2
      exact ⟨_, rfl, Own.nil _ _ _, below_drewN (Below.refl _ _) _⟩
    | true =>
      rw [show RTakeValues ms n = (tvTo ms (n.toNat + 1), true) from by rw [RTakeValues, if_pos (by simp [takeOk, hA, hB])]]
      obtain ⟨h1, h2⟩ := inB_iff.1 hB
      obtain ⟨n, rfl⟩ := Int.eq_ofNat_of_zero_le h1
      rw [Int.toNat_natCast]
      have HV := Lib.hid (fun q => iValues v ms n (w.drewN q) (hv.below (below_drewN (Below.refl _ _) _)) hA (by omega))
      rw [hA] at HA
      generalize tvTo ms (n + 1) = out at *
      go_enter Try.func26, Try.ntmps26
      go_wp2_with (first | (go_at_call 43; refine HA.out.mono ?_; rintro e w' ⟨rfl, q, rfl⟩) | (go_at_call 34; refine (iIn _ _ _ _).mono ?_; rintro e w' ⟨rfl, rfl⟩) | (go_at_call 44; refine (HV.out q).mono ?_; rintro e w2 ⟨r, rfl, hoR, hbR⟩))
      go_ret2
      exact ⟨_, rfl, hoR, (below_drewN (Below.refl _ _) q).trans hbR⟩
end Go.Proofs.Ytajpieblbijciaa
