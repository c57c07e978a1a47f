/- Contracts of WordRace on both sides. Conditions: lengths at most 2^20. -/
import Derived.Test.YtpfaefflbjpllaaRace
namespace Go.Proofs.Ytpfaefflbjpllaa
open Go.ChangeShapes Go.WideShapes Go.ChangeAt Go.RowKit
theorem below_self {w w' : World} (h : w = w') : Below w.heap.size w w' := by subst h; exact Below.refl _ _
theorem below_id {w w' : World} (h : Below w.heap.size w w') : Below w.heap.size w w' := h

set_option maxHeartbeats 800000 in
theorem sInW (v u : Value) (xs ys : List Int) (w : World) (hv : RV w v xs) (hu : RV w u ys) (hn : xs.length ≤ 1048576) (hm : ys.length ≤ 1048576) (h1 : 1 ≤ xs.length) :
    Calls Try.prog 47 #[v, u] w fun e w' => e = .returned (.bool (inW xs ys)) ∧ ∃ q, w' = w.drewN q := by
  obtain ⟨A, c, rfl, hr, hc⟩ := hv
  obtain ⟨B, d, rfl, hr2, hd⟩ := hu
  have Hyes : Hid (∀ i, i + xs.length ≤ ys.length → eqL xs ((ys.drop i).take xs.length) = true → inW xs ys = true) := hide fun i h1 h2 => inW_t h1 h2
  have Hno : Hid ((∀ i, i + xs.length ≤ ys.length → eqL xs ((ys.drop i).take xs.length) = false) → inW xs ys = false) := hide fun h => inW_f h
  generalize inW xs ys = R at *
  generalize hN : xs.length = n at *
  generalize hM : ys.length = m at *
  clear hN hM
  go_enter Try.func47, Try.ntmps47
  go_wp2
  go_loopw [5] (fun i wr => ∃ k : Nat, k ≤ m + 1 ∧ i = .int .i64 k ∧ Hid (∀ j, j < k → j + n ≤ m → eqL xs ((ys.drop j).take n) = false) ∧ Hid (∃ q, wr = w.drewN q)) (fun i _ => m + 1 - (intOf i).toNat)
  case atStart => exact ⟨0, by omega, rfl, hide fun j hj => absurd hj (by omega), hide ⟨0, rfl⟩⟩
  case round =>
    obtain ⟨k, hk, rfl, hfa, hq⟩ := hrel
    obtain ⟨q, rfl⟩ := hq.out
    by_cases hlt : k + n ≤ m
    · have hcut := hr2.part (k := k) (m := k + n) (cap := d) (by omega) hlt hd
      rw [show k + n - k = n from by omega] at hcut
      have hkd : k + n ≤ d := by omega
      have hdk : ¬ d = k := by omega
      rw [if_neg hdk] at hcut
      cases hE : eqL xs ((ys.drop k).take n) with
      | true =>
        have hR := Hyes.out k hlt hE
        have HR := hide hR
        have HE := Lib.hid (fun A' d' W h h' => sSame A A' n n c d' xs ((ys.drop k).take n) W h h' (by omega) (by omega))
        rw [hE] at HE
        clear hE hR
        go_wp2_with fail
        refine (HE.out _ _ _ (hr.drewN _) (hcut.drewN _)).mono ?_
        rintro e w' ⟨rfl, q2, rfl⟩
        go_wp2
        go_ret
        exact ⟨ret_bool HR.out.symm, _, rfl⟩
      | false =>
        have HE := Lib.hid (fun A' d' W h h' => sSame A A' n n c d' xs ((ys.drop k).take n) W h h' (by omega) (by omega))
        rw [hE] at HE
        have HEE := hide hE
        clear hE
        go_wp2_with fail
        refine (HE.out _ _ _ (hr.drewN _) (hcut.drewN _)).mono ?_
        rintro e w' ⟨rfl, q2, rfl⟩
        go_wp2
        go_roundw
        case rel =>
          refine ⟨k + 1, by omega, by go_num, hide fun j hj hjm => ?_, hide ⟨_, rfl⟩⟩
          by_cases e : j = k
          · subst e
            exact HEE.out
          · exact hfa.out j (by omega) hjm
        case measure => simp [intOf]; omega
    · have hR := Hno.out fun j hj => hfa.out j (by omega) hj
      have HR := hide hR
      clear hR
      go_wp2
      go_ret
      exact ⟨ret_bool HR.out.symm, _, rfl⟩

set_option maxHeartbeats 800000 in
theorem iInW (v u : Value) (xs ys : List Int) (w : World) (hv : RV w v xs) (hu : RV w u ys) (hn : xs.length ≤ 1048576) (hm : ys.length ≤ 1048576) (h1 : 1 ≤ xs.length) :
    Calls Try.prog 49 #[v, u] w fun e w' => e = .returned (.bool (inW xs ys)) ∧ ∃ q, w' = w.drewN q := by
  obtain ⟨A, c, rfl, hr, hc⟩ := hv
  obtain ⟨B, d, rfl, hr2, hd⟩ := hu
  have Hyes : Hid (∀ i, i + xs.length ≤ ys.length → eqL xs ((ys.drop i).take xs.length) = true → inW xs ys = true) := hide fun i h1 h2 => inW_t h1 h2
  have Hno : Hid ((∀ i, i + xs.length ≤ ys.length → eqL xs ((ys.drop i).take xs.length) = false) → inW xs ys = false) := hide fun h => inW_f h
  generalize inW xs ys = R at *
  generalize hN : xs.length = n at *
  generalize hM : ys.length = m at *
  clear hN hM
  go_enter Try.func49, Try.ntmps49
  go_wp2
  go_loopw [5] (fun i wr => ∃ k : Nat, k ≤ m + 1 ∧ i = .int .i64 k ∧ Hid (∀ j, j < k → j + n ≤ m → eqL xs ((ys.drop j).take n) = false) ∧ Hid (∃ q, wr = w.drewN q)) (fun i _ => m + 1 - (intOf i).toNat)
  case atStart => exact ⟨0, by omega, rfl, hide fun j hj => absurd hj (by omega), hide ⟨0, rfl⟩⟩
  case round =>
    obtain ⟨k, hk, rfl, hfa, hq⟩ := hrel
    obtain ⟨q, rfl⟩ := hq.out
    by_cases hlt : k + n ≤ m
    · have hcut := hr2.part (k := k) (m := k + n) (cap := d) (by omega) hlt hd
      rw [show k + n - k = n from by omega] at hcut
      have hkd : k + n ≤ d := by omega
      have hdk : ¬ d = k := by omega
      rw [if_neg hdk] at hcut
      cases hE : eqL xs ((ys.drop k).take n) with
      | true =>
        have hR := Hyes.out k hlt hE
        have HR := hide hR
        have HE := Lib.hid (fun A' d' W h h' => iSame A A' n n c d' xs ((ys.drop k).take n) W h h' (by omega) (by omega))
        rw [hE] at HE
        clear hE hR
        go_wp2_with fail
        refine (HE.out _ _ _ (hr.drewN _) (hcut.drewN _)).mono ?_
        rintro e w' ⟨rfl, q2, rfl⟩
        go_wp2
        go_ret
        exact ⟨ret_bool HR.out.symm, _, rfl⟩
      | false =>
        have HE := Lib.hid (fun A' d' W h h' => iSame A A' n n c d' xs ((ys.drop k).take n) W h h' (by omega) (by omega))
        rw [hE] at HE
        have HEE := hide hE
        clear hE
        go_wp2_with fail
        refine (HE.out _ _ _ (hr.drewN _) (hcut.drewN _)).mono ?_
        rintro e w' ⟨rfl, q2, rfl⟩
        go_wp2
        go_roundw
        case rel =>
          refine ⟨k + 1, by omega, by go_num, hide fun j hj hjm => ?_, hide ⟨_, rfl⟩⟩
          by_cases e : j = k
          · subst e
            exact HEE.out
          · exact hfa.out j (by omega) hjm
        case measure => simp [intOf]; omega
    · have hR := Hno.out fun j hj => hfa.out j (by omega) hj
      have HR := hide hR
      clear hR
      go_wp2
      go_ret
      exact ⟨ret_bool HR.out.symm, _, rfl⟩

set_option maxHeartbeats 1600000 in
theorem sRace (v u : Value) (xs ys : List Int) (s : Nat) (w : World) (hv : RV w v xs) (hu : RV w u ys) (hn : xs.length ≤ 12) (hm : ys.length ≤ 12) (hs1 : 2 ≤ s) (hs : s ≤ 6)
    (h1 : 1 ≤ xs.length) (h2 : 1 ≤ ys.length) (hx : endsB ys xs ys.length = false) (hy : endsB xs ys xs.length = false) :
    Calls Try.prog 48 #[v, u, .int .i64 s] w fun e w' => e = .returned (.tuple #[.int .i64 (((raceR xs ys s).1 : Nat) : Int), .int .i64 (((raceR xs ys s).2 : Nat) : Int)]) ∧ Below w.heap.size w w' := by
  have p1 : psum s 1 (ov ys xs ys.length) < psum s 1 (ov ys ys ys.length) := Nat.lt_of_lt_of_le (psum_other hs1 h2 hx) (psum_self ys h2)
  have p2 : psum s 1 (ov xs ys xs.length) < psum s 1 (ov xs xs xs.length) := Nat.lt_of_lt_of_le (psum_other hs1 h1 hy) (psum_self xs h1)
  have b1 := psum_ov_le hs ys ys hm
  have b2 := psum_ov_le hs xs xs hn
  have L1 := Lib.hid (fun W a b => sLead u u ys ys s W a b hm hm (by omega) hs)
  have L2 := Lib.hid (fun W a b => sLead u v ys xs s W a b hm hn (by omega) hs)
  have L3 := Lib.hid (fun W a b => sLead v v xs xs s W a b hn hn (by omega) hs)
  have L4 := Lib.hid (fun W a b => sLead v u xs ys s W a b hn hm (by omega) hs)
  unfold raceR raceX
  generalize psum s 1 (ov ys ys ys.length) = P1 at *
  generalize psum s 1 (ov ys xs ys.length) = P2 at *
  generalize psum s 1 (ov xs xs xs.length) = P3 at *
  generalize psum s 1 (ov xs ys xs.length) = P4 at *
  have e1 : ((P1 : Int) - P2) = ((P1 - P2 : Nat) : Int) := by omega
  have e2 : ((P1 : Int) - P2 + (P3 - P4)) = ((P1 - P2 + (P3 - P4) : Nat) : Int) := by omega
  have E1 := hide e1
  have E2 := hide e2
  have HG := Lib.hid (fun W => sLeast (P1 - P2) (P1 - P2 + (P3 - P4)) W (by omega) (by omega) (by omega))
  clear e1 e2 hx hy
  generalize (P1 - P2) / (P1 - P2).gcd (P1 - P2 + (P3 - P4)) = X at *
  generalize (P1 - P2 + (P3 - P4)) / (P1 - P2).gcd (P1 - P2 + (P3 - P4)) = Y at *
  go_enter Try.func48, Try.ntmps48
  go_wp2_with fail
  refine (L1.out _ hu hu).mono ?_
  rintro e w1 ⟨rfl, h1⟩
  have d1 := below_of_drew h1
  clear h1
  go_wp2_with fail
  refine (L2.out _ (hu.below d1) (hv.below d1)).mono ?_
  rintro e w2 ⟨rfl, h1⟩
  have d2 := d1.trans ((below_of_drew h1).mono d1.size)
  clear h1
  go_wp2_with fail
  refine (L3.out _ (hv.below d2) (hv.below d2)).mono ?_
  rintro e w3 ⟨rfl, h1⟩
  have d3 := d2.trans ((below_of_drew h1).mono d2.size)
  clear h1
  go_wp2_with fail
  refine (L4.out _ (hv.below d3) (hu.below d3)).mono ?_
  rintro e w4 ⟨rfl, h1⟩
  have d4 := d3.trans ((below_of_drew h1).mono d3.size)
  clear h1
  go_wp2_with fail
  rw [E2.out, E1.out]
  refine (HG.out _).mono ?_
  rintro e w5 ⟨rfl, h1⟩
  have d5 := d4.trans ((below_of_drew h1).mono d4.size)
  clear h1
  go_wp2
  go_ret2
  exact ⟨rfl, d5⟩

set_option maxHeartbeats 1600000 in
theorem iRace (v u : Value) (xs ys : List Int) (s : Nat) (w : World) (hv : RV w v xs) (hu : RV w u ys) (hn : xs.length ≤ 12) (hm : ys.length ≤ 12) (hs1 : 2 ≤ s) (hs : s ≤ 6)
    (h1 : 1 ≤ xs.length) (h2 : 1 ≤ ys.length) (hx : endsB ys xs ys.length = false) (hy : endsB xs ys xs.length = false) :
    Calls Try.prog 50 #[v, u, .int .i64 s] w fun e w' => e = .returned (.tuple #[.int .i64 (((raceR xs ys s).1 : Nat) : Int), .int .i64 (((raceR xs ys s).2 : Nat) : Int)]) ∧ Below w.heap.size w w' := by
  have p1 : psum s 1 (ov ys xs ys.length) < psum s 1 (ov ys ys ys.length) := Nat.lt_of_lt_of_le (psum_other hs1 h2 hx) (psum_self ys h2)
  have p2 : psum s 1 (ov xs ys xs.length) < psum s 1 (ov xs xs xs.length) := Nat.lt_of_lt_of_le (psum_other hs1 h1 hy) (psum_self xs h1)
  have b1 := psum_ov_le hs ys ys hm
  have b2 := psum_ov_le hs xs xs hn
  have L1 := Lib.hid (fun W a b => iLead u u ys ys s W a b hm hm (by omega) hs)
  have L2 := Lib.hid (fun W a b => iLead u v ys xs s W a b hm hn (by omega) hs)
  have L3 := Lib.hid (fun W a b => iLead v v xs xs s W a b hn hn (by omega) hs)
  have L4 := Lib.hid (fun W a b => iLead v u xs ys s W a b hn hm (by omega) hs)
  unfold raceR raceX
  generalize psum s 1 (ov ys ys ys.length) = P1 at *
  generalize psum s 1 (ov ys xs ys.length) = P2 at *
  generalize psum s 1 (ov xs xs xs.length) = P3 at *
  generalize psum s 1 (ov xs ys xs.length) = P4 at *
  have e1 : ((P1 : Int) - P2) = ((P1 - P2 : Nat) : Int) := by omega
  have e2 : ((P1 : Int) - P2 + (P3 - P4)) = ((P1 - P2 + (P3 - P4) : Nat) : Int) := by omega
  have E1 := hide e1
  have E2 := hide e2
  have HG := Lib.hid (fun W => iLeast (P1 - P2) (P1 - P2 + (P3 - P4)) W (by omega) (by omega) (by omega))
  clear e1 e2 hx hy
  generalize (P1 - P2) / (P1 - P2).gcd (P1 - P2 + (P3 - P4)) = X at *
  generalize (P1 - P2 + (P3 - P4)) / (P1 - P2).gcd (P1 - P2 + (P3 - P4)) = Y at *
  go_enter Try.func50, Try.ntmps50
  go_wp2_with fail
  refine (L1.out _ hu hu).mono ?_
  rintro e w1 ⟨rfl, h1⟩
  have d1 := below_id h1
  clear h1
  go_wp2_with fail
  refine (L2.out _ (hu.below d1) (hv.below d1)).mono ?_
  rintro e w2 ⟨rfl, h1⟩
  have d2 := d1.trans ((below_id h1).mono d1.size)
  clear h1
  go_wp2_with fail
  refine (L3.out _ (hv.below d2) (hv.below d2)).mono ?_
  rintro e w3 ⟨rfl, h1⟩
  have d3 := d2.trans ((below_id h1).mono d2.size)
  clear h1
  go_wp2_with fail
  refine (L4.out _ (hv.below d3) (hu.below d3)).mono ?_
  rintro e w4 ⟨rfl, h1⟩
  have d4 := d3.trans ((below_id h1).mono d3.size)
  clear h1
  go_wp2_with fail
  rw [E2.out, E1.out]
  refine (HG.out _).mono ?_
  rintro e w5 ⟨rfl, h1⟩
  have d5 := d4.trans ((below_of_drew h1).mono d4.size)
  clear h1
  go_wp2
  go_ret2
  exact ⟨rfl, d5⟩

/-- what both WordRace answer -/
def raceOk (xs ys : List Int) (s : Int) : Bool := wordB xs s && (wordB ys s && (!inW xs ys && !inW ys xs))
def RWordRace (xs ys : List Int) (s : Int) : Int × Int × Bool :=
  if raceOk xs ys s = true then ((((raceR xs ys s.toNat).1 : Nat) : Int), (((raceR xs ys s.toNat).2 : Nat) : Int), true) else (0, 0, false)
theorem RWordRace_no {xs ys : List Int} {s : Int} (h : raceOk xs ys s = false) : RWordRace xs ys s = (0, 0, false) := by rw [RWordRace, if_neg (by rw [h]; simp)]
theorem RWordRace_yes {xs ys : List Int} {s : Int} (h : raceOk xs ys s = true) : RWordRace xs ys s = ((((raceR xs ys s.toNat).1 : Nat) : Int), (((raceR xs ys s.toNat).2 : Nat) : Int), true) := by rw [RWordRace, if_pos h]

set_option maxHeartbeats 1600000 in
theorem sWordRace (v : Value) (xs : List Int) (u : Value) (ys : List Int) (s : Int) (w : World) (hv : RV w v xs) (hu : RV w u ys) (hn : xs.length ≤ 1048576) (hm : ys.length ≤ 1048576) (_wf : (Lit.int .i64 s).wf = true) :
    Calls Try.prog 21 #[v, u, .int .i64 s] w fun e w' => e = .returned (.tuple #[.int .i64 (RWordRace xs ys s).1, .int .i64 (RWordRace xs ys s).2.1, .bool (RWordRace xs ys s).2.2]) ∧ Below w.heap.size w w' := by
  have W1 := Lib.hid (fun W h => sWordV v xs s W h hn)
  cases h1 : wordB xs s with
  | false =>
    rw [RWordRace_no (by simp [raceOk, h1])]
    rw [h1] at W1
    clear h1
    go_enter Try.func21, Try.ntmps21
    go_wp2_with fail
    refine (W1.out _ hv).mono ?_
    rintro e w1 ⟨rfl, h1⟩
    have d1 := below_self h1
    clear h1
    go_wp2
    go_ret3
    exact ⟨rfl, d1⟩
  | true =>
    have W2 := Lib.hid (fun W h => sWordV u ys s W h hm)
    cases h2 : wordB ys s with
    | false =>
      rw [RWordRace_no (by simp [raceOk, h2])]
      rw [h1] at W1
      rw [h2] at W2
      clear h1 h2
      go_enter Try.func21, Try.ntmps21
      go_wp2_with fail
      refine (W1.out _ hv).mono ?_
      rintro e w1 ⟨rfl, h1⟩
      have d1 := below_self h1
      clear h1
      go_wp2_with fail
      refine (W2.out _ (hu.below d1)).mono ?_
      rintro e w2 ⟨rfl, h1⟩
      have d2 := d1.trans ((below_self h1).mono d1.size)
      clear h1
      go_wp2
      go_ret3
      exact ⟨rfl, d2⟩
    | true =>
      obtain ⟨⟨s1, s2⟩, l1, l2⟩ := wordB_facts h1
      obtain ⟨_, l3, l4⟩ := wordB_facts h2
      have I1 := Lib.hid (fun W a b => sInW v u xs ys W a b hn hm l1)
      cases h3 : inW xs ys with
      | true =>
        rw [RWordRace_no (by simp [raceOk, h3])]
        rw [h1] at W1
        rw [h2] at W2
        rw [h3] at I1
        clear h1 h2 h3
        go_enter Try.func21, Try.ntmps21
        go_wp2_with fail
        refine (W1.out _ hv).mono ?_
        rintro e w1 ⟨rfl, h1⟩
        have d1 := below_self h1
        clear h1
        go_wp2_with fail
        refine (W2.out _ (hu.below d1)).mono ?_
        rintro e w2 ⟨rfl, h1⟩
        have d2 := d1.trans ((below_self h1).mono d1.size)
        clear h1
        go_wp2_with fail
        refine (I1.out _ (hv.below d2) (hu.below d2)).mono ?_
        rintro e w3 ⟨rfl, h1⟩
        have d3 := d2.trans ((below_of_drew h1).mono d2.size)
        clear h1
        go_wp2
        go_ret3
        exact ⟨rfl, d3⟩
      | false =>
        have I2 := Lib.hid (fun W a b => sInW u v ys xs W a b hm hn l3)
        cases h4 : inW ys xs with
        | true =>
          rw [RWordRace_no (by simp [raceOk, h4])]
          rw [h1] at W1
          rw [h2] at W2
          rw [h3] at I1
          rw [h4] at I2
          clear h1 h2 h3 h4
          go_enter Try.func21, Try.ntmps21
          go_wp2_with fail
          refine (W1.out _ hv).mono ?_
          rintro e w1 ⟨rfl, h1⟩
          have d1 := below_self h1
          clear h1
          go_wp2_with fail
          refine (W2.out _ (hu.below d1)).mono ?_
          rintro e w2 ⟨rfl, h1⟩
          have d2 := d1.trans ((below_self h1).mono d1.size)
          clear h1
          go_wp2_with fail
          refine (I1.out _ (hv.below d2) (hu.below d2)).mono ?_
          rintro e w3 ⟨rfl, h1⟩
          have d3 := d2.trans ((below_of_drew h1).mono d2.size)
          clear h1
          go_wp2_with fail
          refine (I2.out _ (hu.below d3) (hv.below d3)).mono ?_
          rintro e w4 ⟨rfl, h1⟩
          have d4 := d3.trans ((below_of_drew h1).mono d3.size)
          clear h1
          go_wp2
          go_ret3
          exact ⟨rfl, d4⟩
        | false =>
          rw [RWordRace_yes (by simp [raceOk, h1, h2, h3, h4])]
          have y1 := endsB_of_notin h4
          have y2 := endsB_of_notin h3
          rw [h1] at W1
          rw [h2] at W2
          rw [h3] at I1
          rw [h4] at I2
          clear h1 h2 h3 h4
          obtain ⟨s, rfl⟩ := Int.eq_ofNat_of_zero_le (show 0 ≤ s by omega)
          rw [Int.toNat_natCast]
          have HR := Lib.hid (fun W a b => sRace v u xs ys s W a b l2 l4 (by omega) (by omega) l1 l3 y1 y2)
          generalize (raceR xs ys s).1 = X at *
          generalize (raceR xs ys s).2 = Y at *
          clear y1 y2
          go_enter Try.func21, Try.ntmps21
          go_wp2_with fail
          refine (W1.out _ hv).mono ?_
          rintro e w1 ⟨rfl, h1⟩
          have d1 := below_self h1
          clear h1
          go_wp2_with fail
          refine (W2.out _ (hu.below d1)).mono ?_
          rintro e w2 ⟨rfl, h1⟩
          have d2 := d1.trans ((below_self h1).mono d1.size)
          clear h1
          go_wp2_with fail
          refine (I1.out _ (hv.below d2) (hu.below d2)).mono ?_
          rintro e w3 ⟨rfl, h1⟩
          have d3 := d2.trans ((below_of_drew h1).mono d2.size)
          clear h1
          go_wp2_with fail
          refine (I2.out _ (hu.below d3) (hv.below d3)).mono ?_
          rintro e w4 ⟨rfl, h1⟩
          have d4 := d3.trans ((below_of_drew h1).mono d3.size)
          clear h1
          go_wp2_with fail
          refine (HR.out _ (hv.below d4) (hu.below d4)).mono ?_
          rintro e w5 ⟨rfl, h1⟩
          have d5 := d4.trans (h1.mono d4.size)
          clear h1
          go_wp2
          go_ret3
          exact ⟨rfl, d5⟩

set_option maxHeartbeats 1600000 in
theorem iWordRace (v : Value) (xs : List Int) (u : Value) (ys : List Int) (s : Int) (w : World) (hv : RV w v xs) (hu : RV w u ys) (hn : xs.length ≤ 1048576) (hm : ys.length ≤ 1048576) (_wf : (Lit.int .i64 s).wf = true) :
    Calls Try.prog 22 #[v, u, .int .i64 s] w fun e w' => e = .returned (.tuple #[.int .i64 (RWordRace xs ys s).1, .int .i64 (RWordRace xs ys s).2.1, .bool (RWordRace xs ys s).2.2]) ∧ Below w.heap.size w w' := by
  have W1 := Lib.hid (fun W h => iWordV v xs s W h hn)
  cases h1 : wordB xs s with
  | false =>
    rw [RWordRace_no (by simp [raceOk, h1])]
    rw [h1] at W1
    clear h1
    go_enter Try.func22, Try.ntmps22
    go_wp2_with fail
    refine (W1.out _ hv).mono ?_
    rintro e w1 ⟨rfl, h1⟩
    have d1 := below_id h1
    clear h1
    go_wp2
    go_ret3
    exact ⟨rfl, d1⟩
  | true =>
    have W2 := Lib.hid (fun W h => iWordV u ys s W h hm)
    cases h2 : wordB ys s with
    | false =>
      rw [RWordRace_no (by simp [raceOk, h2])]
      rw [h1] at W1
      rw [h2] at W2
      clear h1 h2
      go_enter Try.func22, Try.ntmps22
      go_wp2_with fail
      refine (W1.out _ hv).mono ?_
      rintro e w1 ⟨rfl, h1⟩
      have d1 := below_id h1
      clear h1
      go_wp2_with fail
      refine (W2.out _ (hu.below d1)).mono ?_
      rintro e w2 ⟨rfl, h1⟩
      have d2 := d1.trans ((below_id h1).mono d1.size)
      clear h1
      go_wp2
      go_ret3
      exact ⟨rfl, d2⟩
    | true =>
      obtain ⟨⟨s1, s2⟩, l1, l2⟩ := wordB_facts h1
      obtain ⟨_, l3, l4⟩ := wordB_facts h2
      have I1 := Lib.hid (fun W a b => iInW v u xs ys W a b hn hm l1)
      cases h3 : inW xs ys with
      | true =>
        rw [RWordRace_no (by simp [raceOk, h3])]
        rw [h1] at W1
        rw [h2] at W2
        rw [h3] at I1
        clear h1 h2 h3
        go_enter Try.func22, Try.ntmps22
        go_wp2_with fail
        refine (W1.out _ hv).mono ?_
        rintro e w1 ⟨rfl, h1⟩
        have d1 := below_id h1
        clear h1
        go_wp2_with fail
        refine (W2.out _ (hu.below d1)).mono ?_
        rintro e w2 ⟨rfl, h1⟩
        have d2 := d1.trans ((below_id h1).mono d1.size)
        clear h1
        go_wp2_with fail
        refine (I1.out _ (hv.below d2) (hu.below d2)).mono ?_
        rintro e w3 ⟨rfl, h1⟩
        have d3 := d2.trans ((below_of_drew h1).mono d2.size)
        clear h1
        go_wp2
        go_ret3
        exact ⟨rfl, d3⟩
      | false =>
        have I2 := Lib.hid (fun W a b => iInW u v ys xs W a b hm hn l3)
        cases h4 : inW ys xs with
        | true =>
          rw [RWordRace_no (by simp [raceOk, h4])]
          rw [h1] at W1
          rw [h2] at W2
          rw [h3] at I1
          rw [h4] at I2
          clear h1 h2 h3 h4
          go_enter Try.func22, Try.ntmps22
          go_wp2_with fail
          refine (W1.out _ hv).mono ?_
          rintro e w1 ⟨rfl, h1⟩
          have d1 := below_id h1
          clear h1
          go_wp2_with fail
          refine (W2.out _ (hu.below d1)).mono ?_
          rintro e w2 ⟨rfl, h1⟩
          have d2 := d1.trans ((below_id h1).mono d1.size)
          clear h1
          go_wp2_with fail
          refine (I1.out _ (hv.below d2) (hu.below d2)).mono ?_
          rintro e w3 ⟨rfl, h1⟩
          have d3 := d2.trans ((below_of_drew h1).mono d2.size)
          clear h1
          go_wp2_with fail
          refine (I2.out _ (hu.below d3) (hv.below d3)).mono ?_
          rintro e w4 ⟨rfl, h1⟩
          have d4 := d3.trans ((below_of_drew h1).mono d3.size)
          clear h1
          go_wp2
          go_ret3
          exact ⟨rfl, d4⟩
        | false =>
          rw [RWordRace_yes (by simp [raceOk, h1, h2, h3, h4])]
          have y1 := endsB_of_notin h4
          have y2 := endsB_of_notin h3
          rw [h1] at W1
          rw [h2] at W2
          rw [h3] at I1
          rw [h4] at I2
          clear h1 h2 h3 h4
          obtain ⟨s, rfl⟩ := Int.eq_ofNat_of_zero_le (show 0 ≤ s by omega)
          rw [Int.toNat_natCast]
          have HR := Lib.hid (fun W a b => iRace v u xs ys s W a b l2 l4 (by omega) (by omega) l1 l3 y1 y2)
          generalize (raceR xs ys s).1 = X at *
          generalize (raceR xs ys s).2 = Y at *
          clear y1 y2
          go_enter Try.func22, Try.ntmps22
          go_wp2_with fail
          refine (W1.out _ hv).mono ?_
          rintro e w1 ⟨rfl, h1⟩
          have d1 := below_id h1
          clear h1
          go_wp2_with fail
          refine (W2.out _ (hu.below d1)).mono ?_
          rintro e w2 ⟨rfl, h1⟩
          have d2 := d1.trans ((below_id h1).mono d1.size)
          clear h1
          go_wp2_with fail
          refine (I1.out _ (hv.below d2) (hu.below d2)).mono ?_
          rintro e w3 ⟨rfl, h1⟩
          have d3 := d2.trans ((below_of_drew h1).mono d2.size)
          clear h1
          go_wp2_with fail
          refine (I2.out _ (hu.below d3) (hv.below d3)).mono ?_
          rintro e w4 ⟨rfl, h1⟩
          have d4 := d3.trans ((below_of_drew h1).mono d3.size)
          clear h1
          go_wp2_with fail
          refine (HR.out _ (hv.below d4) (hu.below d4)).mono ?_
          rintro e w5 ⟨rfl, h1⟩
          have d5 := d4.trans (h1.mono d4.size)
          clear h1
          go_wp2
          go_ret3
          exact ⟨rfl, d5⟩
end Go.Proofs.Ytpfaefflbjpllaa
