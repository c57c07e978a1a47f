/- Contracts of WeighCoins, IsCoinPlan, CoinsLeft, both sides. Conditions: lengths at most 2^20. -/
import Derived.Test.YtafhfcpaofgikaaPans0
import Derived.Test.YtafhfcpaofgikaaEq0
import Derived.Test.YtafhfcpaofgikaaIdx
namespace Go.Proofs.Ytafhfcpaofgikaa
open Go.ChangeShapes Go.WideShapes Go.ChangeAt Go.RowKit

theorem eqL_comm (xs ys : List Int) : eqL xs ys = eqL ys xs := by
  unfold eqL
  exact decide_eq_decide.2 ⟨Eq.symm, Eq.symm⟩

/-! ### in terms of values -/
theorem sSameV (v u : Value) (xs ys : List Int) (w : World) (hv : RV w v xs) (hu : RV w u ys) (hn : xs.length ≤ 1048576) (hm : ys.length ≤ 1048576) :
    Calls Try.prog 33 #[v, u] w fun e w' => e = .returned (.bool (eqL xs ys)) ∧ Below w.heap.size w w' := by
  obtain ⟨A, c, rfl, hr, _⟩ := hv
  obtain ⟨B, d, rfl, hr2, _⟩ := hu
  exact (sSame A B _ _ c d xs ys w hr hr2 hn hm).mono fun e w' ⟨h1, h2⟩ => ⟨h1, below_of_drew h2⟩
theorem iSameV (v u : Value) (xs ys : List Int) (w : World) (hv : RV w v xs) (hu : RV w u ys) (hn : xs.length ≤ 1048576) (hm : ys.length ≤ 1048576) :
    Calls Try.prog 34 #[v, u] w fun e w' => e = .returned (.bool (eqL xs ys)) ∧ Below w.heap.size w w' := by
  obtain ⟨A, c, rfl, hr, _⟩ := hv
  obtain ⟨B, d, rfl, hr2, _⟩ := hu
  exact (iSame A B _ _ c d xs ys w hr hr2 hn hm).mono fun e w' ⟨h1, h2⟩ => ⟨h1, below_of_drew h2⟩
theorem sPansV (c : Int) (v : Value) (xs : List Int) (w : World) (hv : RV w v xs) (hn : xs.length ≤ 1048576) :
    Calls Try.prog 27 #[.int .i64 c, v] w fun e w' => e = .returned (.bool (pansB c xs)) ∧ w = w' := by
  obtain ⟨A, d, rfl, hr, hd⟩ := hv
  exact sPans A _ d xs c w hr hn hd
theorem iPansV (c : Int) (v : Value) (xs : List Int) (w : World) (hv : RV w v xs) (hn : xs.length ≤ 1048576) :
    Calls Try.prog 30 #[.int .i64 c, v] w fun e w' => e = .returned (.bool (pansB c xs)) ∧ w = w' := by
  obtain ⟨A, d, rfl, hr, hd⟩ := hv
  exact iPans A _ d xs c w hr hn hd
theorem sWeighV (c : Nat) (v : Value) (h : Int) (xs : List Int) (w : World) (hv : RV w v xs) (hn : xs.length ≤ 1048576) (hc1 : 1 ≤ c) (hc27 : c ≤ 27) (hm : xs.length % c = 0) (hh : -1 ≤ h) (hhc : h < c) :
    Calls Try.prog 29 #[.int .i64 c, v, .int .i64 h] w fun e w' => ∃ r, e = .returned r ∧ Own w' w.heap.size w'.heap.size r (shows c xs h (xs.length / c)) ∧ Below w.heap.size w w' := by
  obtain ⟨A, d, rfl, hr, hd⟩ := hv
  exact sWeigh A _ d c h xs w hr hn hd hc1 hc27 hm hh hhc
theorem iWeighV (c : Nat) (v : Value) (h : Int) (xs : List Int) (w : World) (hv : RV w v xs) (hn : xs.length ≤ 1048576) (hc1 : 1 ≤ c) (hc27 : c ≤ 27) (hm : xs.length % c = 0) (hh : -1 ≤ h) (hhc : h < c) :
    Calls Try.prog 32 #[.int .i64 c, v, .int .i64 h] w fun e w' => ∃ r, e = .returned r ∧ Own w' w.heap.size w'.heap.size r (shows c xs h (xs.length / c)) ∧ Below w.heap.size w w' := by
  obtain ⟨A, d, rfl, hr, hd⟩ := hv
  exact iWeigh A _ d c h xs w hr hn hd hc1 hc27 hm hh hhc

/-! ### plain results -/
def weighOk (c : Int) (xs : List Int) (h : Int) : Bool := pansB c xs && inB h (-1) (c - 1)
def RWeighCoins (c : Int) (xs : List Int) (h : Int) : List Int × Bool := if weighOk c xs h = true then (shows c.toNat xs h (xs.length / c.toNat), true) else ([], false)
theorem RWeighCoins_len0 (c : Int) (xs : List Int) (h : Int) : (RWeighCoins c xs h).1.length ≤ 1048576 := by
  unfold RWeighCoins
  split
  · rename_i hq
    simp only [weighOk, Bool.and_eq_true] at hq
    have := pansB_facts hq.1
    rw [shows_len]
    omega
  · simp
/-- all weighings tell any two coins (or none) apart -/
def planB (c : Nat) (xs : List Int) : Bool := decide (∀ b, b < c + 1 → ∀ a, a < b → eqL (shows c xs ((a : Int) - 1) (xs.length / c)) (shows c xs ((b : Int) - 1) (xs.length / c)) = false)
theorem planB_bad {c a b : Nat} {xs : List Int} (hb : b < c + 1) (ha : a < b) (h : eqL (shows c xs ((a : Int) - 1) (xs.length / c)) (shows c xs ((b : Int) - 1) (xs.length / c)) = true) : planB c xs = false := by
  rw [planB, decide_eq_false_iff_not]
  intro hall
  have := hall b hb a ha
  rw [h] at this
  cases this
theorem planB_ok {c : Nat} {xs : List Int} (h : ∀ b, b < c + 1 → ∀ a, a < b → eqL (shows c xs ((a : Int) - 1) (xs.length / c)) (shows c xs ((b : Int) - 1) (xs.length / c)) = false) : planB c xs = true := decide_eq_true h
def RIsCoinPlan (c : Int) (xs : List Int) : Bool × Bool := if pansB c xs = true then (planB c.toNat xs, true) else (false, false)
/-- the first k of the coins from -1 on that fit what was shown -/
def leftTo (c : Nat) (xs ss : List Int) (k : Nat) : List Int := ((List.range k).filter fun j : Nat => eqL (shows c xs ((j : Int) - 1) (xs.length / c)) ss).map fun j : Nat => (j : Int) - 1
theorem leftTo_yes {c k : Nat} {xs ss : List Int} (h : eqL (shows c xs ((k : Int) - 1) (xs.length / c)) ss = true) : leftTo c xs ss (k + 1) = leftTo c xs ss k ++ [(k : Int) - 1] := by
  simp [leftTo, List.range_succ, List.filter_append, h]
theorem leftTo_no {c k : Nat} {xs ss : List Int} (h : eqL (shows c xs ((k : Int) - 1) (xs.length / c)) ss = false) : leftTo c xs ss (k + 1) = leftTo c xs ss k := by
  simp [leftTo, List.range_succ, List.filter_append, h]
theorem leftTo_len (c : Nat) (xs ss : List Int) (k : Nat) : (leftTo c xs ss k).length ≤ k := by
  unfold leftTo
  rw [List.length_map]
  exact Nat.le_trans (List.length_filter_le _ _) (by simp)
def leftOk (c : Int) (xs ss : List Int) : Bool := pansB c xs && (decide (ss.length = xs.length / c.toNat) && !ss.any (fun s => !inB s (-1) 1))
def RCoinsLeft (c : Int) (xs ss : List Int) : List Int × Bool := if leftOk c xs ss = true then (leftTo c.toNat xs ss (c.toNat + 1), true) else ([], false)
theorem RCoinsLeft_len0 (c : Int) (xs ss : List Int) : (RCoinsLeft c xs ss).1.length ≤ 1048576 := by
  unfold RCoinsLeft
  split
  · rename_i hq
    simp only [leftOk, Bool.and_eq_true] at hq
    have := pansB_facts hq.1
    have h2 := leftTo_len c.toNat xs ss (c.toNat + 1)
    show (leftTo c.toNat xs ss (c.toNat + 1)).length ≤ _
    omega
  · simp

set_option maxHeartbeats 800000 in
theorem sWeighCoins (c : Int) (v : Value) (xs : List Int) (h : Int) (w : World) (hv : RV w v xs) (hn : xs.length ≤ 1048576) (_w0 : (Lit.int .i64 c).wf = true) (_w2 : (Lit.int .i64 h).wf = true) :
    Calls Try.prog 9 #[.int .i64 c, v, .int .i64 h] w fun e w' => ∃ r, e = .returned (.tuple #[r, .bool (RWeighCoins c xs h).2]) ∧ Own w' w.heap.size w'.heap.size r (RWeighCoins c xs h).1 ∧ Below w.heap.size w w' := by
  have HP := Lib.hid (sPansV c v xs w hv hn)
  cases hP : pansB c xs with
  | false =>
    rw [show RWeighCoins c xs h = ([], false) from by rw [RWeighCoins, if_neg (by simp [weighOk, hP])]]
    rw [hP] at HP
    clear hP
    go_enter Try.func9, Try.ntmps9
    go_wp2_with (first | (go_at_call 27; refine HP.out.mono ?_; rintro e w' ⟨rfl, rfl⟩))
    go_ret2
    exact ⟨_, rfl, Own.nil _ _ _, Below.refl _ _⟩
  | true =>
    obtain ⟨h1, h2, h3, h4⟩ := pansB_facts hP
    obtain ⟨c, rfl⟩ := Int.eq_ofNat_of_zero_le (show 0 ≤ c by omega)
    rw [Int.toNat_natCast] at h3 h4
    cases hH : inB h (-1) ((c : Int) - 1) with
    | false =>
      rw [show RWeighCoins c xs h = ([], false) from by rw [RWeighCoins, if_neg (by simp [weighOk, hH])]]
      rw [hP] at HP
      clear hP h3 h4
      go_enter Try.func9, Try.ntmps9
      go_wp2_with (first | (go_at_call 27; refine HP.out.mono ?_; rintro e w' ⟨rfl, rfl⟩) | (go_at_call 28; refine (sIn _ _ _ _).mono ?_; rintro e w' ⟨rfl, rfl⟩))
      go_ret2
      exact ⟨_, rfl, Own.nil _ _ _, Below.refl _ _⟩
    | true =>
      rw [show RWeighCoins c xs h = (shows c xs h (xs.length / c), true) from by rw [RWeighCoins, if_pos (by simp [weighOk, hP, hH]), Int.toNat_natCast]]
      obtain ⟨h5, h6⟩ := inB_iff.1 hH
      have HW := Lib.hid (sWeighV c v h xs w hv hn (by omega) (by omega) h3 h5 (by omega))
      rw [hP] at HP
      clear hP h3 h4
      generalize shows c xs h (xs.length / c) = rs at *
      go_enter Try.func9, Try.ntmps9
      go_wp2_with (first | (go_at_call 27; refine HP.out.mono ?_; rintro e w' ⟨rfl, rfl⟩) | (go_at_call 28; refine (sIn _ _ _ _).mono ?_; rintro e w' ⟨rfl, rfl⟩) | (go_at_call 29; refine HW.out.mono ?_; rintro e w2 ⟨r, rfl, ho, hb⟩))
      go_ret2
      exact ⟨_, rfl, ho, hb⟩

set_option maxHeartbeats 800000 in
theorem iWeighCoins (c : Int) (v : Value) (xs : List Int) (h : Int) (w : World) (hv : RV w v xs) (hn : xs.length ≤ 1048576) (_w0 : (Lit.int .i64 c).wf = true) (_w2 : (Lit.int .i64 h).wf = true) :
    Calls Try.prog 11 #[.int .i64 c, v, .int .i64 h] w fun e w' => ∃ r, e = .returned (.tuple #[r, .bool (RWeighCoins c xs h).2]) ∧ Own w' w.heap.size w'.heap.size r (RWeighCoins c xs h).1 ∧ Below w.heap.size w w' := by
  have HP := Lib.hid (iPansV c v xs w hv hn)
  cases hP : pansB c xs with
  | false =>
    rw [show RWeighCoins c xs h = ([], false) from by rw [RWeighCoins, if_neg (by simp [weighOk, hP])]]
    rw [hP] at HP
    clear hP
    go_enter Try.func11, Try.ntmps11
    go_wp2_with (first | (go_at_call 30; refine HP.out.mono ?_; rintro e w' ⟨rfl, rfl⟩))
    go_ret2
    exact ⟨_, rfl, Own.nil _ _ _, Below.refl _ _⟩
  | true =>
    obtain ⟨h1, h2, h3, h4⟩ := pansB_facts hP
    obtain ⟨c, rfl⟩ := Int.eq_ofNat_of_zero_le (show 0 ≤ c by omega)
    rw [Int.toNat_natCast] at h3 h4
    cases hH : inB h (-1) ((c : Int) - 1) with
    | false =>
      rw [show RWeighCoins c xs h = ([], false) from by rw [RWeighCoins, if_neg (by simp [weighOk, hH])]]
      rw [hP] at HP
      clear hP h3 h4
      go_enter Try.func11, Try.ntmps11
      go_wp2_with (first | (go_at_call 30; refine HP.out.mono ?_; rintro e w' ⟨rfl, rfl⟩) | (go_at_call 31; refine (iIn _ _ _ _).mono ?_; rintro e w' ⟨rfl, rfl⟩))
      go_ret2
      exact ⟨_, rfl, Own.nil _ _ _, Below.refl _ _⟩
    | true =>
      rw [show RWeighCoins c xs h = (shows c xs h (xs.length / c), true) from by rw [RWeighCoins, if_pos (by simp [weighOk, hP, hH]), Int.toNat_natCast]]
      obtain ⟨h5, h6⟩ := inB_iff.1 hH
      have HW := Lib.hid (iWeighV c v h xs w hv hn (by omega) (by omega) h3 h5 (by omega))
      rw [hP] at HP
      clear hP h3 h4
      generalize shows c xs h (xs.length / c) = rs at *
      go_enter Try.func11, Try.ntmps11
      go_wp2_with (first | (go_at_call 30; refine HP.out.mono ?_; rintro e w' ⟨rfl, rfl⟩) | (go_at_call 31; refine (iIn _ _ _ _).mono ?_; rintro e w' ⟨rfl, rfl⟩) | (go_at_call 32; refine HW.out.mono ?_; rintro e w2 ⟨r, rfl, ho, hb⟩))
      go_ret2
      exact ⟨_, rfl, ho, hb⟩

set_option maxHeartbeats 1600000 in
theorem sIsCoinPlan (c : Int) (v : Value) (xs : List Int) (w : World) (hv : RV w v xs) (hn : xs.length ≤ 1048576) (_w0 : (Lit.int .i64 c).wf = true) :
    Calls Try.prog 15 #[.int .i64 c, v] w fun e w' => e = .returned (.tuple #[.bool (RIsCoinPlan c xs).1, .bool (RIsCoinPlan c xs).2]) ∧ Below w.heap.size w w' := by
  have HP := Lib.hid (sPansV c v xs w hv hn)
  cases hP : pansB c xs with
  | false =>
    rw [show RIsCoinPlan c xs = (false, false) from by rw [RIsCoinPlan, if_neg (by simp [hP])]]
    rw [hP] at HP
    clear hP
    go_enter Try.func15, Try.ntmps15
    go_wp2_with (first | (go_at_call 27; refine HP.out.mono ?_; rintro e w' ⟨rfl, rfl⟩))
    go_ret2
    exact ⟨rfl, Below.refl _ _⟩
  | true =>
    obtain ⟨h1, h2, h3, h4⟩ := pansB_facts hP
    obtain ⟨c, rfl⟩ := Int.eq_ofNat_of_zero_le (show 0 ≤ c by omega)
    rw [Int.toNat_natCast] at h3 h4
    rw [show RIsCoinPlan c xs = (planB c xs, true) from by rw [RIsCoinPlan, if_pos hP, Int.toNat_natCast]]
    have HW : Hid (∀ (W : World) (h : Int), RV W v xs → -1 ≤ h → h < c → _) := hide (fun W h hW a b => sWeighV c v h xs W hW hn (by omega) (by omega) h3 a b)
    have Hlen : Hid (∀ h, (shows c xs h (xs.length / c)).length ≤ 1048576) := hide fun h => by rw [shows_len]; omega
    have Hbad : Hid (∀ a b, b < c + 1 → a < b → eqL (shows c xs ((a : Int) - 1) (xs.length / c)) (shows c xs ((b : Int) - 1) (xs.length / c)) = true → planB c xs = false) := hide fun a b h1 h2 h3 => planB_bad h1 h2 h3
    have Hok : Hid ((∀ b, b < c + 1 → ∀ a : Nat, a < b → eqL (shows c xs ((a : Int) - 1) (xs.length / c)) (shows c xs ((b : Int) - 1) (xs.length / c)) = false) → planB c xs = true) := hide fun h => planB_ok h
    generalize planB c xs = R at *
    generalize hN : xs.length / c = N at *
    rw [hP] at HP
    clear hP h3 hN
    have HV := hide hv
    clear hv
    go_enter Try.func15, Try.ntmps15
    go_wp2_with (first | (go_at_call 27; refine HP.out.mono ?_; rintro e w' ⟨rfl, rfl⟩))
    go_loopw [6, 7] (fun i _ wr => ∃ k : Nat, k ≤ c + 1 ∧ i = .int .i64 ((k : Int) - 1) ∧ Hid (∀ b, b < k → ∀ a, a < b → eqL (shows c xs ((a : Int) - 1) N) (shows c xs ((b : Int) - 1) N) = false) ∧ Below w.heap.size w wr) (fun i _ _ => c + 1 - (intOf i + 1).toNat)
    case atStart => exact ⟨0, Nat.zero_le _, rfl, hide (by intros; omega), Below.refl _ _⟩
    case round =>
      obtain ⟨k, hk, rfl, hfa, hb⟩ := hrel
      by_cases hlt : k < c + 1
      · have hdk : decide ((k : Int) - 1 < (c : Int)) = true := by simp; omega
        go_wp2
        go_loopw [7] (fun i wx => ∃ j : Nat, Hid (0 ≤ j) ∧ j ≤ k ∧ i = .int .i64 ((j : Int) - 1) ∧ Hid (∀ a, a < j → eqL (shows c xs ((a : Int) - 1) N) (shows c xs ((k : Int) - 1) N) = false) ∧ Below w.heap.size w wx) (fun i _ => k - (intOf i + 1).toNat)
        case atStart => exact ⟨0, hide (by omega), by omega, rfl, hide (by intros; omega), hb⟩
        case round =>
          clear hb
          obtain ⟨j, Hj1, hj2, rfl, hin, hb⟩ := hrel
          have hj1 := Hj1.out
          have hj3 : (0 : Int) ≤ (j : Int) := by omega
          clear hj1
          by_cases hjt : j < k
          · go_wp2_with fail
            refine (HW.out _ _ (HV.out.below hb) (by omega) (by omega)).mono ?_
            rintro e w2 ⟨r1, rfl, ho1, hb1⟩
            have B1 := hb.trans (hb1.mono hb.size)
            go_wp2_with fail
            refine (HW.out _ _ (HV.out.below B1) (by omega) (by omega)).mono ?_
            rintro e w3 ⟨r2, rfl, ho2, hb2⟩
            have B2 := B1.trans (hb2.mono B1.size)
            have ho1' := ho1.below hb2
            have HS := Lib.hid (sSameV r1 r2 _ _ w3 ho1'.rv ho2.rv (Hlen.out _) (Hlen.out _))
            have HB2 := hide B2
            clear hb1 hb2 ho1 ho1' ho2 B1 B2 hb
            cases hq : eqL (shows c xs ((k : Int) - 1) N) (shows c xs ((j : Int) - 1) N) with
            | true =>
              rw [hq] at HS
              have hR : R = false := Hbad.out j k (by omega) (by omega) (by rw [eqL_comm]; exact hq)
              have HR := hide hR
              clear hq hR
              go_wp2_with fail
              refine HS.out.mono ?_
              rintro e w4 ⟨rfl, hb4⟩
              have B4 := hide (HB2.out.trans (hb4.mono HB2.out.size))
              clear hb4
              go_wp2
              go_ret2
              exact ⟨by rw [HR.out]; rfl, B4.out⟩
            | false =>
              rw [hq] at HS
              have HQ := hide hq
              clear hq
              go_wp2_with fail
              refine HS.out.mono ?_
              rintro e w4 ⟨rfl, hb4⟩
              have B4 := hide (HB2.out.trans (hb4.mono HB2.out.size))
              clear hb4
              go_wp2
              go_roundw
              case rel =>
                refine ⟨j + 1, hide (by omega), by omega, by go_num, hide ?_, B4.out⟩
                intro a ha
                by_cases e : a = j
                · subst e
                  rw [eqL_comm]; exact HQ.out
                · exact hin.out a (by omega)
              case measure => simp [intOf]; omega
          · have hjk : j = k := by omega
            have Hjk := hide hjk
            clear hjk
            go_wp2
            go_roundw
            case rel =>
              refine ⟨k + 1, by omega, by go_num, hide ?_, hb⟩
              intro b hb' a ha
              by_cases e : b = k
              · subst e
                exact hin.out a (by have := Hjk.out; omega)
              · exact hfa.out b (by omega) a ha
            case measure => simp [intOf]; omega
      · have hR : R = true := Hok.out (fun b hb' a ha => hfa.out b (by omega) a ha)
        have HR := hide hR
        clear hR
        go_wp2
        go_ret2
        exact ⟨by rw [HR.out]; rfl, hb⟩

set_option maxHeartbeats 1600000 in
theorem iIsCoinPlan (c : Int) (v : Value) (xs : List Int) (w : World) (hv : RV w v xs) (hn : xs.length ≤ 1048576) (_w0 : (Lit.int .i64 c).wf = true) :
    Calls Try.prog 16 #[.int .i64 c, v] w fun e w' => e = .returned (.tuple #[.bool (RIsCoinPlan c xs).1, .bool (RIsCoinPlan c xs).2]) ∧ Below w.heap.size w w' := by
  have HP := Lib.hid (iPansV c v xs w hv hn)
  cases hP : pansB c xs with
  | false =>
    rw [show RIsCoinPlan c xs = (false, false) from by rw [RIsCoinPlan, if_neg (by simp [hP])]]
    rw [hP] at HP
    clear hP
    go_enter Try.func16, Try.ntmps16
    go_wp2_with (first | (go_at_call 30; refine HP.out.mono ?_; rintro e w' ⟨rfl, rfl⟩))
    go_ret2
    exact ⟨rfl, Below.refl _ _⟩
  | true =>
    obtain ⟨h1, h2, h3, h4⟩ := pansB_facts hP
    obtain ⟨c, rfl⟩ := Int.eq_ofNat_of_zero_le (show 0 ≤ c by omega)
    rw [Int.toNat_natCast] at h3 h4
    rw [show RIsCoinPlan c xs = (planB c xs, true) from by rw [RIsCoinPlan, if_pos hP, Int.toNat_natCast]]
    have HW : Hid (∀ (W : World) (h : Int), RV W v xs → -1 ≤ h → h < c → _) := hide (fun W h hW a b => iWeighV c v h xs W hW hn (by omega) (by omega) h3 a b)
    have Hlen : Hid (∀ h, (shows c xs h (xs.length / c)).length ≤ 1048576) := hide fun h => by rw [shows_len]; omega
    have Hbad : Hid (∀ a b, b < c + 1 → a < b → eqL (shows c xs ((a : Int) - 1) (xs.length / c)) (shows c xs ((b : Int) - 1) (xs.length / c)) = true → planB c xs = false) := hide fun a b h1 h2 h3 => planB_bad h1 h2 h3
    have Hok : Hid ((∀ b, b < c + 1 → ∀ a : Nat, a < b → eqL (shows c xs ((a : Int) - 1) (xs.length / c)) (shows c xs ((b : Int) - 1) (xs.length / c)) = false) → planB c xs = true) := hide fun h => planB_ok h
    generalize planB c xs = R at *
    generalize hN : xs.length / c = N at *
    rw [hP] at HP
    clear hP h3 hN
    have HV := hide hv
    clear hv
    go_enter Try.func16, Try.ntmps16
    go_wp2_with (first | (go_at_call 30; refine HP.out.mono ?_; rintro e w' ⟨rfl, rfl⟩))
    go_loopw [6, 7] (fun i _ wr => ∃ k : Nat, k ≤ c + 1 ∧ i = .int .i64 ((k : Int) - 1) ∧ Hid (∀ a, a < k → ∀ b, a < b → b < c + 1 → eqL (shows c xs ((a : Int) - 1) N) (shows c xs ((b : Int) - 1) N) = false) ∧ Below w.heap.size w wr) (fun i _ _ => c + 1 - (intOf i + 1).toNat)
    case atStart => exact ⟨0, Nat.zero_le _, rfl, hide (by intros; omega), Below.refl _ _⟩
    case round =>
      obtain ⟨k, hk, rfl, hfa, hb⟩ := hrel
      by_cases hlt : k < c + 1
      · have hdk : decide ((k : Int) - 1 < (c : Int)) = true := by simp; omega
        go_wp2
        go_loopw [7] (fun i wx => ∃ j : Nat, Hid (k + 1 ≤ j) ∧ j ≤ c + 1 ∧ i = .int .i64 ((j : Int) - 1) ∧ Hid (∀ b, k < b → b < j → eqL (shows c xs ((k : Int) - 1) N) (shows c xs ((b : Int) - 1) N) = false) ∧ Below w.heap.size w wx) (fun i _ => c + 1 - (intOf i + 1).toNat)
        case atStart => exact ⟨k + 1, hide (by omega), by omega, by go_num, hide (by intros; omega), hb⟩
        case round =>
          clear hb
          obtain ⟨j, Hj1, hj2, rfl, hin, hb⟩ := hrel
          have hj1 := Hj1.out
          have hj3 : k < j := by omega
          clear hj1
          by_cases hjt : j < c + 1
          · go_wp2_with fail
            refine (HW.out _ _ (HV.out.below hb) (by omega) (by omega)).mono ?_
            rintro e w2 ⟨r1, rfl, ho1, hb1⟩
            have B1 := hb.trans (hb1.mono hb.size)
            go_wp2_with fail
            refine (HW.out _ _ (HV.out.below B1) (by omega) (by omega)).mono ?_
            rintro e w3 ⟨r2, rfl, ho2, hb2⟩
            have B2 := B1.trans (hb2.mono B1.size)
            have ho1' := ho1.below hb2
            have HS := Lib.hid (iSameV r1 r2 _ _ w3 ho1'.rv ho2.rv (Hlen.out _) (Hlen.out _))
            have HB2 := hide B2
            clear hb1 hb2 ho1 ho1' ho2 B1 B2 hb
            cases hq : eqL (shows c xs ((k : Int) - 1) N) (shows c xs ((j : Int) - 1) N) with
            | true =>
              rw [hq] at HS
              have hR : R = false := Hbad.out k j (by omega) (by omega) hq
              have HR := hide hR
              clear hq hR
              go_wp2_with fail
              refine HS.out.mono ?_
              rintro e w4 ⟨rfl, hb4⟩
              have B4 := hide (HB2.out.trans (hb4.mono HB2.out.size))
              clear hb4
              go_wp2
              go_ret2
              exact ⟨by rw [HR.out]; rfl, B4.out⟩
            | false =>
              rw [hq] at HS
              have HQ := hide hq
              clear hq
              go_wp2_with fail
              refine HS.out.mono ?_
              rintro e w4 ⟨rfl, hb4⟩
              have B4 := hide (HB2.out.trans (hb4.mono HB2.out.size))
              clear hb4
              go_wp2
              go_roundw
              case rel =>
                refine ⟨j + 1, hide (by omega), by omega, by go_num, hide ?_, B4.out⟩
                intro b hb1 hb2
                by_cases e : b = j
                · subst e
                  exact HQ.out
                · exact hin.out b hb1 (by omega)
              case measure => simp [intOf]; omega
          · have hjk : j = c + 1 := by omega
            have Hjk := hide hjk
            clear hjk
            go_wp2
            go_roundw
            case rel =>
              refine ⟨k + 1, by omega, by go_num, hide ?_, hb⟩
              intro a ha b hb1 hb2
              by_cases e : a = k
              · subst e
                exact hin.out b hb1 (by have := Hjk.out; omega)
              · exact hfa.out a (by omega) b hb1 hb2
            case measure => simp [intOf]; omega
      · have hR : R = true := Hok.out (fun b hb' a ha => hfa.out a (by omega) b ha hb')
        have HR := hide hR
        clear hR
        go_wp2
        go_ret2
        exact ⟨by rw [HR.out]; rfl, hb⟩
end Go.Proofs.Ytafhfcpaofgikaa
