/- The walks of the laws FnExactBallotChance, FnExactUrnMean. Conditions: none. -/
import Derived.Test.YtbganjcnhnkakaaGcd
namespace Go.Proofs.Ytbganjcnhnkakaa
open Go.ChangeShapes Go.WideShapes Go.ChangeAt Go.RowKit

theorem sMax (a b : Int) (w : World) : Calls Try.prog 17 #[.int .i64 a, .int .i64 b] w fun e w' => e = .returned (.int .i64 (max a b)) ∧ w = w' := by
  by_cases h : b < a
  · go_enter Try.func17, Try.ntmps17
    go_wp2
    go_ret
    exact ⟨ret_int (by omega), rfl⟩
  · go_enter Try.func17, Try.ntmps17
    go_wp2
    go_ret
    exact ⟨ret_int (by omega), rfl⟩

/-- what both BallotChance answer -/
def ballotR (a b : Int) : Array Value :=
  if 0 ≤ a ∧ a ≤ 1000000 ∧ 0 ≤ b ∧ b ≤ 1000000 ∧ a + b ≠ 0 then
    let x := (max 0 (a - b)).toNat
    let y := (a + b).toNat
    #[.int .i64 ((x / Nat.gcd x y : Nat) : Int), .int .i64 ((y / Nat.gcd x y : Nat) : Int), .bool true]
  else #[.int .i64 0, .int .i64 0, .bool false]
theorem ballotR_no {a b : Int} (h : ¬ (0 ≤ a ∧ a ≤ 1000000 ∧ 0 ≤ b ∧ b ≤ 1000000 ∧ a + b ≠ 0)) : ballotR a b = #[.int .i64 0, .int .i64 0, .bool false] := by rw [ballotR, if_neg h]
theorem ballotR_yes {a b : Nat} (ha : a ≤ 1000000) (hb : b ≤ 1000000) (h0 : a + b ≠ 0) :
    ballotR a b = #[.int .i64 ((((a - b : Nat)) / Nat.gcd (a - b) (a + b) : Nat) : Int), .int .i64 (((a + b : Nat) / Nat.gcd (a - b) (a + b) : Nat) : Int), .bool true] := by
  rw [ballotR, if_pos (by omega)]
  have e1 : (max 0 ((a : Int) - b)).toNat = a - b := by omega
  have e2 : ((a : Int) + b).toNat = a + b := by omega
  simp only [e1, e2]

set_option maxHeartbeats 400000 in
theorem sBallot (a b : Int) (w : World) :
    Calls Try.prog 7 #[.int .i64 a, .int .i64 b] w fun e w' => e = .returned (.tuple (ballotR a b)) ∧ ∃ n, w' = w.drewN n := by
  by_cases ha : 0 ≤ a ∧ a ≤ 1000000
  · have hA : inB a 0 1000000 = true := inB_t ha
    by_cases hb : 0 ≤ b ∧ b ≤ 1000000
    · have hB : inB b 0 1000000 = true := inB_t hb
      obtain ⟨a, rfl⟩ := Int.eq_ofNat_of_zero_le ha.1
      obtain ⟨b, rfl⟩ := Int.eq_ofNat_of_zero_le hb.1
      obtain ⟨_, ha2⟩ := ha
      obtain ⟨_, hb2⟩ := hb
      by_cases h0 : a + b = 0
      · rw [ballotR_no (by omega)]
        go_enter Try.func7, Try.ntmps7
        go_wp2_with (go_at_call 15; refine (sIn _ _ _ _).mono ?_; rintro e w' ⟨rfl, rfl⟩)
        go_ret3
        exact ⟨rfl, 0, rfl⟩
      · rw [ballotR_yes (by omega) (by omega) h0]
        have H := Lib.hid (sLeast (a - b) (a + b) w (by omega) (by omega) (by omega))
        have em : max 0 ((a : Int) - b) = ((a - b : Nat) : Int) := by omega
        have es : ((a : Int) + b) = ((a + b : Nat) : Int) := by omega
        have Em := hide em
        have Es := hide es
        generalize (a - b) / (a - b).gcd (a + b) = X at *
        generalize (a + b) / (a - b).gcd (a + b) = Y at *
        clear em es
        go_enter Try.func7, Try.ntmps7
        go_wp2_with (go_at_call 15; refine (sIn _ _ _ _).mono ?_; rintro e w' ⟨rfl, rfl⟩)
        refine (sMax _ _ _).mono ?_
        rintro e w' ⟨rfl, rfl⟩
        rw [Em.out, Es.out]
        go_wp2_with fail
        refine H.out.mono ?_
        rintro e w' ⟨rfl, n, rfl⟩
        go_wp2
        go_ret3
        exact ⟨rfl, _, rfl⟩
    · have hB : inB b 0 1000000 = false := inB_f hb
      rw [ballotR_no (by omega)]
      clear hb
      go_enter Try.func7, Try.ntmps7
      go_wp2_with (go_at_call 15; refine (sIn _ _ _ _).mono ?_; rintro e w' ⟨rfl, rfl⟩)
      go_ret3
      exact ⟨rfl, 0, rfl⟩
  · have hA : inB a 0 1000000 = false := inB_f ha
    rw [ballotR_no (by omega)]
    clear ha
    go_enter Try.func7, Try.ntmps7
    go_wp2_with (go_at_call 15; refine (sIn _ _ _ _).mono ?_; rintro e w' ⟨rfl, rfl⟩)
    go_ret3
    exact ⟨rfl, 0, rfl⟩

set_option maxHeartbeats 400000 in
theorem iBallot (a b : Int) (w : World) :
    Calls Try.prog 8 #[.int .i64 a, .int .i64 b] w fun e w' => e = .returned (.tuple (ballotR a b)) ∧ ∃ n, w' = w.drewN n := by
  by_cases ha : 0 ≤ a ∧ a ≤ 1000000
  · have hA : inB a 0 1000000 = true := inB_t ha
    by_cases hb : 0 ≤ b ∧ b ≤ 1000000
    · have hB : inB b 0 1000000 = true := inB_t hb
      obtain ⟨a, rfl⟩ := Int.eq_ofNat_of_zero_le ha.1
      obtain ⟨b, rfl⟩ := Int.eq_ofNat_of_zero_le hb.1
      obtain ⟨_, ha2⟩ := ha
      obtain ⟨_, hb2⟩ := hb
      by_cases h0 : a + b = 0
      · rw [ballotR_no (by omega)]
        go_enter Try.func8, Try.ntmps8
        go_wp2_with (go_at_call 18; refine (iIn _ _ _ _).mono ?_; rintro e w' ⟨rfl, rfl⟩)
        go_ret3
        exact ⟨rfl, 0, rfl⟩
      · rw [ballotR_yes (by omega) (by omega) h0]
        have es : ((a : Int) + b) = ((a + b : Nat) : Int) := by omega
        have Es := hide es
        clear es
        by_cases hab : b < a
        · have H := Lib.hid (iLeast (a - b) (a + b) w (by omega) (by omega) (by omega))
          have em : ((a : Int) - b) = ((a - b : Nat) : Int) := by omega
          have Em := hide em
          generalize (a - b) / (a - b).gcd (a + b) = X at *
          generalize (a + b) / (a - b).gcd (a + b) = Y at *
          clear em
          go_enter Try.func8, Try.ntmps8
          go_wp2_with (go_at_call 18; refine (iIn _ _ _ _).mono ?_; rintro e w' ⟨rfl, rfl⟩)
          rw [Em.out, Es.out]
          refine H.out.mono ?_
          rintro e w' ⟨rfl, n, rfl⟩
          go_wp2
          go_ret3
          exact ⟨rfl, _, rfl⟩
        · rw [show a - b = 0 from by omega]
          have H := Lib.hid (iLeast 0 (a + b) w (by omega) (by omega) (by omega))
          generalize 0 / Nat.gcd 0 (a + b) = X at *
          generalize (a + b) / Nat.gcd 0 (a + b) = Y at *
          go_enter Try.func8, Try.ntmps8
          go_wp2_with (go_at_call 18; refine (iIn _ _ _ _).mono ?_; rintro e w' ⟨rfl, rfl⟩)
          rw [Es.out]
          refine H.out.mono ?_
          rintro e w' ⟨rfl, n, rfl⟩
          go_wp2
          go_ret3
          exact ⟨rfl, _, rfl⟩
    · have hB : inB b 0 1000000 = false := inB_f hb
      rw [ballotR_no (by omega)]
      clear hb
      go_enter Try.func8, Try.ntmps8
      go_wp2_with (go_at_call 18; refine (iIn _ _ _ _).mono ?_; rintro e w' ⟨rfl, rfl⟩)
      go_ret3
      exact ⟨rfl, 0, rfl⟩
  · have hA : inB a 0 1000000 = false := inB_f ha
    rw [ballotR_no (by omega)]
    clear ha
    go_enter Try.func8, Try.ntmps8
    go_wp2_with (go_at_call 18; refine (iIn _ _ _ _).mono ?_; rintro e w' ⟨rfl, rfl⟩)
    go_ret3
    exact ⟨rfl, 0, rfl⟩

/-- what both UrnMean answer -/
def urnR (a b : Int) : Array Value :=
  if 1 ≤ a ∧ 0 ≤ b ∧ a + b ≤ 40 then
    let x := (a + b + 1).toNat
    let y := (a + 1).toNat
    #[.int .i64 ((x / Nat.gcd x y : Nat) : Int), .int .i64 ((y / Nat.gcd x y : Nat) : Int), .bool true]
  else #[.int .i64 0, .int .i64 0, .bool false]
theorem urnR_no {a b : Int} (h : ¬ (1 ≤ a ∧ 0 ≤ b ∧ a + b ≤ 40)) : urnR a b = #[.int .i64 0, .int .i64 0, .bool false] := by rw [urnR, if_neg h]
theorem urnR_yes {a b : Nat} (ha : 1 ≤ a) (hb : a + b ≤ 40) :
    urnR a b = #[.int .i64 ((((a + b + 1 : Nat)) / Nat.gcd (a + b + 1) (a + 1) : Nat) : Int), .int .i64 (((a + 1 : Nat) / Nat.gcd (a + b + 1) (a + 1) : Nat) : Int), .bool true] := by
  rw [urnR, if_pos (by omega)]
  have e1 : ((a : Int) + b + 1).toNat = a + b + 1 := by omega
  have e2 : ((a : Int) + 1).toNat = a + 1 := by omega
  simp only [e1, e2]
/-- what both tests of an urn answer -/
def urnB (a b : Int) : Bool := decide (0 ≤ a ∧ 0 ≤ b ∧ 1 ≤ a + b ∧ a + b ≤ 40)
theorem urnB_t {a b : Int} (h : 0 ≤ a ∧ 0 ≤ b ∧ 1 ≤ a + b ∧ a + b ≤ 40) : urnB a b = true := decide_eq_true h
theorem urnB_f {a b : Int} (h : ¬ (0 ≤ a ∧ 0 ≤ b ∧ 1 ≤ a + b ∧ a + b ≤ 40)) : urnB a b = false := decide_eq_false h

set_option maxHeartbeats 400000 in
theorem sUrn (a b : Int) (w : World) :
    Calls Try.prog 20 #[.int .i64 a, .int .i64 b, .int .i64 0, .int .i64 0, .int .i64 0] w fun e w' => e = .returned (.bool (urnB a b)) ∧ w = w' := by
  have hC : inB 0 0 0 = true := inB_t (by omega)
  by_cases ha : 0 ≤ a ∧ a ≤ 40
  · have hA : inB a 0 40 = true := inB_t ha
    obtain ⟨ha1, ha2⟩ := ha
    by_cases hb : 0 ≤ b ∧ b ≤ 40 - a
    · have hB : inB b 0 (40 - a) = true := inB_t hb
      obtain ⟨hb1, hb2⟩ := hb
      by_cases h0 : 0 < a + b
      · rw [urnB_t (by omega)]
        go_enter Try.func20, Try.ntmps20
        go_wp2_with (go_at_call 15; refine (sIn _ _ _ _).mono ?_; rintro e w' ⟨rfl, rfl⟩)
        go_ret
        exact ⟨rfl, rfl⟩
      · rw [urnB_f (by omega)]
        go_enter Try.func20, Try.ntmps20
        go_wp2_with (go_at_call 15; refine (sIn _ _ _ _).mono ?_; rintro e w' ⟨rfl, rfl⟩)
        go_ret
        exact ⟨rfl, rfl⟩
    · have hB : inB b 0 (40 - a) = false := inB_f hb
      rw [urnB_f (by omega)]
      clear hb
      go_enter Try.func20, Try.ntmps20
      go_wp2_with (go_at_call 15; refine (sIn _ _ _ _).mono ?_; rintro e w' ⟨rfl, rfl⟩)
      go_ret
      exact ⟨rfl, rfl⟩
  · have hA : inB a 0 40 = false := inB_f ha
    rw [urnB_f (by omega)]
    clear ha
    go_enter Try.func20, Try.ntmps20
    go_wp2_with (go_at_call 15; refine (sIn _ _ _ _).mono ?_; rintro e w' ⟨rfl, rfl⟩)
    go_ret
    exact ⟨rfl, rfl⟩

set_option maxHeartbeats 400000 in
theorem iUrn (a b : Int) (w : World) :
    Calls Try.prog 21 #[.int .i64 a, .int .i64 b] w fun e w' => e = .returned (.bool (urnB a b)) ∧ w = w' := by
  by_cases ha : 0 ≤ a ∧ a ≤ 40
  · have hA : inB a 0 40 = true := inB_t ha
    obtain ⟨ha1, ha2⟩ := ha
    by_cases hb : 0 ≤ b ∧ b ≤ 40
    · have hB : inB b 0 40 = true := inB_t hb
      obtain ⟨hb1, hb2⟩ := hb
      by_cases h0 : 1 ≤ a + b ∧ a + b ≤ 40
      · have hC : inB (a + b) 1 40 = true := inB_t h0
        rw [urnB_t (by omega)]
        clear h0
        go_enter Try.func21, Try.ntmps21
        go_wp2_with (go_at_call 18; refine (iIn _ _ _ _).mono ?_; rintro e w' ⟨rfl, rfl⟩)
        go_ret
        exact ⟨rfl, rfl⟩
      · have hC : inB (a + b) 1 40 = false := inB_f h0
        rw [urnB_f (by omega)]
        clear h0
        go_enter Try.func21, Try.ntmps21
        go_wp2_with (go_at_call 18; refine (iIn _ _ _ _).mono ?_; rintro e w' ⟨rfl, rfl⟩)
        go_ret
        exact ⟨rfl, rfl⟩
    · have hB : inB b 0 40 = false := inB_f hb
      rw [urnB_f (by omega)]
      clear hb
      go_enter Try.func21, Try.ntmps21
      go_wp2_with (go_at_call 18; refine (iIn _ _ _ _).mono ?_; rintro e w' ⟨rfl, rfl⟩)
      go_ret
      exact ⟨rfl, rfl⟩
  · have hA : inB a 0 40 = false := inB_f ha
    rw [urnB_f (by omega)]
    clear ha
    go_enter Try.func21, Try.ntmps21
    go_wp2_with (go_at_call 18; refine (iIn _ _ _ _).mono ?_; rintro e w' ⟨rfl, rfl⟩)
    go_ret
    exact ⟨rfl, rfl⟩

set_option maxHeartbeats 400000 in
theorem sUrnMean (a b : Int) (w : World) :
    Calls Try.prog 9 #[.int .i64 a, .int .i64 b] w fun e w' => e = .returned (.tuple (urnR a b)) ∧ ∃ n, w' = w.drewN n := by
  by_cases h : 0 ≤ a ∧ 0 ≤ b ∧ 1 ≤ a + b ∧ a + b ≤ 40
  · have hU : urnB a b = true := urnB_t h
    obtain ⟨a, rfl⟩ := Int.eq_ofNat_of_zero_le h.1
    obtain ⟨b, rfl⟩ := Int.eq_ofNat_of_zero_le h.2.1
    obtain ⟨_, _, h3, h4⟩ := h
    by_cases h1 : a < 1
    · rw [urnR_no (by omega)]
      go_enter Try.func9, Try.ntmps9
      go_wp2_with (go_at_call 20; refine (sUrn _ _ _).mono ?_; rintro e w' ⟨rfl, rfl⟩)
      go_ret3
      exact ⟨rfl, 0, rfl⟩
    · rw [urnR_yes (by omega) (by omega)]
      have H := Lib.hid (sLeast (a + b + 1) (a + 1) w (by omega) (by omega) (by omega))
      have em : (a : Int) + b + 1 = ((a + b + 1 : Nat) : Int) := by omega
      have es : ((a : Int) + 1) = ((a + 1 : Nat) : Int) := by omega
      have Em := hide em
      have Es := hide es
      generalize (a + b + 1) / (a + b + 1).gcd (a + 1) = X at *
      generalize (a + 1) / (a + b + 1).gcd (a + 1) = Y at *
      clear em es
      go_enter Try.func9, Try.ntmps9
      go_wp2_with (go_at_call 20; refine (sUrn _ _ _).mono ?_; rintro e w' ⟨rfl, rfl⟩)
      rw [Em.out, Es.out]
      refine H.out.mono ?_
      rintro e w' ⟨rfl, n, rfl⟩
      go_wp2
      go_ret3
      exact ⟨rfl, _, rfl⟩
  · have hU : urnB a b = false := urnB_f h
    rw [urnR_no (by omega)]
    clear h
    go_enter Try.func9, Try.ntmps9
    go_wp2_with (go_at_call 20; refine (sUrn _ _ _).mono ?_; rintro e w' ⟨rfl, rfl⟩)
    go_ret3
    exact ⟨rfl, 0, rfl⟩

set_option maxHeartbeats 400000 in
theorem iUrnMean (a b : Int) (w : World) :
    Calls Try.prog 10 #[.int .i64 a, .int .i64 b] w fun e w' => e = .returned (.tuple (urnR a b)) ∧ ∃ n, w' = w.drewN n := by
  by_cases h : 0 ≤ a ∧ 0 ≤ b ∧ 1 ≤ a + b ∧ a + b ≤ 40
  · have hU : urnB a b = true := urnB_t h
    obtain ⟨a, rfl⟩ := Int.eq_ofNat_of_zero_le h.1
    obtain ⟨b, rfl⟩ := Int.eq_ofNat_of_zero_le h.2.1
    obtain ⟨_, _, h3, h4⟩ := h
    by_cases h1 : a < 1
    · rw [urnR_no (by omega)]
      go_enter Try.func10, Try.ntmps10
      go_wp2_with (go_at_call 21; refine (iUrn _ _ _).mono ?_; rintro e w' ⟨rfl, rfl⟩)
      go_ret3
      exact ⟨rfl, 0, rfl⟩
    · rw [urnR_yes (by omega) (by omega)]
      have H := Lib.hid (iLeast (a + b + 1) (a + 1) w (by omega) (by omega) (by omega))
      have em : (a : Int) + b + 1 = ((a + b + 1 : Nat) : Int) := by omega
      have es : ((a : Int) + 1) = ((a + 1 : Nat) : Int) := by omega
      have Em := hide em
      have Es := hide es
      generalize (a + b + 1) / (a + b + 1).gcd (a + 1) = X at *
      generalize (a + 1) / (a + b + 1).gcd (a + 1) = Y at *
      clear em es
      go_enter Try.func10, Try.ntmps10
      go_wp2_with (go_at_call 21; refine (iUrn _ _ _).mono ?_; rintro e w' ⟨rfl, rfl⟩)
      rw [Em.out, Es.out]
      refine H.out.mono ?_
      rintro e w' ⟨rfl, n, rfl⟩
      go_wp2
      go_ret3
      exact ⟨rfl, _, rfl⟩
  · have hU : urnB a b = false := urnB_f h
    rw [urnR_no (by omega)]
    clear h
    go_enter Try.func10, Try.ntmps10
    go_wp2_with (go_at_call 21; refine (iUrn _ _ _).mono ?_; rintro e w' ⟨rfl, rfl⟩)
    go_ret3
    exact ⟨rfl, 0, rfl⟩

theorem lawBallot (a b : Int) (w : World) :
    Calls Try.prog 3 #[.int .i64 a, .int .i64 b] w fun e w' => e = .returned (.bool true) ∧ Below w.heap.size w w' := by
  have hs := sBallot a b
  have hi := iBallot a b
  obtain ⟨x, y, z, e⟩ : ∃ x y z, ballotR a b = #[.int .i64 x, .int .i64 y, .bool z] := by
    unfold ballotR
    split
    · exact ⟨_, _, _, rfl⟩
    · exact ⟨_, _, _, rfl⟩
  rw [e] at hs hi
  have Hs := Lib.hid hs
  have Hi := Lib.hid hi
  clear e hs hi
  go_enter Try.func3, Try.ntmps3
  go_wp2_with fail
  refine (Hs.out _).mono ?_
  rintro e w' ⟨rfl, n, rfl⟩
  go_wp2_with fail
  refine (Hi.out _).mono ?_
  rintro e w' ⟨rfl, m, rfl⟩
  go_wp2
  all_goals go_ret
  all_goals exact ⟨rfl, below_drewN (Below.refl _ _) _⟩

theorem lawUrnMean (a b : Int) (w : World) :
    Calls Try.prog 4 #[.int .i64 a, .int .i64 b] w fun e w' => e = .returned (.bool true) ∧ Below w.heap.size w w' := by
  have hs := sUrnMean a b
  have hi := iUrnMean a b
  obtain ⟨x, y, z, e⟩ : ∃ x y z, urnR a b = #[.int .i64 x, .int .i64 y, .bool z] := by
    unfold urnR
    split
    · exact ⟨_, _, _, rfl⟩
    · exact ⟨_, _, _, rfl⟩
  rw [e] at hs hi
  have Hs := Lib.hid hs
  have Hi := Lib.hid hi
  clear e hs hi
  go_enter Try.func4, Try.ntmps4
  go_wp2_with fail
  refine (Hs.out _).mono ?_
  rintro e w' ⟨rfl, n, rfl⟩
  go_wp2_with fail
  refine (Hi.out _).mono ?_
  rintro e w' ⟨rfl, m, rfl⟩
  go_wp2
  all_goals go_ret
  all_goals exact ⟨rfl, below_drewN (Below.refl _ _) _⟩
end Go.Proofs.Ytbganjcnhnkakaa
