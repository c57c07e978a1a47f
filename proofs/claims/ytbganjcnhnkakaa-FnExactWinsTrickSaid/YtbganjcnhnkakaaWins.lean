/- The walk of the law FnExactWinsTrick. Conditions: none. -/
import Derived.Test.YtbganjcnhnkakaaHas
namespace Go.Proofs.Ytbganjcnhnkakaa
open Go.ChangeShapes Go.WideShapes Go.ChangeAt Go.RowKit

/-- does the card led win -/
def winsB (a b t : Int) : Bool := if a / 13 = b / 13 then decide (b < a) else decide (b / 13 ≠ t)
def winsOk (a b t : Int) : Bool := inB a 0 51 && (inB b 0 51 && (decide (a ≠ b) && inB t (-1) 3))
def winsR (a b t : Int) : Array Value := if winsOk a b t = true then #[.bool (winsB a b t), .bool true] else #[.bool false, .bool false]

theorem handB_two (a b : Int) : handB [a, b] 2 2 = (inB a 0 51 && (inB b 0 51 && decide (a ≠ b))) := by
  by_cases h : a = b
  · subst h
    cases h1 : inB a 0 51 <;> simp [handB, cardAt, List.range_succ, h1]
  · have h' : (b == a) = false := by simpa using fun e => h e.symm
    cases h1 : inB a 0 51 <;> cases h2 : inB b 0 51 <;> simp [handB, cardAt, List.range_succ, h1, h2, h', h]

theorem sWins (a b t : Int) (w : World) (ha : 0 ≤ a) (ha2 : a ≤ 51) (hb : 0 ≤ b) (hb2 : b ≤ 51) :
    Calls Try.prog 22 #[.int .i64 a, .int .i64 b, .int .i64 t] w fun e w' => e = .returned (.bool (winsB a b t)) ∧ w = w' := by
  by_cases h : a / 13 = b / 13
  · rw [winsB, if_pos h]
    have hB : (a / 13 == b / 13) = true := by simpa using h
    clear h
    go_enter Try.func22, Try.ntmps22
    go_wp2
    go_ret
    exact ⟨rfl, rfl⟩
  · rw [winsB, if_neg h]
    have hB : (a / 13 == b / 13) = false := by simpa using h
    clear h
    by_cases h2 : b / 13 = t
    · have hC : (b / 13 != t) = false := by simpa using h2
      have e : decide (b / 13 ≠ t) = false := by simpa using h2
      rw [e]
      clear h2 e
      go_enter Try.func22, Try.ntmps22
      go_wp2
      go_ret
      exact ⟨by simp [hC], rfl⟩
    · have hC : (b / 13 != t) = true := by simpa using h2
      have e : decide (b / 13 ≠ t) = true := by simpa using h2
      rw [e]
      clear h2 e
      go_enter Try.func22, Try.ntmps22
      go_wp2
      go_ret
      exact ⟨by simp [hC], rfl⟩

theorem iWins (a b t : Int) (w : World) (ha : 0 ≤ a) (ha2 : a ≤ 51) (hb : 0 ≤ b) (hb2 : b ≤ 51) :
    Calls Try.prog 24 #[.int .i64 a, .int .i64 b, .int .i64 t] w fun e w' => e = .returned (.bool (winsB a b t)) ∧ w = w' := by
  by_cases h : a / 13 = b / 13
  · rw [winsB, if_pos h]
    have hB : (a / 13 == b / 13) = true := by simpa using h
    clear h
    go_enter Try.func24, Try.ntmps24
    go_wp2
    go_ret
    exact ⟨rfl, rfl⟩
  · rw [winsB, if_neg h]
    have hB : (a / 13 == b / 13) = false := by simpa using h
    clear h
    by_cases h2 : b / 13 = t
    · have hC : (b / 13 != t) = false := by simpa using h2
      have e : decide (b / 13 ≠ t) = false := by simpa using h2
      rw [e]
      clear h2 e
      go_enter Try.func24, Try.ntmps24
      go_wp2
      go_ret
      exact ⟨by simp [hC], rfl⟩
    · have hC : (b / 13 != t) = true := by simpa using h2
      have e : decide (b / 13 ≠ t) = true := by simpa using h2
      rw [e]
      clear h2 e
      go_enter Try.func24, Try.ntmps24
      go_wp2
      go_ret
      exact ⟨by simp [hC], rfl⟩

set_option maxHeartbeats 400000 in
theorem sWinsTrick (a b t : Int) (w : World) :
    Calls Try.prog 13 #[.int .i64 a, .int .i64 b, .int .i64 t] w fun e w' => e = .returned (.tuple (winsR a b t)) ∧ w = w' := by
  cases hA : inB a 0 51 with
  | false =>
    rw [winsR, if_neg (by simp [winsOk, hA])]
    go_enter Try.func13, Try.ntmps13
    go_wp2_with (go_at_call 15; refine (sIn _ _ _ _).mono ?_; rintro e w' ⟨rfl, rfl⟩)
    go_ret2
    exact ⟨rfl, rfl⟩
  | true =>
    cases hB : inB b 0 51 with
    | false =>
      rw [winsR, if_neg (by simp [winsOk, hA, hB])]
      go_enter Try.func13, Try.ntmps13
      go_wp2_with (go_at_call 15; refine (sIn _ _ _ _).mono ?_; rintro e w' ⟨rfl, rfl⟩)
      go_ret2
      exact ⟨rfl, rfl⟩
    | true =>
      have h1 := inB_iff.1 hA
      have h2 := inB_iff.1 hB
      obtain ⟨h11, h12⟩ := h1
      obtain ⟨h21, h22⟩ := h2
      by_cases he : a = b
      · rw [winsR, if_neg (by simp [winsOk, he])]
        have hE : (a == b) = true := by simpa using he
        clear he
        go_enter Try.func13, Try.ntmps13
        go_wp2_with (go_at_call 15; refine (sIn _ _ _ _).mono ?_; rintro e w' ⟨rfl, rfl⟩)
        go_ret2
        exact ⟨rfl, rfl⟩
      · have hE : (a == b) = false := by simpa using he
        cases hT : inB t (-1) 3 with
        | false =>
          rw [winsR, if_neg (by simp [winsOk, hT])]
          clear he
          go_enter Try.func13, Try.ntmps13
          go_wp2_with (go_at_call 15; refine (sIn _ _ _ _).mono ?_; rintro e w' ⟨rfl, rfl⟩)
          go_ret2
          exact ⟨rfl, rfl⟩
        | true =>
          rw [winsR, if_pos (by simp [winsOk, hA, hB, hT, he])]
          clear he
          go_enter Try.func13, Try.ntmps13
          go_wp2_with (first | (go_at_call 15; refine (sIn _ _ _ _).mono ?_; rintro e w' ⟨rfl, rfl⟩) | (go_at_call 22; refine (sWins _ _ _ _ h11 h12 h21 h22).mono ?_; rintro e w' ⟨rfl, rfl⟩))
          go_ret2
          exact ⟨rfl, rfl⟩

set_option maxHeartbeats 400000 in
theorem iWinsTrick (a b t : Int) (w : World) :
    Calls Try.prog 14 #[.int .i64 a, .int .i64 b, .int .i64 t] w fun e w' => e = .returned (.tuple (winsR a b t)) ∧ Below w.heap.size w w' := by
  have hB := Bk.new w 2 (iv [a, b])
  have h := iHand (some ⟨w.heap.size, 0, none⟩) 2 2 [a, b] 2 2 _ (hB.rdi rfl) (by omega) (by omega)
  rw [handB_two] at h
  have H := Lib.hid h
  clear h hB
  cases hq : (inB a 0 51 && (inB b 0 51 && decide (a ≠ b))) with
  | false =>
    rw [hq] at H
    have e : winsOk a b t = false := by
      rw [winsOk]
      cases h1 : inB a 0 51 <;> cases h2 : inB b 0 51 <;> simp [h1, h2] at hq <;> simp [hq]
    rw [winsR, if_neg (by rw [e]; simp)]
    clear e hq
    go_enter Try.func14, Try.ntmps14
    go_wp2_with (go_at_call 23; refine H.out.mono ?_; rintro e w' ⟨rfl, rfl⟩)
    go_ret2
    exact ⟨rfl, (Below.refl _ _).alloc (Nat.le_refl _) _⟩
  | true =>
    rw [hq] at H
    have h1 : inB a 0 51 = true ∧ inB b 0 51 = true ∧ ¬ a = b := by simpa using hq
    obtain ⟨hA, hB, hE⟩ := h1
    have h1 := inB_iff.1 hA
    have h2 := inB_iff.1 hB
    obtain ⟨h11, h12⟩ := h1
    obtain ⟨h21, h22⟩ := h2
    cases hT : inB t (-1) 3 with
    | false =>
      rw [winsR, if_neg (by simp [winsOk, hT])]
      clear hq hE
      go_enter Try.func14, Try.ntmps14
      go_wp2_with (first | (go_at_call 23; refine H.out.mono ?_; rintro e w' ⟨rfl, rfl⟩) | (go_at_call 18; refine (iIn _ _ _ _).mono ?_; rintro e w' ⟨rfl, rfl⟩))
      go_ret2
      exact ⟨rfl, (Below.refl _ _).alloc (Nat.le_refl _) _⟩
    | true =>
      rw [winsR, if_pos (by simp [winsOk, hA, hB, hT, hE])]
      clear hq hE
      go_enter Try.func14, Try.ntmps14
      go_wp2_with (first | (go_at_call 23; refine H.out.mono ?_; rintro e w' ⟨rfl, rfl⟩) | (go_at_call 18; refine (iIn _ _ _ _).mono ?_; rintro e w' ⟨rfl, rfl⟩) | (go_at_call 24; refine (iWins _ _ _ _ h11 h12 h21 h22).mono ?_; rintro e w' ⟨rfl, rfl⟩))
      go_ret2
      exact ⟨rfl, (Below.refl _ _).alloc (Nat.le_refl _) _⟩

theorem lawWinsTrick (a b t : Int) (w : World) :
    Calls Try.prog 6 #[.int .i64 a, .int .i64 b, .int .i64 t] w fun e w' => e = .returned (.bool true) ∧ Below w.heap.size w w' := by
  have hs := sWinsTrick a b t
  have hi := iWinsTrick a b t
  obtain ⟨x, y, e⟩ : ∃ x y, winsR a b t = #[.bool x, .bool y] := by
    unfold winsR
    split
    · exact ⟨_, _, rfl⟩
    · exact ⟨_, _, rfl⟩
  rw [e] at hs hi
  have Hs := Lib.hid hs
  have Hi := Lib.hid hi
  clear e hs hi
  cases x <;> cases y
  all_goals
    go_enter Try.func6, Try.ntmps6
    go_wp2_with fail
    refine (Hs.out _).mono ?_
    rintro e w' ⟨rfl, rfl⟩
    go_wp2_with fail
    refine (Hi.out _).mono ?_
    rintro e w' ⟨rfl, hb⟩
    go_wp2
    go_ret
    exact ⟨rfl, hb⟩
end Go.Proofs.Ytbganjcnhnkakaa
