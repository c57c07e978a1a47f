/- Contracts of areDice and l05Dice. Conditions: lengths at most 2^20. -/
import Derived.Test.YtjeaiihgedennaaDSM
import Derived.Test.YtjeaiihgedennaaDie2M
namespace Go.Proofs.Ytjeaiihgedennaa
open Go.ChangeShapes Go.WideShapes Go.ChangeAt Go.RowKit

def badD (xss : List (List Int)) : Bool := (List.range xss.length).any fun k => !dieB (xss.getD k [])
def diceB (xss : List (List Int)) : Bool := decide (1 ≤ xss.length ∧ xss.length ≤ 6) && !badD xss
theorem badD_t {xss : List (List Int)} {k : Nat} (hk : k < xss.length) (h : dieB (xss.getD k []) = false) : badD xss = true := by
  rw [badD, List.any_eq_true]
  exact ⟨k, by simpa using hk, by rw [h]; rfl⟩
theorem badD_f {xss : List (List Int)} (h : ∀ k, k < xss.length → dieB (xss.getD k []) = true) : badD xss = false := by
  rw [badD, List.any_eq_false]
  intro x hx
  rw [h x (by simpa using hx)]
  simp
theorem diceB_of {xss : List (List Int)} (h : diceB xss = true) : 1 ≤ xss.length ∧ xss.length ≤ 6 ∧ ∀ k, k < xss.length → dieB (xss.getD k []) = true := by
  simp only [diceB, Bool.and_eq_true, decide_eq_true_eq, Bool.not_eq_true'] at h
  refine ⟨h.1.1, h.1.2, fun k hk => ?_⟩
  cases hq : dieB (xss.getD k []) with
  | true => rfl
  | false => rw [badD_t hk hq] at h; cases h.2

set_option maxHeartbeats 800000 in
theorem sDice (A : Option Addr) (n c : Nat) (xss : List (List Int)) (w : World) (hr : RdR w A n xss) (hn : n ≤ 1048576) (hrow : ∀ k, k < n → (xss.getD k []).length ≤ 1048576) :
    Calls Try.prog 37 #[.slice A n c] w fun e w' => e = .returned (.bool (diceB xss)) ∧ ∃ q, w' = w.drewN q := by
  have hl := hr.len
  have Hbad : Hid (∀ k, k < n → dieB (xss.getD k []) = false → diceB xss = false) := hide fun k hk h => by rw [diceB, badD_t (by omega) h]; simp
  have Hok : Hid ((∀ k, k < n → dieB (xss.getD k []) = true) → diceB xss = decide (1 ≤ n ∧ n ≤ 6)) := hide fun h => by rw [diceB, badD_f (by rw [hl]; exact h), hl]; simp
  have Hrow := hide hrow
  generalize diceB xss = R at *
  clear hl hrow
  go_enter Try.func37, Try.ntmps37
  go_wp2
  go_loopw [3, 6] (fun _ i wr => ∃ k : Nat, k ≤ n ∧ i = .int .i64 k ∧ Hid (∀ j, j < k → dieB (xss.getD j []) = true) ∧ Hid (∃ q, wr = w.drewN q)) (fun _ i _ => n - (intOf i).toNat)
  case atStart => exact ⟨0, Nat.zero_le _, rfl, hide fun j hj => absurd hj (by omega), hide ⟨0, rfl⟩⟩
  case round =>
    obtain ⟨k, hk, rfl, hfa, hq0⟩ := hrel
    obtain ⟨q0, rfl⟩ := hq0.out
    by_cases hlt : k < n
    · obtain ⟨ad, B, d, rfl, hbl, hc, hrr, hd⟩ := hr.at hlt
      have HB := hide (Hbad.out k hlt)
      have HS := Lib.hid (sIsDie (ad.add k) B _ d _ (w.drewN q0) hc hrr (Hrow.out k hlt))
      have Hfa := hide (fun (h : dieB (xss.getD k []) = true) j (hj : j < k + 1) => show dieB (xss.getD j []) = true by
        by_cases e : j = k
        · subst e; exact h
        · exact hfa.out j (by omega))
      cases hq : dieB (xss.getD k []) with
      | false =>
        rw [hq] at HS
        have HR := hide (HB.out hq)
        go_wp2_with (go_at_call 60; refine HS.out.mono ?_; rintro e w' ⟨rfl, q, rfl⟩)
        go_ret
        exact ⟨ret_bool HR.out.symm, by repeat (first | exact ⟨_, rfl⟩ | exact drew2 _ _ _)⟩
      | true =>
        rw [hq] at HS
        have Hf2 := hide (Hfa.out hq)
        go_wp2_with (go_at_call 60; refine HS.out.mono ?_; rintro e w' ⟨rfl, q, rfl⟩)
        go_roundw
        case measure => simp [intOf]; omega
        case rel => exact ⟨k + 1, by omega, by go_num, Hf2, hide (by repeat (first | exact ⟨_, rfl⟩ | exact drew2 _ _ _))⟩
    · have hkn : k = n := by omega
      subst hkn
      have HR := hide (Hok.out hfa.out)
      by_cases h1 : 1 ≤ k
      · have d1 : decide (1 ≤ (k : Int)) = true := decide_eq_true (by omega)
        by_cases h6 : k ≤ 6
        · have d6 : decide ((k : Int) ≤ 6) = true := decide_eq_true (by omega)
          go_wp2
          go_ret
          exact ⟨ret_bool (by rw [HR.out, decide_eq_true ⟨h1, h6⟩]), _, rfl⟩
        · have d6 : decide ((k : Int) ≤ 6) = false := decide_eq_false (by omega)
          go_wp2
          go_ret
          exact ⟨ret_bool (by rw [HR.out, decide_eq_false (fun h => h6 h.2)]), _, rfl⟩
      · have hk0 : k = 0 := by omega
        subst hk0
        go_wp2
        go_ret
        exact ⟨ret_bool (by rw [HR.out]; rfl), _, rfl⟩

set_option maxHeartbeats 400000 in
theorem iBad1 (v : Value) (xs : List Int) (w : World) (hv : RV w v xs) (hn : xs.length ≤ 1048576) :
    Calls Try.prog 68 #[.agg #[v]] w fun e w' => e = .returned (.bool (!dieB xs)) ∧ Below w.heap.size w w' := by
  obtain ⟨A, c, rfl, hr, hc⟩ := hv
  have hc1 := dcell w (.slice A xs.length c) 62
  have H := Lib.hid (iIsDie0 A xs.length c xs _ (hr.alloc (.cells #[.slice A xs.length c] 62)) hn)
  generalize xs.length = n at *
  go_enter Try.func68, Try.ntmps68
  go_wp2_with (go_at_call 69; refine H.out.mono ?_; rintro e w' ⟨rfl, hb⟩)
  go_ret
  exact ⟨rfl, ((Below.refl _ _).alloc (Nat.le_refl _) _).trans (hb.mono (by simp))⟩

set_option maxRecDepth 100000 in
set_option maxHeartbeats 800000 in
theorem iIdxD (A : Option Addr) (n c : Nat) (xss : List (List Int)) (w : World) (hr : RdR w A n xss) (hn : n ≤ 1048576) (hrow : ∀ k, k < n → (xss.getD k []).length ≤ 1048576) :
    Calls Try.prog 80 #[.slice A n c, .func (.func 68) #[] #[]] w fun e w' =>
      ∃ r : Int, e = .returned (.int .i64 r) ∧ decide (0 ≤ r) = badD xss ∧ Below w.heap.size w w' := by
  have hl := hr.len
  have Hbad : Hid (∀ k, k < n → dieB (xss.getD k []) = false → badD xss = true) := hide fun k hk h => badD_t (by omega) h
  have Hok : Hid ((∀ k, k < n → dieB (xss.getD k []) = true) → badD xss = false) := hide fun h => badD_f (by rw [hl]; exact h)
  have Hrow := hide hrow
  generalize badD xss = R at *
  clear hl hrow
  have eg : ∀ (args : Array Value) (w : World), (callFunc 68 args).run Try.prog w = .ok (.enter 68 args) w := fun _ _ => rfl
  go_enter Try.func80, Try.ntmps80
  go_wp2
  go_loopw [5, 8] (fun _ i wr => ∃ k : Nat, k ≤ n ∧ i = .int .i64 k ∧ Hid (∀ j, j < k → dieB (xss.getD j []) = true) ∧ Below w.heap.size w wr) (fun _ i _ => n - (intOf i).toNat)
  case atStart => exact ⟨0, Nat.zero_le _, rfl, hide fun j hj => absurd hj (by omega), Below.refl _ _⟩
  case round =>
    obtain ⟨k, hk, rfl, hfa, hb⟩ := hrel
    by_cases hlt : k < n
    · obtain ⟨ad, B, d, rfl, hbl, hc, hrr, hd⟩ := (hr.below hb).at hlt
      have HB := hide (Hbad.out k hlt)
      have HS := Lib.hid (iBad1 _ _ wr (RV.mk hrr hd) (Hrow.out k hlt))
      have Hfa := hide (fun (h : dieB (xss.getD k []) = true) j (hj : j < k + 1) => show dieB (xss.getD j []) = true by
        by_cases e : j = k
        · subst e; exact h
        · exact hfa.out j (by omega))
      clear hrr
      cases hq : dieB (xss.getD k []) with
      | false =>
        rw [hq] at HS
        have HR := hide (HB.out hq)
        generalize (xss.getD k []).length = len at *
        go_wp2_with (first | (go_at_call 68; refine HS.out.mono ?_; rintro e w2 ⟨rfl, hb2⟩) | (go_at_fn 68; refine HS.out.mono ?_; rintro e w2 ⟨rfl, hb2⟩))
        go_ret
        exact ⟨_, rfl, by rw [HR.out]; exact decide_eq_true (by omega), hb.trans (hb2.mono hb.size)⟩
      | true =>
        rw [hq] at HS
        have Hf2 := hide (Hfa.out hq)
        generalize (xss.getD k []).length = len at *
        go_wp2_with (first | (go_at_call 68; refine HS.out.mono ?_; rintro e w2 ⟨rfl, hb2⟩) | (go_at_fn 68; refine HS.out.mono ?_; rintro e w2 ⟨rfl, hb2⟩))
        go_roundw
        case measure => simp [intOf]; omega
        case rel => exact ⟨k + 1, by omega, by go_num, Hf2, hb.trans (hb2.mono hb.size)⟩
    · have hkn : k = n := by omega
      subst hkn
      have HR := hide (Hok.out hfa.out)
      go_wp2
      go_ret
      exact ⟨_, rfl, by rw [HR.out]; rfl, hb⟩
set_option maxHeartbeats 400000 in
theorem iHasD (A : Option Addr) (n c : Nat) (xss : List (List Int)) (w : World) (hr : RdR w A n xss) (hn : n ≤ 1048576) (hrow : ∀ k, k < n → (xss.getD k []).length ≤ 1048576) :
    Calls Try.prog 67 #[.slice A n c, .func (.func 68) #[] #[]] w fun e w' => e = .returned (.bool (badD xss)) ∧ Below w.heap.size w w' := by
  have H := Lib.hid (iIdxD A n c xss w hr hn hrow)
  generalize badD xss = R at *
  clear hr hrow
  go_enter Try.func67, Try.ntmps67
  go_wp2_with (go_at_call 80; refine H.out.mono ?_; rintro e w2 ⟨r, rfl, hrr, hb2⟩)
  go_ret
  exact ⟨ret_bool (by rw [← hrr]), hb2⟩
set_option maxHeartbeats 800000 in
theorem iDice (A : Option Addr) (n c : Nat) (xss : List (List Int)) (w : World) (hr : RdR w A n xss) (hn : n ≤ 1048576) (hrow : ∀ k, k < n → (xss.getD k []).length ≤ 1048576) :
    Calls Try.prog 44 #[.slice A n c] w fun e w' => e = .returned (.bool (diceB xss)) ∧ Below w.heap.size w w' := by
  have hl := hr.len
  have H := Lib.hid (iHasD A n c xss w hr hn hrow)
  clear hr hrow
  by_cases h1 : 1 ≤ n
  · have d1 : decide (1 ≤ (n : Int)) = true := decide_eq_true (by omega)
    by_cases h6 : n ≤ 6
    · have d6 : decide ((n : Int) ≤ 6) = true := decide_eq_true (by omega)
      have HR : Hid (diceB xss = !badD xss) := hide (by rw [diceB, hl, decide_eq_true ⟨h1, h6⟩]; rfl)
      clear hl
      generalize diceB xss = R at *
      generalize badD xss = b at *
      go_enter Try.func44, Try.ntmps44
      go_wp2_with (go_at_call 67; refine H.out.mono ?_; rintro e w2 ⟨rfl, hb2⟩)
      go_ret
      exact ⟨ret_bool HR.out.symm, hb2⟩
    · have d6 : decide ((n : Int) ≤ 6) = false := decide_eq_false (by omega)
      have HR : Hid (diceB xss = false) := hide (by rw [diceB, hl, decide_eq_false (fun h => h6 h.2)]; rfl)
      clear hl H
      go_enter Try.func44, Try.ntmps44
      go_wp2
      go_ret
      exact ⟨ret_bool HR.out.symm, Below.refl _ _⟩
  · have d1 : decide (1 ≤ (n : Int)) = false := decide_eq_false (by omega)
    have HR : Hid (diceB xss = false) := hide (by rw [diceB, hl, decide_eq_false (fun h => h1 h.1)]; rfl)
    clear hl H
    go_enter Try.func44, Try.ntmps44
    go_wp2
    go_ret
    exact ⟨ret_bool HR.out.symm, Below.refl _ _⟩
end Go.Proofs.Ytjeaiihgedennaa
