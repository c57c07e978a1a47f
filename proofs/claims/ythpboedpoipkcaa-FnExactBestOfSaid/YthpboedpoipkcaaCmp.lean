/- Contracts of slices.Compare and of the model's l05Before, on lists of one length. Conditions: lengths at most 12. -/
import Derived.Test.YthpboedpoipkcaaNum
import Derived.Test.YthpboedpoipkcaaVal
namespace Go.Proofs.Ythpboedpoipkcaa
open Go.ChangeShapes Go.WideShapes Go.ChangeAt Go.RowKit

/-- does a list come before another one -/
def befL : List Int → List Int → Bool
  | x :: xs, y :: ys => if x = y then befL xs ys else decide (x < y)
  | _, _ => false
/-- the same from place k on -/
def befK (xs ys : List Int) (k : Nat) : Bool := befL (xs.drop k) (ys.drop k)
theorem befK_zero (xs ys : List Int) : befK xs ys 0 = befL xs ys := rfl
theorem drop_at {xs : List Int} {k : Nat} (h : k < xs.length) : xs.drop k = xs.getD k 0 :: xs.drop (k + 1) := by
  rw [List.drop_eq_getElem_cons h]
  simp [List.getD, h]
theorem befK_same {xs ys : List Int} {k n : Nat} (h1 : xs.length = n) (h2 : ys.length = n) (hk : k < n) (h : xs.getD k 0 = ys.getD k 0) : befK xs ys k = befK xs ys (k + 1) := by
  unfold befK
  rw [drop_at (by omega), drop_at (xs := ys) (by omega), befL, if_pos h]
theorem befK_other {xs ys : List Int} {k n : Nat} (h1 : xs.length = n) (h2 : ys.length = n) (hk : k < n) (h : xs.getD k 0 ≠ ys.getD k 0) : befK xs ys k = decide (xs.getD k 0 < ys.getD k 0) := by
  unfold befK
  rw [drop_at (by omega), drop_at (xs := ys) (by omega), befL, if_neg h]
theorem befK_end {xs ys : List Int} {n : Nat} (h1 : xs.length = n) : befK xs ys n = false := by
  unfold befK
  rw [List.drop_eq_nil_of_le (by omega)]
  rfl

set_option maxHeartbeats 800000 in
theorem sBefore (A B : Option Addr) (n c d : Nat) (xs ys : List Int) (w : World) (hr : Rd w A n (iv xs)) (hr2 : Rd w B n (iv ys)) (hn : n ≤ 12) :
    Calls Try.prog 80 #[.slice A n c, .slice B n d] w fun e w' => e = .returned (.bool (befL xs ys)) ∧ ∃ q, w' = w.drewN q := by
  have Hs := Lib.hid (fun k hk h => befK_same (k := k) hr.len hr2.len hk h)
  have Ho := Lib.hid (fun k hk h => befK_other (k := k) hr.len hr2.len hk h)
  have He := hide (befK_end (ys := ys) hr.len)
  have H0 := hide (befK_zero xs ys)
  generalize befK xs ys = K at *
  generalize befL xs ys = R at *
  go_enter Try.func80, Try.ntmps80
  go_wp2
  go_loopw [5, 8] (fun _ i wr => ∃ k : Nat, k ≤ n ∧ i = .int .i64 k ∧ Hid (∃ q, wr = w.drewN q) ∧ Hid (K 0 = K k)) (fun _ i _ => n - (intOf i).toNat)
  case atStart => exact ⟨0, Nat.zero_le _, rfl, hide ⟨0, rfl⟩, hide rfl⟩
  case round =>
    obtain ⟨k, hk, rfl, hq, hfa⟩ := hrel
    obtain ⟨q, rfl⟩ := hq.out
    by_cases hlt : k < n
    · obtain ⟨ad, rfl, hbl, hc⟩ := hr.int hlt
      obtain ⟨ad2, rfl, hbl2, hc2⟩ := hr2.int hlt
      have hs := Hs.out k hlt
      have ho := Ho.out k hlt
      generalize xs.getD k 0 = x at *
      generalize ys.getD k 0 = y at *
      have HS := hide hs
      have HO := hide ho
      clear hs ho
      have g1 : (0 : Int) ≤ (k : Int) := by omega
      have g2 : (k : Int) < (n : Int) := by omega
      cases hxy : (x != y) with
      | true =>
        have hne : x ≠ y := by simpa using hxy
        have HR := hide (H0.out.symm.trans (hfa.out.trans (HO.out hne)))
        go_wp2
        go_quiet (fail)
        go_wp2
        go_quiet (fail)
        go_wp2
        go_ret
        exact ⟨ret_bool HR.out.symm, by rw [World.drewN_drewN, World.drewN_drewN]; exact ⟨_, rfl⟩⟩
      | false =>
        have hee : x = y := by simpa using hxy
        have HR := hide (hfa.out.trans (HS.out hee))
        clear hee
        go_wp2
        go_quiet (fail)
        go_wp2
        go_roundw
        case rel => exact ⟨k + 1, by omega, by go_num, hide (by first | exact ⟨_, rfl⟩ | exact drew2 _ _ _), HR⟩
        case measure => simp [intOf]; omega
    · have hkn : k = n := by omega
      subst hkn
      have HR := hide (H0.out.symm.trans (hfa.out.trans He.out))
      go_wp2
      go_ret
      exact ⟨ret_bool HR.out.symm, by first | exact ⟨_, rfl⟩ | exact drew2 _ _ _⟩

def cmpI (x y : Int) : Int := if x < y then -1 else if y < x then 1 else 0
set_option maxHeartbeats 400000 in
theorem libNaN (x : Int) (w : World) : Calls Try.prog 100 #[.int .i64 x] w fun e w' => e = .returned (.bool false) ∧ w = w' := by
  go_enter Try.func100, Try.ntmps100
  have h : (x != x) = false := by simp
  go_wp2
  go_ret
  exact ⟨by simp, rfl⟩
set_option maxHeartbeats 400000 in
theorem libCmp (x y : Int) (w : World) : Calls Try.prog 94 #[.int .i64 x, .int .i64 y] w fun e w' => e = .returned (.int .i64 (cmpI x y)) ∧ w = w' := by
  have HN := Lib.hid (fun x => libNaN x w)
  unfold cmpI
  by_cases h1 : x < y
  · have HR : Hid ((if x < y then (-1 : Int) else if y < x then 1 else 0) = -1) := hide (if_pos h1)
    rw [HR.out]
    go_enter Try.func94, Try.ntmps94
    go_wp2_with (go_at_call 100; refine (HN.out _).mono ?_; rintro e w' ⟨rfl, rfl⟩)
    go_ret
    exact ⟨rfl, rfl⟩
  · by_cases h2 : y < x
    · have HR : Hid ((if x < y then (-1 : Int) else if y < x then 1 else 0) = 1) := hide (by rw [if_neg h1, if_pos h2])
      rw [HR.out]
      have d1 : decide (x < y) = false := decide_eq_false h1
      go_enter Try.func94, Try.ntmps94
      go_wp2_with (go_at_call 100; refine (HN.out _).mono ?_; rintro e w' ⟨rfl, rfl⟩)
      go_ret
      exact ⟨rfl, rfl⟩
    · have HR : Hid ((if x < y then (-1 : Int) else if y < x then 1 else 0) = 0) := hide (by rw [if_neg h1, if_neg h2])
      rw [HR.out]
      have d1 : decide (x < y) = false := decide_eq_false h1
      have d2 : decide (y < x) = false := decide_eq_false h2
      go_enter Try.func94, Try.ntmps94
      go_wp2_with (go_at_call 100; refine (HN.out _).mono ?_; rintro e w' ⟨rfl, rfl⟩)
      go_ret
      exact ⟨rfl, rfl⟩
theorem cmpI_same {x y : Int} (h : x = y) : cmpI x y = 0 := by subst h; unfold cmpI; simp
theorem cmpI_other {x y : Int} (h : x ≠ y) : cmpI x y ≠ 0 ∧ decide (cmpI x y ≤ 0) = !decide (y < x) := by
  unfold cmpI
  by_cases h1 : x < y
  · rw [if_pos h1]
    exact ⟨by omega, by rw [decide_eq_false (show ¬ y < x by omega)]; rfl⟩
  · rw [if_neg h1, if_pos (by omega), decide_eq_true (show y < x by omega)]
    exact ⟨by omega, rfl⟩

set_option maxHeartbeats 800000 in
theorem libCompare (A B : Option Addr) (n c d : Nat) (xs ys : List Int) (w : World) (hr : Rd w A n (iv xs)) (hr2 : Rd w B n (iv ys)) (hn : n ≤ 12) :
    Calls Try.prog 84 #[.slice A n c, .slice B n d] w fun e w' => (∃ z, e = .returned (.int .i64 z) ∧ decide (z ≤ 0) = !befL ys xs) ∧ w = w' := by
  have Hs := Lib.hid (fun k hk h => befK_same (k := k) hr2.len hr.len hk h)
  have Ho := Lib.hid (fun k hk h => befK_other (k := k) hr2.len hr.len hk h)
  have He := hide (befK_end (ys := xs) hr2.len)
  have H0 := hide (befK_zero ys xs)
  generalize befK ys xs = K at *
  generalize befL ys xs = R at *
  have HC := Lib.hid (fun x y => libCmp x y w)
  go_enter Try.func84, Try.ntmps84
  go_wp2
  go_loopw [5, 6, 7, 8, 11] (fun _ _ _ _ i wr => ∃ k : Nat, k ≤ n ∧ i = .int .i64 k ∧ wr = w ∧ Hid (K 0 = K k)) (fun _ _ _ _ i _ => n - (intOf i).toNat)
  case atStart => exact ⟨0, Nat.zero_le _, rfl, rfl, hide rfl⟩
  case round =>
    obtain ⟨k, hk, rfl, rfl, hfa⟩ := hrel
    by_cases hlt : k < n
    · obtain ⟨ad, rfl, hbl, hc⟩ := hr.int hlt
      obtain ⟨ad2, rfl, hbl2, hc2⟩ := hr2.int hlt
      have hs := Hs.out k hlt
      have ho := Ho.out k hlt
      generalize xs.getD k 0 = x at *
      generalize ys.getD k 0 = y at *
      have HS := hide hs
      have HO := hide ho
      clear hs ho
      have g1 : (0 : Int) ≤ (k : Int) := by omega
      have g2 : (k : Int) < (n : Int) := by omega
      have g3 : ¬ (n : Int) ≤ (k : Int) := by omega
      by_cases hxy : x = y
      · have HR := hide (hfa.out.trans (HS.out hxy.symm))
        have HC2 := HC.out x y
        rw [cmpI_same hxy] at HC2
        have HC3 := Lib.hid HC2
        have z0 : ((0 : Int) != 0) = false := by decide
        clear HC2 hxy
        go_wp2_with (go_at_call 94; refine HC3.out.mono ?_; rintro e w' ⟨rfl, rfl⟩)
        go_roundw
        case rel => exact ⟨k + 1, by omega, by go_num, trivial, HR⟩
        case measure => simp [intOf]; omega
      · have HR := hide (H0.out.symm.trans (hfa.out.trans (HO.out (fun e => hxy e.symm))))
        obtain ⟨hz1, hz2⟩ := cmpI_other hxy
        have HC3 := Lib.hid (HC.out x y)
        generalize cmpI x y = z at *
        have HZ := hide hz2
        have z0 : (z != 0) = true := by simpa using hz1
        clear hz2 hxy
        go_wp2_with (go_at_call 94; refine HC3.out.mono ?_; rintro e w' ⟨rfl, rfl⟩)
        go_ret
        exact ⟨⟨z, rfl, by rw [HZ.out, HR.out]⟩, rfl⟩
    · have hkn : k = n := by omega
      subst hkn
      have HR := hide (H0.out.symm.trans (hfa.out.trans He.out))
      go_wp2
      go_ret
      exact ⟨⟨0, rfl, by rw [HR.out]; rfl⟩, rfl⟩
end Go.Proofs.Ythpboedpoipkcaa
