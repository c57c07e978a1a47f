/- Contracts of the tests of a deck, both sides. Conditions: lengths at most 2^20. -/
import Derived.Test.YtkbeelbklganaaaClockP
import Derived.Test.YtkbeelbklganaaaHands2
import Derived.Test.YtkbeelbklganaaaBools
namespace Go.Proofs.Ytkbeelbklganaaa
open Go.ChangeShapes Go.WideShapes Go.ChangeAt Go.RowKit

set_option maxHeartbeats 800000 in
theorem sOrders (A : Option Addr) (n c : Nat) (xs : List Int) (w : World) (hr : Rd w A n (iv xs)) (hn : n ≤ 1048576) (hc : n ≤ c) :
    Calls Try.prog 68 #[.slice A n c, .int .i64 n] w fun e w' => e = .returned (.bool (ordB xs)) ∧ ∃ q, w' = w.drewN q := by
  have hlen := hr.len
  have Hbad : Hid (∀ i, i < n → ordBad xs i = true → ordB xs = false) := hide fun i hi h => ordB_f (by rw [hlen]; exact hi) h
  have Hok : Hid ((∀ i, i < n → ordBad xs i = false) → ordB xs = true) := hide fun h => ordB_t (by rw [hlen]; exact h)
  have HD : Hid (∀ i, ordBad xs i = (!inB (xs.getD i 0) 0 ((n : Int) - 1) || (xs.take i).any (xs.getD i 0 == ·))) := hide fun i => by rw [← hlen]; rfl
  generalize ordB xs = R at *
  clear hlen
  have hn1 : IntKind.i64.wrap ((n : Int) - 1) = (n : Int) - 1 := IntWalk.i64_in _ (by omega)
  go_enter Try.func68, Try.ntmps68
  go_wp2
  go_loopw [5] (fun i wr => ∃ k : Nat, k ≤ n ∧ i = .int .i64 k ∧ Hid (∀ j, j < k → ordBad xs j = false) ∧ Hid (∃ q, wr = w.drewN q)) (fun i _ => n - (intOf i).toNat)
  case atStart => exact ⟨0, Nat.zero_le _, rfl, hide fun j hj => absurd hj (by omega), hide ⟨0, rfl⟩⟩
  case round =>
    obtain ⟨k, hk, rfl, hfa, hq⟩ := hrel
    obtain ⟨q, rfl⟩ := hq.out
    by_cases hlt : k < n
    · obtain ⟨ad, rfl, hbl, hc⟩ := hr.int hlt
      have hT := hr.take (m := k) hk
      rw [← List.map_take] at hT
      have HC := hide (HD.out k)
      generalize hy : xs.getD k 0 = y at *
      have HY := hide hy
      clear hy
      have hs0 := fun W => sIn y 0 ((n : Int) - 1) W
      have dk : decide (k < n) = true := decide_eq_true hlt
      have f1 : (0 : Int) ≤ (k : Int) := by omega
      have f2 : (k : Int) ≤ (c : Int) := by omega
      have f3 : k ≤ c := by omega
      have f4 : (k : Int) < (n : Int) := by omega
      cases hq : inB y 0 ((n : Int) - 1) with
      | false =>
        simp only [hq] at hs0
        have HS := Lib.hid hs0
        clear hs0
        have HR := hide (Hbad.out k hlt (by rw [HC.out, hq]; rfl))
        go_wp2
        go_quiet ((go_at_call 52; refine (HS.out _).mono ?_; rintro e w' ⟨rfl, rfl⟩; exact ⟨rfl, _, rfl⟩))
        go_wp2
        go_ret
        exact ⟨ret_bool HR.out.symm, by repeat (first | exact ⟨_, rfl⟩ | exact drew2 _ _ _)⟩
      | true =>
        simp only [hq] at hs0
        have HS := Lib.hid hs0
        clear hs0
        have hh0 := fun q => sHas (some ad) k c (xs.take k) y (w.drewN q) (hT.drewN q) (by omega)
        cases hq2 : (xs.take k).any (y == ·) with
        | true =>
          simp only [hq2] at hh0
          have HH := Lib.hid hh0
          clear hh0
          have HR := hide (Hbad.out k hlt (by rw [HC.out, hq2]; simp))
          go_wp2
          go_quiet ((first | (go_at_call 52; refine (HS.out _).mono ?_; rintro e w' ⟨rfl, rfl⟩; exact ⟨rfl, _, rfl⟩) | (go_at_call 75; refine (HH.out _).mono ?_; rintro e w' ⟨rfl, rfl⟩; exact ⟨rfl, _, rfl⟩)))
          go_wp2
          go_ret
          exact ⟨ret_bool HR.out.symm, by repeat (first | exact ⟨_, rfl⟩ | exact drew2 _ _ _)⟩
        | false =>
          simp only [hq2] at hh0
          have HH := Lib.hid hh0
          clear hh0
          have Hg : Hid (ordBad xs k = false) := hide (by rw [HC.out, hq, hq2]; rfl)
          go_wp2
          go_quiet ((first | (go_at_call 52; refine (HS.out _).mono ?_; rintro e w' ⟨rfl, rfl⟩; exact ⟨rfl, _, rfl⟩) | (go_at_call 75; refine (HH.out _).mono ?_; rintro e w' ⟨rfl, rfl⟩; exact ⟨rfl, _, rfl⟩)))
          go_wp2
          go_roundw
          case measure => simp [intOf]; omega
          case rel =>
            refine ⟨k + 1, by omega, by go_num, hide fun j hj => ?_, hide (by repeat (first | exact ⟨_, rfl⟩ | exact drew2 _ _ _))⟩
            by_cases e : j = k
            · subst e
              exact Hg.out
            · exact hfa.out j (by omega)
    · have hkn : k = n := by omega
      have HR := hide (Hok.out (by rw [← hkn]; exact hfa.out))
      subst hkn
      go_wp2
      go_ret
      exact ⟨ret_bool HR.out.symm, _, rfl⟩

/-! ### the program's: what was seen -/
def seenB (n : Nat) (xs : List Int) (k : Nat) : List Bool := (List.range n).map fun (v : Nat) => (xs.take k).any ((v : Int) == ·)
theorem seenB_len (n : Nat) (xs : List Int) (k : Nat) : (seenB n xs k).length = n := by simp [seenB]
theorem seenB_get {n k x : Nat} (xs : List Int) (h : x < n) : (seenB n xs k).getD x false = (xs.take k).any ((x : Int) == ·) := by simp [seenB, List.getD, h]
theorem seenB_zero (n : Nat) (xs : List Int) : List.replicate n false = seenB n xs 0 := by
  apply List.ext_getElem
  · simp [seenB]
  · intro i h1 h2
    simp [seenB]
theorem seenB_set {n k x : Nat} {xs : List Int} (hk : k < xs.length) (hx : xs.getD k 0 = (x : Int)) : (seenB n xs k).set x true = seenB n xs (k + 1) := by
  apply List.ext_getElem
  · simp [seenB]
  · intro i h1 h2
    have hi : i < n := by simpa [seenB] using h2
    rw [List.getElem_set]
    have e : (seenB n xs (k + 1))[i] = ((xs.take k).any ((i : Int) == ·) || ((i : Int) == (x : Int))) := by
      simp only [seenB, List.getElem_map, List.getElem_range]
      rw [take_snoc' xs 0 k hk, List.any_append, hx]
      simp
    rw [e]
    by_cases hix : x = i
    · subst hix; simp
    · rw [if_neg hix]
      have : ((i : Int) == (x : Int)) = false := by simp; omega
      rw [this]
      simp [seenB]
set_option maxHeartbeats 800000 in
theorem iOrder (A : Option Addr) (n c : Nat) (xs : List Int) (w : World) (hr : Rd w A n (iv xs)) (hn : n ≤ 1048576) :
    Calls Try.prog 69 #[.slice A n c] w fun e w' => e = .returned (.bool (ordB xs)) ∧ Below w.heap.size w w' := by
  obtain ⟨i0, hi, hz0, hz1, hz2⟩ := info_parts info_bool
  have hlen := hr.len
  have Hlen := hide hlen
  have Hbad : Hid (∀ i, i < n → ordBad xs i = true → ordB xs = false) := hide fun i hi h => ordB_f (by rw [hlen]; exact hi) h
  have Hok : Hid ((∀ i, i < n → ordBad xs i = false) → ordB xs = true) := hide fun h => ordB_t (by rw [hlen]; exact h)
  have HD : Hid (∀ i, ordBad xs i = (!inB (xs.getD i 0) 0 ((n : Int) - 1) || (xs.take i).any (xs.getD i 0 == ·))) := hide fun i => by rw [← hlen]; rfl
  generalize ordB xs = R at *
  clear hlen
  have hn1 : IntKind.i64.wrap ((n : Int) - 1) = (n : Int) - 1 := IntWalk.i64_in _ (by omega)
  go_enter Try.func69, Try.ntmps69
  go_wp2_with (at_make; refine wpList_make_full _ rfl _ _ 37 rfl w.heap.size 4 i0 (.bool false) 1 Try.underlying37 hi hz0 hz1 _ _ _ _ n rfl rfl rfl rfl ?b2 ?b3 (Nat.le_refl _) ?_)
  case b2 => rw [hz2]; omega
  case b3 => unfold maxLen; omega
  intro w0 hown0 hgrow0
  have hB0 := Bk.of_grown hown0
  rw [rep_bv, seenB_zero n xs] at hB0
  have hb0 : Below w.heap.size w w0 := (Below.refl _ _).grown hgrow0 (Nat.le_refl _) (fun k h => by cases h)
  clear hown0 hgrow0
  go_wp2
  go_loopw [11] (fun i wr => ∃ k : Nat, k ≤ n ∧ i = .int .i64 k ∧ Hid (∀ j, j < k → ordBad xs j = false) ∧ Bk wr w.heap.size 4 (bv (seenB n xs k)) ∧ Below w.heap.size w wr) (fun i _ => n - (intOf i).toNat)
  case atStart => exact ⟨0, Nat.zero_le _, rfl, hide fun j hj => absurd hj (by omega), hB0, hb0⟩
  case round =>
    obtain ⟨k, hk, rfl, hfa, hB, hb⟩ := hrel
    by_cases hlt : k < n
    · obtain ⟨ad, rfl, hbl, hc⟩ := (hr.below hb).int hlt
      have HC := hide (HD.out k)
      generalize hy : xs.getD k 0 = y at *
      have HY := hide hy
      clear hy
      have hs0 := fun W => iIn y 0 ((n : Int) - 1) W
      cases hq : inB y 0 ((n : Int) - 1) with
      | false =>
        simp only [hq] at hs0
        have HS := Lib.hid hs0
        clear hs0
        have HR := hide (Hbad.out k hlt (by rw [HC.out, hq]; rfl))
        go_wp2_with fail
        refine (HS.out _).mono ?_
        rintro e w' ⟨rfl, rfl⟩
        go_wp2
        go_ret
        exact ⟨ret_bool HR.out.symm, hb⟩
      | true =>
        simp only [hq] at hs0
        have HS := Lib.hid hs0
        clear hs0
        obtain ⟨h0, h1⟩ := inB_iff.1 hq
        obtain ⟨x, rfl⟩ : ∃ x : Nat, y = (x : Int) := ⟨y.toNat, by omega⟩
        have hxn : x < n := by omega
        have hcx := hB.bool (k := x) (by rw [seenB_len]; exact hxn)
        rw [seenB_get xs hxn] at hcx
        cases hq2 : (xs.take k).any ((x : Int) == ·) with
        | true =>
          rw [hq2] at hcx
          have HR := hide (Hbad.out k hlt (by rw [HC.out, hq2]; simp))
          go_wp2_with fail
          refine (HS.out _).mono ?_
          rintro e w' ⟨rfl, rfl⟩
          go_wp2
          go_ret
          exact ⟨ret_bool HR.out.symm, hb⟩
        | false =>
          rw [hq2] at hcx
          have Hg : Hid (ordBad xs k = false) := hide (by rw [HC.out, hq, hq2]; rfl)
          have hfx := hB.free x
          have hB2 := hB.setbb x true
          rw [seenB_set (by rw [Hlen.out]; exact hlt) HY.out] at hB2
          have HB2 := hide hB2
          have Hb2 := hide (hb.setCell (p := ⟨w.heap.size, x, none⟩) (Nat.le_refl _) (.bool true))
          clear hB hB2 hb hq2 hq
          go_wp2_with fail
          refine (HS.out _).mono ?_
          rintro e w' ⟨rfl, rfl⟩
          go_wp2
          go_roundw
          case rel =>
            refine ⟨k + 1, by omega, by go_num, hide fun j hj => ?_, HB2.out, Hb2.out⟩
            by_cases e : j = k
            · subst e; exact Hg.out
            · exact hfa.out j (by omega)
          case measure => simp [intOf]; omega
    · have hkn : k = n := by omega
      have HR := hide (Hok.out (by rw [← hkn]; exact hfa.out))
      subst hkn
      go_wp2
      go_ret
      exact ⟨ret_bool HR.out.symm, hb⟩

/-! ### decks -/
set_option maxHeartbeats 400000 in
theorem sDeck (A : Option Addr) (n c : Nat) (xs : List Int) (w : World) (hr : Rd w A n (iv xs)) (hn : n ≤ 1048576) (hc : n ≤ c) :
    Calls Try.prog 51 #[.slice A n c] w fun e w' => e = .returned (.bool (deckB xs)) ∧ Below w.heap.size w w' := by
  have hlen := hr.len
  have HO := Lib.hid (sOrders A n c xs w hr hn hc)
  unfold deckB
  rw [hlen]
  clear hlen hr
  by_cases h1 : 1 ≤ n
  · by_cases h2 : n ≤ 52
    · rw [decide_eq_true h1, decide_eq_true h2, Bool.true_and, Bool.true_and]
      go_enter Try.func51, Try.ntmps51
      go_wp2_with fail
      refine HO.out.mono ?_
      rintro e w' ⟨rfl, q, rfl⟩
      go_wp2
      go_ret
      exact ⟨rfl, below_drewN (Below.refl _ _) q⟩
    · rw [decide_eq_false h2, Bool.false_and, Bool.and_false]
      have d1 : decide (n ≤ 52) = false := decide_eq_false h2
      go_enter Try.func51, Try.ntmps51
      go_wp2
      go_ret
      exact ⟨rfl, Below.refl _ _⟩
  · rw [decide_eq_false h1, Bool.false_and]
    have d1 : decide (1 ≤ n) = false := decide_eq_false h1
    go_enter Try.func51, Try.ntmps51
    go_wp2
    go_ret
    exact ⟨rfl, Below.refl _ _⟩
set_option maxHeartbeats 400000 in
theorem iDeck (A : Option Addr) (n c : Nat) (xs : List Int) (w : World) (hr : Rd w A n (iv xs)) (hn : n ≤ 1048576) :
    Calls Try.prog 53 #[.slice A n c] w fun e w' => e = .returned (.bool (deckB xs)) ∧ Below w.heap.size w w' := by
  have hlen := hr.len
  have HO := Lib.hid (iOrder A n c xs w hr hn)
  unfold deckB
  rw [hlen]
  clear hlen hr
  by_cases h1 : 1 ≤ n
  · by_cases h2 : n ≤ 52
    · rw [decide_eq_true h1, decide_eq_true h2, Bool.true_and, Bool.true_and]
      go_enter Try.func53, Try.ntmps53
      go_wp2_with fail
      refine HO.out.mono ?_
      rintro e w' ⟨rfl, hb⟩
      go_wp2
      go_ret
      exact ⟨rfl, hb⟩
    · rw [decide_eq_false h2, Bool.false_and, Bool.and_false]
      have d1 : decide (n ≤ 52) = false := decide_eq_false h2
      go_enter Try.func53, Try.ntmps53
      go_wp2
      go_ret
      exact ⟨rfl, Below.refl _ _⟩
  · rw [decide_eq_false h1, Bool.false_and]
    have d1 : decide (1 ≤ n) = false := decide_eq_false h1
    go_enter Try.func53, Try.ntmps53
    go_wp2
    go_ret
    exact ⟨rfl, Below.refl _ _⟩
end Go.Proofs.Ytkbeelbklganaaa
