/- slices.Sort at up to six integers: the row sorted. Conditions: 1 to 6 numbers. Printed by gen_sort.py. -/
import Derived.Test.YthpboedpoipkcaaBestP
import Derived.Test.YthpboedpoipkcaaCmp
import Derived.Test.YthpboedpoipkcaaNext
namespace Go.Proofs.Ythpboedpoipkcaa
open Go.ChangeShapes Go.WideShapes Go.ChangeAt Go.RowKit

set_option maxRecDepth 100000 in
set_option maxHeartbeats 800000 in
theorem libLen64 (n : Nat) (w : World) (h1 : 1 ≤ n) (hn : n ≤ 6) : Calls Try.prog 112 #[.int .u64 (n : Int)] w fun e w' => (∃ z, e = .returned (.int .i64 z)) ∧ w = w' := by
  match n, h1, hn with
  | 1, _, _ =>
    go_enter Try.func112, Try.ntmps112
    go_wp2
    go_ret
    exact ⟨⟨_, rfl⟩, rfl⟩
  | 2, _, _ =>
    go_enter Try.func112, Try.ntmps112
    go_wp2
    go_ret
    exact ⟨⟨_, rfl⟩, rfl⟩
  | 3, _, _ =>
    go_enter Try.func112, Try.ntmps112
    go_wp2
    go_ret
    exact ⟨⟨_, rfl⟩, rfl⟩
  | 4, _, _ =>
    go_enter Try.func112, Try.ntmps112
    go_wp2
    go_ret
    exact ⟨⟨_, rfl⟩, rfl⟩
  | 5, _, _ =>
    go_enter Try.func112, Try.ntmps112
    go_wp2
    go_ret
    exact ⟨⟨_, rfl⟩, rfl⟩
  | 6, _, _ =>
    go_enter Try.func112, Try.ntmps112
    go_wp2
    go_ret
    exact ⟨⟨_, rfl⟩, rfl⟩
set_option maxHeartbeats 400000 in
theorem libLen (n : Nat) (w : World) (h1 : 1 ≤ n) (hn : n ≤ 6) : Calls Try.prog 98 #[.int .u64 (n : Int)] w fun e w' => (∃ z, e = .returned (.int .i64 z)) ∧ w = w' := by
  have HL := Lib.hid (libLen64 n w h1 hn)
  go_enter Try.func98, Try.ntmps98
  go_wp2_with (go_at_call 112; refine HL.out.mono ?_; rintro e w' ⟨⟨z, rfl⟩, rfl⟩)
  go_ret
  exact ⟨⟨_, rfl⟩, rfl⟩
set_option maxHeartbeats 400000 in
theorem libLess (x y : Int) (w : World) : Calls Try.prog 108 #[.int .i64 x, .int .i64 y] w fun e w' => e = .returned (.bool (decide (x < y))) ∧ w = w' := by
  have HN := Lib.hid (fun x => libNaN x w)
  go_enter Try.func108, Try.ntmps108
  go_wp2_with (go_at_call 100; refine (HN.out _).mono ?_; rintro e w' ⟨rfl, rfl⟩)
  go_ret
  exact ⟨by simp, rfl⟩

theorem KeptS.put (w : World) (b i : Nat) (u : Value) : Kept b (b + 1) w (w.setCell ⟨b, i, none⟩ u) := ⟨rfl, rfl, rfl, by rw [set_size]; exact Nat.le_refl _, fun k _ h => Below.heap_setCell w _ u k (by show k ≠ b; omega)⟩
theorem KeptS.dr (lo hi : Nat) (w : World) (q : Nat) : Kept lo hi w (w.drewN q) := Kept.below (below_drewN (Below.refl _ _) q) (Nat.le_refl _)
/-- two neighbours change places -/
def swL (ys : List Int) (j : Nat) : List Int := (ys.set j (ys.getD (j - 1) 0)).set (j - 1) (ys.getD j 0)
theorem swL_get {ys : List Int} {j : Nat} (hj : 0 < j) (hn : j < ys.length) (p : Nat) : (swL ys j).getD p 0 = if p = j - 1 then ys.getD j 0 else if p = j then ys.getD (j - 1) 0 else ys.getD p 0 := by
  unfold swL
  by_cases h1 : p = j - 1
  · rw [if_pos h1, h1]
    simp [List.getD, show j - 1 < ys.length by omega]
  · rw [if_neg h1]
    by_cases h2 : p = j
    · rw [if_pos h2, h2]
      simp only [List.getD, List.getElem?_set_ne (show j - 1 ≠ j by omega)]
      simp [hn]
    · rw [if_neg h2]
      simp only [List.getD, List.getElem?_set_ne (show j - 1 ≠ p by omega), List.getElem?_set_ne (show j ≠ p by omega)]
theorem swL_len (ys : List Int) (j : Nat) : (swL ys j).length = ys.length := by simp [swL]
theorem swL_cG {ys : List Int} {j : Nat} (hj : 0 < j) (hn : j < ys.length) (t : Int) : cG t (swL ys j) = cG t ys := by
  unfold swL
  have h1 := cG_set t ys j (ys.getD (j - 1) 0) hn
  have h2 := cG_set t (ys.set j (ys.getD (j - 1) 0)) (j - 1) (ys.getD j 0) (by simp; omega)
  have e : (ys.set j (ys.getD (j - 1) 0)).getD (j - 1) 0 = ys.getD (j - 1) 0 := by
    simp only [List.getD, List.getElem?_set_ne (show j ≠ j - 1 by omega)]
  rw [e] at h2
  omega
/-- the numbers are those of xs; sorted up to i but for the place j -/
structure InsI (xs ys : List Int) (n i j : Nat) : Prop where
  len : ys.length = n
  cg : ∀ t, cG t ys = cG t xs
  rng : ∀ p, p < n → 0 ≤ ys.getD p 0 ∧ ys.getD p 0 ≤ 20
  ord : ∀ p q, p < q → q ≤ i → q ≠ j → ys.getD p 0 ≤ ys.getD q 0
theorem InsI.swap {xs ys : List Int} {n i j : Nat} (h : InsI xs ys n i j) (hj : 0 < j) (hji : j ≤ i) (hin : i < n) (hlt : ys.getD j 0 < ys.getD (j - 1) 0) : InsI xs (swL ys j) n i (j - 1) := by
  have hn : j < ys.length := by rw [h.len]; omega
  have hg := swL_get hj hn
  refine ⟨by rw [swL_len, h.len], fun t => by rw [swL_cG hj hn, h.cg], fun p hp => ?_, fun p q hpq hqi hq => ?_⟩
  · rw [hg]
    split
    · exact h.rng j (by omega)
    · split
      · exact h.rng (j - 1) (by omega)
      · exact h.rng p hp
  · rw [hg p, hg q, if_neg hq]
    by_cases q1 : q = j
    · rw [if_pos q1]
      by_cases p1 : p = j - 1
      · rw [if_pos p1]; omega
      · rw [if_neg p1, if_neg (by omega)]
        exact h.ord p (j - 1) (by omega) (by omega) (by omega)
    · rw [if_neg q1]
      by_cases p1 : p = j - 1
      · rw [if_pos p1]; exact h.ord j q (by omega) hqi q1
      · rw [if_neg p1]
        by_cases p2 : p = j
        · rw [if_pos p2]; exact h.ord (j - 1) q (by omega) hqi q1
        · rw [if_neg p2]; exact h.ord p q hpq hqi q1
theorem InsI.done {xs ys : List Int} {n i j : Nat} (h : InsI xs ys n i j) (hs : j = 0 ∨ ys.getD (j - 1) 0 ≤ ys.getD j 0) : InsI xs ys n (i + 1) (i + 1) := by
  refine ⟨h.len, h.cg, h.rng, fun p q hpq hqi hq => ?_⟩
  by_cases e : q = j
  · subst e
    rcases hs with hs | hs
    · omega
    · by_cases e2 : p = q - 1
      · subst e2; exact hs
      · have := h.ord p (q - 1) (by omega) (by omega) (by omega)
        omega
  · exact h.ord p q hpq (by omega) e

set_option maxRecDepth 100000 in
set_option maxHeartbeats 1600000 in
theorem libInsert (lo g n c : Nat) (xs : List Int) (w : World) (ho : w.ownsRow lo 2 1 (.slice (some ⟨g, 0, none⟩) n c) n (iv xs)) (hl : xs.length = n) (h1 : 1 ≤ n) (hn : n ≤ 6) (hx : ∀ p, p < n → 0 ≤ xs.getD p 0 ∧ xs.getD p 0 ≤ 20) :
    Calls Try.prog 102 #[.slice (some ⟨g, 0, none⟩) n c, .int .i64 0, .int .i64 (n : Int)] w fun e w' => e = .returned (.tuple #[]) ∧ ∃ ys, InsI xs ys n n n ∧ w'.ownsRow lo 2 1 (.slice (some ⟨g, 0, none⟩) n c) n (iv ys) ∧ Kept g (g + 1) w w' := by
  have HI0 : Hid (InsI xs xs n 1 1) := hide ⟨hl, fun _ => rfl, hx, fun p q h1 h2 h3 => by omega⟩
  have HO := hide ho
  have HLs := Lib.hid (fun x y W => libLess x y W)
  clear ho hx hl
  go_enter Try.func102, Try.ntmps102
  go_wp2
  go_loopw [6, 7] (fun iv0 _ wr => ∃ (i : Nat) (ys : List Int), 1 ≤ i ∧ i ≤ n ∧ iv0 = .int .i64 (i : Int) ∧ Hid (InsI xs ys n i i) ∧ Hid (wr.ownsRow lo 2 1 (.slice (some ⟨g, 0, none⟩) n c) n (iv ys)) ∧ Hid (Kept g (g + 1) w wr)) (fun iv0 _ _ => n - (intOf iv0).toNat)
  case atStart => exact ⟨1, xs, Nat.le_refl _, h1, rfl, HI0, HO, hide (Kept.refl _ _ _)⟩
  case round =>
    clear HI0 HO
    obtain ⟨i, ys, hi1, hi, rfl, hI, hrow, hK⟩ := hrel
    by_cases hlt : i < n
    · have hI2 := hI
      go_wp2
      go_loopw [7] (fun jv wr => ∃ (j : Nat) (zs : List Int), j ≤ i ∧ jv = .int .i64 (j : Int) ∧ Hid (InsI xs zs n i j) ∧ Hid (wr.ownsRow lo 2 1 (.slice (some ⟨g, 0, none⟩) n c) n (iv zs)) ∧ Hid (Kept g (g + 1) w wr)) (fun jv _ => (intOf jv).toNat)
      case atStart => exact ⟨i, ys, Nat.le_refl _, rfl, hI2, hrow, hK⟩
      case round =>
        clear hI hI2 hrow hK
        obtain ⟨j, zs, hj, rfl, hI, hrow, hK⟩ := hrel
        by_cases h0 : 0 < j
        · have hc1 := hrow.out.cellAt j (by omega)
          have hc2 := hrow.out.cellAt (j - 1) (by omega)
          rw [iv_get (by rw [hI.out.len]; omega)] at hc1 hc2
          have hf1 := hrow.out.frozenAt j
          have hf2 := hrow.out.frozenAt (j - 1)
          have HSw : Hid (zs.getD j 0 < zs.getD (j - 1) 0 → InsI xs (swL zs j) n i (j - 1)) := hide fun h => hI.out.swap h0 hj hlt h
          have HDn : Hid (zs.getD (j - 1) 0 ≤ zs.getD j 0 → InsI xs zs n (i + 1) (i + 1)) := hide fun h => hI.out.done (.inr h)
          have HSL : Hid (swL zs j = (zs.set j (zs.getD (j - 1) 0)).set (j - 1) (zs.getD j 0)) := hide rfl
          have e1 : IntKind.i64.wrap ((j : Int) - 1) = ((j - 1 : Nat) : Int) := (IntWalk.i64_in _ (by omega)).trans (by omega)
          obtain ⟨j', hj'⟩ : ∃ j', j - 1 = j' := ⟨_, rfl⟩
          have Hj := hide hj'
          rw [hj'] at hc2 hf2 e1 HSw HDn HSL
          generalize zs.getD j 0 = x at *
          generalize zs.getD j' 0 = y at *
          have q1 : (0 : Int) ≤ (j : Int) := by omega
          have q2 : (j : Int) < (n : Int) := by omega
          have q3 : (0 : Int) ≤ (j' : Int) := by omega
          have q4 : (j' : Int) < (n : Int) := by omega
          have q5 : decide ((0 : Int) < (j : Int)) = true := decide_eq_true (by omega)
          clear hj'
          by_cases hxy : x < y
          · have d1 : decide (x < y) = true := decide_eq_true hxy
            have HI2 := hide (HSw.out hxy)
            clear hxy
            go_wp2
            go_quiet ((go_at_call 108; refine (HLs.out _ _ _).mono ?_; rintro e w' ⟨rfl, rfl⟩; exact ⟨rfl, _, rfl⟩))
            have hr2 : Hid ((wr.drewN nq).ownsRow lo 2 1 (.slice (some ⟨g, 0, none⟩) n c) n (iv zs)) := hrow
            have hk2 := hide (hK.out.trans (KeptS.dr _ _ wr nq))
            have b1 : (wr.drewN nq).cell? ⟨g, j, none⟩ = some (.int .i64 x) := hc1
            have b2 : (wr.drewN nq).cell? ⟨g, j', none⟩ = some (.int .i64 y) := hc2
            have b3 : (wr.drewN nq).frozen? ⟨g, j, none⟩ = false := hf1
            have b4 : (wr.drewN nq).frozen? ⟨g, j', none⟩ = false := hf2
            clear hc1 hc2 hf1 hf2 hrow hK
            generalize wr.drewN nq = w2 at *
            have hne : j ≠ j' := by have := Hj.out; omega
            go_wp2
            go_region
            all_goals go_wp2
            all_goals go_roundw
            all_goals try (case measure => simp [intOf]; have := Hj.out; omega)
            all_goals (refine ⟨j', swL zs j, by have := Hj.out; omega, by go_num, HI2, ?_, ?_⟩)
            all_goals first
              | (rw [HSL.out]
                 have s1 := (hr2.out.stored j (.int .i64 y)).1
                 have s2 := (s1.stored j' (.int .i64 x)).1
                 have e : iv ((zs.set j y).set j' x) = ((iv zs).set j (.int .i64 y)).set j' (.int .i64 x) := by simp [iv, List.map_set]
                 rw [e]
                 exact hide s2.drew)
              | exact hide ((hk2.out.trans ((KeptS.put w2 g j (.int .i64 y)).trans (KeptS.put _ g j' (.int .i64 x)))).trans (KeptS.dr _ _ _ 1))
          · have d1 : decide (x < y) = false := decide_eq_false hxy
            have HI2 := hide (HDn.out (by omega))
            clear hxy
            go_wp2
            go_quiet ((go_at_call 108; refine (HLs.out _ _ _).mono ?_; rintro e w' ⟨rfl, rfl⟩; exact ⟨rfl, _, rfl⟩))
            go_wp2
            go_roundw
            case measure => simp [intOf]; omega
            case rel => exact ⟨i + 1, zs, by omega, by omega, by go_num, HI2, hrow, hide (hK.out.trans (KeptS.dr _ _ _ _))⟩
        · obtain rfl : j = 0 := by omega
          have HI2 := hide (hI.out.done (.inl rfl))
          have q5 : decide ((0 : Int) < ((0 : Nat) : Int)) = false := by decide
          go_wp2
          go_quiet (fail)
          go_wp2
          go_roundw
          case measure => simp [intOf]; omega
          case rel => exact ⟨i + 1, zs, by omega, by omega, by go_num, HI2, hrow, hide (hK.out.trans (KeptS.dr _ _ _ _))⟩
    · obtain rfl : i = n := by omega
      go_wp2
      go_end0; exact ⟨rfl, ys, hI.out, hrow.out, hK.out⟩
set_option maxRecDepth 100000 in
set_option maxHeartbeats 1600000 in
theorem libPdq (lo g n c : Nat) (z : Int) (xs : List Int) (w : World) (ho : w.ownsRow lo 2 1 (.slice (some ⟨g, 0, none⟩) n c) n (iv xs)) (hl : xs.length = n) (h1 : 1 ≤ n) (hn : n ≤ 6) (hx : ∀ p, p < n → 0 ≤ xs.getD p 0 ∧ xs.getD p 0 ≤ 20) :
    Calls Try.prog 97 #[.slice (some ⟨g, 0, none⟩) n c, .int .i64 0, .int .i64 (n : Int), .int .i64 z] w fun e w' => e = .returned (.tuple #[]) ∧ ∃ ys, InsI xs ys n n n ∧ w'.ownsRow lo 2 1 (.slice (some ⟨g, 0, none⟩) n c) n (iv ys) ∧ Kept g (g + 1) w w' := by
  have HI := Lib.hid (libInsert lo g n c xs w ho hl h1 hn hx)
  have d1 : decide ((n : Int) ≤ 12) = true := decide_eq_true (by omega)
  clear ho hl hx
  go_enter Try.func97, Try.ntmps97
  go_wp2
  go_loopw [1, 2] (fun x1 x2 wr => x1 = .int .i64 0 ∧ x2 = .int .i64 (n : Int) ∧ wr = w) (fun _ _ _ => 0)
  case atStart => exact ⟨rfl, rfl, rfl⟩
  case round =>
    obtain ⟨rfl, rfl, rfl⟩ := hrel
    go_wp2_with (go_at_call 102; refine HI.out.mono ?_; rintro e w1 ⟨rfl, hys⟩; have HY := hide hys; clear hys)
    exact bodyPost_ret (results_none rfl _ _ _) rfl ⟨rfl, HY.out⟩
set_option maxHeartbeats 800000 in
theorem libSort (lo g n c : Nat) (xs : List Int) (w : World) (ho : w.ownsRow lo 2 1 (.slice (some ⟨g, 0, none⟩) n c) n (iv xs)) (hl : xs.length = n) (h1 : 1 ≤ n) (hn : n ≤ 6) (hx : ∀ p, p < n → 0 ≤ xs.getD p 0 ∧ xs.getD p 0 ≤ 20) :
    Calls Try.prog 89 #[.slice (some ⟨g, 0, none⟩) n c] w fun e w' => e = .returned (.tuple #[]) ∧ ∃ ys, InsI xs ys n n n ∧ w'.ownsRow lo 2 1 (.slice (some ⟨g, 0, none⟩) n c) n (iv ys) ∧ Kept g (g + 1) w w' := by
  have HI := Lib.hid (fun z => libPdq lo g n c z xs w ho hl h1 hn hx)
  have HL := Lib.hid (libLen n w h1 hn)
  have e1 : IntKind.u64.wrap (n : Int) = (n : Int) := by rw [IntKind.wrap_u64]; omega
  clear ho hl hx
  go_enter Try.func89, Try.ntmps89
  go_wp2_with (first | (go_at_call 98; refine HL.out.mono ?_; rintro e w1 ⟨⟨z, rfl⟩, rfl⟩) | (go_at_call 97; refine (HI.out _).mono ?_; rintro e w1 ⟨rfl, hys⟩; have HY := hide hys; clear hys))
  go_end0; exact ⟨rfl, HY.out⟩
end Go.Proofs.Ythpboedpoipkcaa
