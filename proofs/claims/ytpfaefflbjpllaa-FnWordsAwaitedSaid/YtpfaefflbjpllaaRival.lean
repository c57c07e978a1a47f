/- Contracts of BestRival, both sides. Conditions: lengths at most 2^20. Printed by gen_rival.py. -/
import Derived.Test.YtpfaefflbjpllaaRace2
namespace Go.Proofs.Ytpfaefflbjpllaa
open Go.ChangeShapes Go.WideShapes Go.ChangeAt Go.RowKit

/-- the first j of the n bits of k, the greatest first -/
def rvl (k n j : Nat) : List Int := (List.range j).map fun i => bits .and .i64 ((k : Int) / 2 ^ (n - 1 - i)) 1
theorem rvl_len (k n j : Nat) : (rvl k n j).length = j := by simp [rvl]
theorem rvl_succ (k n j : Nat) : rvl k n (j + 1) = rvl k n j ++ [bits .and .i64 ((k : Int) / 2 ^ (n - 1 - j)) 1] := by simp [rvl, List.range_succ]
def brNext (xs r : List Int) (st : List Int × Int × Int) : List Int × Int × Int :=
  if eqL r xs = true then st else
  if st.1 = [] ∨ wrap64 (st.2.1 * (((raceR r xs 2).2 : Nat) : Int)) < wrap64 ((((raceR r xs 2).1 : Nat) : Int) * st.2.2) then (r, (((raceR r xs 2).1 : Nat) : Int), (((raceR r xs 2).2 : Nat) : Int)) else st
/-- the best of the first k rivals, and how likely it wins -/
def brS (xs : List Int) : Nat → List Int × Int × Int
  | 0 => ([], 0, 1)
  | k + 1 => brNext xs (rvl k xs.length xs.length) (brS xs k)
theorem brS_len (xs : List Int) (k : Nat) : (brS xs k).1 = [] ∨ (brS xs k).1.length = xs.length := by
  induction k with
  | zero => exact .inl rfl
  | succ k ih =>
    simp only [brS, brNext]
    split
    · exact ih
    · split
      · exact .inr (rvl_len _ _ _)
      · exact ih
def brOk (xs : List Int) : Bool := wordB xs 2 && decide (3 ≤ xs.length ∧ xs.length ≤ 8)
def RBestRival (xs : List Int) : List Int × Bool := if brOk xs = true then ((brS xs (2 ^ xs.length)).1, true) else ([], false)
theorem RBestRival_len0 (xs : List Int) : (RBestRival xs).1.length ≤ 1048576 := by
  unfold RBestRival
  split
  · rename_i h
    simp only [brOk, Bool.and_eq_true, decide_eq_true_eq] at h
    rcases brS_len xs (2 ^ xs.length) with e | e
    · simp [e]
    · simp only [e]; omega
  · simp
theorem pow_shl (n : Nat) (h : n ≤ 8) : wrap64 (2 ^ n) = ((2 ^ n : Nat) : Int) ∧ 2 ^ n ≤ 256 := by
  have : n = 0 ∨ n = 1 ∨ n = 2 ∨ n = 3 ∨ n = 4 ∨ n = 5 ∨ n = 6 ∨ n = 7 ∨ n = 8 := by omega
  rcases this with rfl | rfl | rfl | rfl | rfl | rfl | rfl | rfl | rfl <;> decide +kernel
theorem ends_eq {xs r : List Int} (hl : r.length = xs.length) (hne : eqL r xs = false) : endsB xs r xs.length = false ∧ endsB r xs r.length = false := by
  have h1 : r ≠ xs := by simpa [eqL] using hne
  constructor
  · simp [endsB, hl, eqL]
    rw [List.take_of_length_le (by omega)]
    exact fun e => h1 e.symm
  · simp [endsB, hl, eqL]
    exact h1
theorem wf_bit (k n j : Nat) : True := trivial

set_option maxRecDepth 100000 in
set_option maxHeartbeats 3200000 in
theorem sBestRival (v : Value) (xs : List Int) (w : World) (hv : RV w v xs) (hn : xs.length ≤ 1048576) :
    Calls Try.prog 25 #[v] w fun e w' => ∃ r, e = .returned (.tuple #[r, .bool (RBestRival xs).2]) ∧ Own w' w.heap.size w'.heap.size r (RBestRival xs).1 ∧ Below w.heap.size w w' := by
  have HW := Lib.hid (fun W h => sWordV v xs 2 W h hn)
  obtain ⟨A, c, rfl, hr, hc⟩ := hv
  cases hw : wordB xs 2 with
  | false =>
    rw [show RBestRival xs = ([], false) from by rw [RBestRival, if_neg (by simp [brOk, hw])]]
    rw [hw] at HW
    generalize xs.length = n at *
    go_enter Try.func25, Try.ntmps25
    go_wp2_with (go_at_call 39; refine (HW.out _ (RV.mk hr hc)).mono ?_; rintro e w1 ⟨rfl, hb1⟩)
    go_ret2
    exact ⟨_, rfl, Own.nil _ _ _, by subst hb1; exact Below.refl _ _⟩
  | true =>
    rw [hw] at HW
    by_cases hl : 3 ≤ xs.length ∧ xs.length ≤ 8
    · have HR : Hid (RBestRival xs = ((brS xs (2 ^ xs.length)).1, true)) := hide (by rw [RBestRival, if_pos (by simp [brOk, hw, hl])])
      rw [HR.out]
      obtain ⟨hpow, hp256⟩ := pow_shl xs.length hl.2
      have Hend : Hid (∀ r, r.length = xs.length → eqL r xs = false → endsB xs r xs.length = false ∧ endsB r xs r.length = false) := hide fun r h1 h2 => ends_eq h1 h2
      have Hst : Hid (∀ k, brS xs (k + 1) = brNext xs (rvl k xs.length xs.length) (brS xs k)) := hide fun k => rfl
      have Hlen : Hid (∀ k, (brS xs k).1 = [] ∨ (brS xs k).1.length = xs.length) := hide fun k => brS_len xs k
      have hlen := hr.len
      obtain ⟨h3, h8⟩ := hl
      generalize hN : xs.length = n at *
      have HN := hide hN
      have Hpow : Hid (∀ k : Nat, k < 2 ^ n → decide ((k : Int) < wrap64 (2 ^ n)) = true) := hide fun k hk => by rw [hpow]; exact decide_eq_true (by omega)
      have Hpow2 : Hid (∀ k : Nat, k = 2 ^ n → decide ((k : Int) < wrap64 (2 ^ n)) = false) := hide fun k hk => by rw [hpow]; exact decide_eq_false (by omega)
      clear hpow hlen hN hw HR
      have d3 : decide ((n : Int) < 3) = false := decide_eq_false (by omega)
      have d3' : decide (n < 3) = false := decide_eq_false (by omega)
      have d8 : decide (8 < (n : Int)) = false := decide_eq_false (by omega)
      have d8' : decide (8 < n) = false := decide_eq_false (by omega)
      generalize hP : 2 ^ n = P at *
      have HP := hide hP
      clear hP
      go_enter Try.func25, Try.ntmps25
      go_wp2_with (go_at_call 39; refine (HW.out _ (RV.mk hr hc)).mono ?_; rintro e w1 ⟨rfl, hb1⟩)
      go_loopw [5, 6, 7, 8] (fun b0 x y i wr => ∃ (k : Nat) (b : Value), k ≤ P ∧ i = .int .i64 k ∧ b = b0 ∧ x = .int .i64 (brS xs k).2.1 ∧ y = .int .i64 (brS xs k).2.2 ∧ OwnL wr w.heap.size b (brS xs k).1 ∧ Below w.heap.size w wr ∧ Hid (True)) (fun _ _ _ i _ => P - (intOf i).toNat)
      case atStart => exact ⟨0, _, Nat.zero_le _, rfl, rfl, rfl, rfl, by subst hb1; exact OwnL.empty _ _ rfl (Nat.le_refl _), by subst hb1; exact (Below.refl _ _).alloc (Nat.le_refl _) _, hide trivial⟩
      case round =>
        obtain ⟨k, b, hk, rfl, rfl, rfl, rfl, ho, hb, hnil⟩ := hrel
        obtain ⟨wo, rfl⟩ : ∃ wo : World, wo = wr := ⟨_, rfl⟩
        have hlenk := Hlen.out k
        by_cases hlt : k < P
        · have dk := Hpow.out k hlt
          have Hst1 := hide (Hst.out k)
          have Hlr : Hid ((rvl k n n).length = n) := hide (rvl_len _ _ _)
          generalize brS xs k = st at *
          obtain ⟨bl, num, den⟩ := st
          simp only at hlenk ho hnil
          have Hlenk := hide hlenk
          have hsz := hb.size
          clear hlenk
          go_wp2
          go_loopw [9, 10] (fun l0 i w2 => ∃ (j : Nat) (l : Value), j ≤ n ∧ i = .int .i64 ((n : Int) - 1 - (j : Int)) ∧ l = l0 ∧ OwnL w2 wo.heap.size l (rvl k n j) ∧ Own w2 w.heap.size wo.heap.size b bl ∧ Below w.heap.size w w2 ∧ Hid (wo.heap.size ≤ w2.heap.size)) (fun _ i _ => (intOf i + 1).toNat)
          case atStart => exact ⟨0, _, Nat.zero_le _, by simp, rfl, OwnL.empty _ _ rfl (Nat.le_refl _), ho.own.below ((Below.refl _ _).alloc (Nat.le_refl _) _), hb.alloc hsz _, hide (by simp)⟩
          case round =>
            obtain ⟨j, l, hj, rfl, rfl, hl, ho2, hb2, hz2⟩ := hrel
            obtain ⟨w3, rfl⟩ : ∃ w3 : World, w3 = wr := ⟨_, rfl⟩
            by_cases hjn : j < n
            · have dj : decide (0 ≤ (n : Int) - 1 - (j : Int)) = true := decide_eq_true (by omega)
              have dj2 : decide ((j : Int) ≤ (n : Int) - 1) = true := decide_eq_true (by omega)
              have Hs := hide (rvl_succ k n j)
              have hll := rvl_len k n j
              generalize rvl k n j = T at *
              have Hl2 : Hid (T.length ≤ 1048576) := hide (by omega)
              have hzz := hz2.out
              have Hlt := hide hl.lt
              clear hll
              go_wp2_with (at_builtin; refine app1 hl Hl2.out hzz rfl rfl rfl rfl ?_; intro v' w4 ho4 hg4)
              go_roundw
              case measure => simp [intOf]; omega
              case rel => exact ⟨j + 1, v', by omega, by go_num, rfl, by rw [Hs.out]; exact ho4, ho2.grown hg4 (fun g hg => Or.inr (Hlt.out g hg).1), hb2.grown hg4 (by omega) (fun g hg => by have := (Hlt.out g hg).1; omega), hide (by have := hg4.size; omega)⟩
            · have dj : decide (0 ≤ (n : Int) - 1 - (j : Int)) = false := decide_eq_false (by omega)
              have dj2 : decide ((j : Int) ≤ (n : Int) - 1) = false := decide_eq_false (by omega)
              have hjn' : j = n := by omega
              subst hjn'
              have hzz := hz2.out
              have hlr := Hlr.out
              generalize hT : rvl k j j = T at *
              obtain ⟨C, e, hv, hcc, -, hrl, -⟩ := hl.own.form
              rw [hlr] at hv hrl hcc
              subst hv
              have hrw := hr.below hb2
              have Hsame := Lib.hid (sSame C A j j e c T xs w3 hrl hrw (by omega) hn)
              have Hl := hide hl
              have Hlr2 := hide hlr
              clear hl hlr hT
              cases hq : eqL T xs with
              | true =>
                rw [hq] at Hsame
                have Hst2 : Hid (brS xs (k + 1) = (bl, num, den)) := hide (by rw [Hst1.out, brNext, if_pos hq])
                clear hq
                go_wp2_with (go_at_call 55; refine Hsame.out.mono ?_; rintro e w' ⟨rfl, q, rfl⟩)
                go_roundw
                case measure => simp [intOf]; omega
                case rel => exact ⟨k + 1, _, by omega, by go_num, rfl, by rw [Hst2.out], by rw [Hst2.out], by rw [Hst2.out]; exact ho2.l, below_drewN hb2 q, hide (by first | exact trivial | (rw [Hst2.out]; exact hnil.out))⟩
              | false =>
                rw [hq] at Hsame
                obtain ⟨he1, he2⟩ := Hend.out T Hlr2.out hq
                have HRc := Lib.hid (fun q => sRace (.slice C j e) (.slice A j c) T xs 2 (w3.drewN q) (RV.drewN (RV.mk hrl hcc) q) (RV.drewN (RV.mk hrw hc) q) (by rw [Hlr2.out]; omega) (by rw [HN.out]; omega) (by omega) (by omega) (by rw [Hlr2.out]; omega) (by rw [HN.out]; omega) (by rw [HN.out]; exact he1) he2)
                have Hst2 : Hid (brS xs (k + 1) = if bl = [] ∨ wrap64 (num * (((raceR T xs 2).2 : Nat) : Int)) < wrap64 ((((raceR T xs 2).1 : Nat) : Int) * den) then (T, (((raceR T xs 2).1 : Nat) : Int), (((raceR T xs 2).2 : Nat) : Int)) else (bl, num, den)) := hide (by rw [Hst1.out, brNext, if_neg (by rw [hq]; simp)])
                generalize (((raceR T xs 2).1 : Nat) : Int) = p1 at *
                generalize (((raceR T xs 2).2 : Nat) : Int) = p2 at *
                clear hq he1 he2 Hst1
                by_cases hbl : bl = []
                · have Hst3 : Hid (brS xs (k + 1) = (T, p1, p2)) := hide (by rw [Hst2.out, if_pos (Or.inl hbl)])
                  subst hbl
                  obtain ⟨gb, g2, hbv⟩ : ∃ g2 c2, b = .slice g2 0 c2 := (by obtain ⟨A3, c3, hv3, _⟩ := ho2.form; exact ⟨A3, c3, hv3⟩)
                  subst hbv
                  go_wp2_with (first | (go_at_call 55; refine Hsame.out.mono ?_; rintro e w' ⟨rfl, q, rfl⟩) | (go_at_call 48; refine (HRc.out _).mono ?_; rintro e w5 ⟨rfl, hb5⟩))
                  have hl5 := (((Hl.out.own.lo hsz).drewN q).below hb5).l
                  have hb6 := (below_drewN hb2 q).trans (hb5.mono hb2.size)
                  go_roundw
                  case measure => simp [intOf]; omega
                  case rel => exact ⟨k + 1, _, by omega, by go_num, rfl, by rw [Hst3.out], by rw [Hst3.out], by rw [Hst3.out]; exact hl5, hb6, hide (by first | exact trivial | (rw [Hst3.out]; exact ⟨fun h => by have := Hlr2.out; have h' : T = [] := h; rw [h'] at this; simp at this; omega, fun _ => by obtain ⟨C', hC'⟩ : ∃ g, C = some g := (by obtain ⟨ad, e, _⟩ := hrl.2 (by omega); exact ⟨ad, e⟩); subst hC'; exact ⟨_, _, _, rfl⟩⟩))⟩
                · have hbl2 : bl.length = j := by
                    rcases Hlenk.out with h | h
                    · exact absurd h hbl
                    · exact h
                  have Hbl := hide hbl
                  obtain ⟨B3, c3, hv3, -, -, hr3, -⟩ := ho2.form
                  rw [hbl2] at hv3
                  obtain ⟨ad3, hB3⟩ : ∃ ad, B3 = some ad := by
                    rw [hbl2] at hr3
                    obtain ⟨ad, e, _⟩ := hr3.2 (by omega)
                    exact ⟨ad, e⟩
                  subst hB3
                  subst hv3
                  have z1 : ((j : Int) == 0) = false := by simp; omega
                  have z2 : (j == 0) = false := by simp; omega
                  clear hbl hbl2 hr3
                  by_cases hcmp : wrap64 (num * p2) < wrap64 (p1 * den)
                  · have Hst3 : Hid (brS xs (k + 1) = (T, p1, p2)) := hide (by rw [Hst2.out, if_pos (Or.inr hcmp)])
                    go_wp2_with (first | (go_at_call 55; refine Hsame.out.mono ?_; rintro e w' ⟨rfl, q, rfl⟩) | (go_at_call 48; refine (HRc.out _).mono ?_; rintro e w5 ⟨rfl, hb5⟩))
                    have hl5 := (((Hl.out.own.lo hsz).drewN q).below hb5).l
                    have hb6 := (below_drewN hb2 q).trans (hb5.mono hb2.size)
                    go_roundw
                    case measure => simp [intOf]; omega
                    case rel => exact ⟨k + 1, _, by omega, by go_num, rfl, by rw [Hst3.out], by rw [Hst3.out], by rw [Hst3.out]; exact hl5, hb6, hide (by first | exact trivial | (rw [Hst3.out]; exact ⟨fun h => by have := Hlr2.out; have h' : T = [] := h; rw [h'] at this; simp at this; omega, fun _ => by obtain ⟨C', hC'⟩ : ∃ g, C = some g := (by obtain ⟨ad, e, _⟩ := hrl.2 (by omega); exact ⟨ad, e⟩); subst hC'; exact ⟨_, _, _, rfl⟩⟩))⟩
                  · have Hst3 : Hid (brS xs (k + 1) = (bl, num, den)) := hide (by rw [Hst2.out, if_neg (by rintro (h | h); exact Hbl.out h; exact hcmp h)])
                    have hcmp' : wrap64 (p1 * den) ≤ wrap64 (num * p2) := by omega
                    clear hcmp
                    go_wp2_with (first | (go_at_call 55; refine Hsame.out.mono ?_; rintro e w' ⟨rfl, q, rfl⟩) | (go_at_call 48; refine (HRc.out _).mono ?_; rintro e w5 ⟨rfl, hb5⟩))
                    have hl5 := ((ho2.drewN q).below hb5).l
                    have hb6 := (below_drewN hb2 q).trans (hb5.mono hb2.size)
                    go_roundw
                    case measure => simp [intOf]; omega
                    case rel => exact ⟨k + 1, _, by omega, by go_num, rfl, by rw [Hst3.out], by rw [Hst3.out], by rw [Hst3.out]; exact hl5, hb6, hide (by first | exact trivial | (rw [Hst3.out]; exact hnil.out))⟩
        · have hkP : k = P := by omega
          have dk := Hpow2.out k hkP
          subst hkP
          go_wp2
          go_ret2
          exact ⟨_, rfl, ho.own, hb⟩
    · rw [show RBestRival xs = ([], false) from by rw [RBestRival, if_neg (by simp only [brOk, Bool.and_eq_true, decide_eq_true_eq]; exact fun h => hl h.2)]]
      generalize xs.length = n at *
      by_cases h3 : n < 3
      · have d3 : decide ((n : Int) < 3) = true := decide_eq_true (by omega)
        have d3' : decide (n < 3) = true := decide_eq_true (by omega)
        go_enter Try.func25, Try.ntmps25
        go_wp2_with (go_at_call 39; refine (HW.out _ (RV.mk hr hc)).mono ?_; rintro e w1 ⟨rfl, hb1⟩)
        go_ret2
        exact ⟨_, rfl, Own.nil _ _ _, by subst hb1; exact Below.refl _ _⟩
      · have d3 : decide ((n : Int) < 3) = false := decide_eq_false (by omega)
        have d3' : decide (n < 3) = false := decide_eq_false (by omega)
        have d8 : decide (8 < (n : Int)) = true := decide_eq_true (by omega)
        have d8' : decide (8 < n) = true := decide_eq_true (by omega)
        go_enter Try.func25, Try.ntmps25
        go_wp2_with (go_at_call 39; refine (HW.out _ (RV.mk hr hc)).mono ?_; rintro e w1 ⟨rfl, hb1⟩)
        go_ret2
        exact ⟨_, rfl, Own.nil _ _ _, by subst hb1; exact Below.refl _ _⟩

set_option maxRecDepth 100000 in
set_option maxHeartbeats 3200000 in
theorem iBestRival (v : Value) (xs : List Int) (w : World) (hv : RV w v xs) (hn : xs.length ≤ 1048576) :
    Calls Try.prog 26 #[v] w fun e w' => ∃ r, e = .returned (.tuple #[r, .bool (RBestRival xs).2]) ∧ Own w' w.heap.size w'.heap.size r (RBestRival xs).1 ∧ Below w.heap.size w w' := by
  have HW := Lib.hid (fun W h => iWordV v xs 2 W h hn)
  obtain ⟨A, c, rfl, hr, hc⟩ := hv
  cases hw : wordB xs 2 with
  | false =>
    rw [show RBestRival xs = ([], false) from by rw [RBestRival, if_neg (by simp [brOk, hw])]]
    rw [hw] at HW
    generalize xs.length = n at *
    go_enter Try.func26, Try.ntmps26
    go_wp2_with (go_at_call 13; refine (HW.out _ (RV.mk hr hc)).mono ?_; rintro e w1 ⟨rfl, hb1⟩)
    go_ret2
    exact ⟨_, rfl, Own.nil _ _ _, hb1⟩
  | true =>
    rw [hw] at HW
    by_cases hl : 3 ≤ xs.length ∧ xs.length ≤ 8
    · have HR : Hid (RBestRival xs = ((brS xs (2 ^ xs.length)).1, true)) := hide (by rw [RBestRival, if_pos (by simp [brOk, hw, hl])])
      rw [HR.out]
      obtain ⟨hpow, hp256⟩ := pow_shl xs.length hl.2
      have Hend : Hid (∀ r, r.length = xs.length → eqL r xs = false → endsB xs r xs.length = false ∧ endsB r xs r.length = false) := hide fun r h1 h2 => ends_eq h1 h2
      have Hst : Hid (∀ k, brS xs (k + 1) = brNext xs (rvl k xs.length xs.length) (brS xs k)) := hide fun k => rfl
      have Hlen : Hid (∀ k, (brS xs k).1 = [] ∨ (brS xs k).1.length = xs.length) := hide fun k => brS_len xs k
      have hlen := hr.len
      obtain ⟨h3, h8⟩ := hl
      generalize hN : xs.length = n at *
      have HN := hide hN
      have Hpow : Hid (∀ k : Nat, k < 2 ^ n → decide ((k : Int) < wrap64 (2 ^ n)) = true) := hide fun k hk => by rw [hpow]; exact decide_eq_true (by omega)
      have Hpow2 : Hid (∀ k : Nat, k = 2 ^ n → decide ((k : Int) < wrap64 (2 ^ n)) = false) := hide fun k hk => by rw [hpow]; exact decide_eq_false (by omega)
      clear hpow hlen hN hw HR
      have d3 : decide ((n : Int) < 3) = false := decide_eq_false (by omega)
      have d3' : decide (n < 3) = false := decide_eq_false (by omega)
      have d8 : decide (8 < (n : Int)) = false := decide_eq_false (by omega)
      have d8' : decide (8 < n) = false := decide_eq_false (by omega)
      have hnl : ∀ w, (binOp .eql 22 (.slice none 0 0) (.slice none 0 0)).run Try.prog w = .ok (.bool true) w := fun w => Lib.run_eql_slice_nil w _ _ none 0 0 0 0 Try.underlying22
      have hns : ∀ w g m cp, (binOp .eql 22 (.slice (some g) m cp) (.slice none 0 0)).run Try.prog w = .ok (.bool false) w := fun w g m cp => Lib.run_eql_slice_nil w _ _ (some g) m cp 0 0 Try.underlying22
      generalize hP : 2 ^ n = P at *
      have HP := hide hP
      clear hP
      go_enter Try.func26, Try.ntmps26
      go_wp2_with (go_at_call 13; refine (HW.out _ (RV.mk hr hc)).mono ?_; rintro e w1 ⟨rfl, hb1⟩)
      go_loopw [4, 5, 6, 28] (fun b0 x y i wr => ∃ (k : Nat) (b : Value), k ≤ P ∧ i = .int .i64 k ∧ b = b0 ∧ x = .int .i64 (brS xs k).2.1 ∧ y = .int .i64 (brS xs k).2.2 ∧ OwnL wr w.heap.size b (brS xs k).1 ∧ Below w.heap.size w wr ∧ Hid (((brS xs k).1 = [] → b = .slice none 0 0) ∧ ((brS xs k).1 ≠ [] → ∃ g m cp, b = .slice (some g) m cp))) (fun _ _ _ i _ => P - (intOf i).toNat)
      case atStart => exact ⟨0, _, Nat.zero_le _, rfl, rfl, rfl, rfl, OwnL.nil _ _, hb1, hide ⟨fun _ => rfl, fun h => absurd rfl h⟩⟩
      case round =>
        obtain ⟨k, b, hk, rfl, rfl, rfl, rfl, ho, hb, hnil⟩ := hrel
        obtain ⟨wo, rfl⟩ : ∃ wo : World, wo = wr := ⟨_, rfl⟩
        have hlenk := Hlen.out k
        by_cases hlt : k < P
        · have dk := Hpow.out k hlt
          have Hst1 := hide (Hst.out k)
          have Hlr : Hid ((rvl k n n).length = n) := hide (rvl_len _ _ _)
          generalize brS xs k = st at *
          obtain ⟨bl, num, den⟩ := st
          simp only at hlenk ho hnil
          have Hlenk := hide hlenk
          have hsz := hb.size
          clear hlenk
          go_wp2
          go_loopw [8, 34] (fun l0 i w2 => ∃ (j : Nat) (l : Value), j ≤ n ∧ i = .int .i64 (j : Int) ∧ l = l0 ∧ OwnL w2 wo.heap.size l (rvl k n j) ∧ Own w2 w.heap.size wo.heap.size b bl ∧ Below w.heap.size w w2 ∧ Hid (wo.heap.size ≤ w2.heap.size)) (fun _ i _ => n - (intOf i).toNat)
          case atStart => exact ⟨0, _, Nat.zero_le _, by simp, rfl, OwnL.empty _ _ rfl (Nat.le_refl _), ho.own.below ((Below.refl _ _).alloc (Nat.le_refl _) _), hb.alloc hsz _, hide (by simp)⟩
          case round =>
            obtain ⟨j, l, hj, rfl, rfl, hl, ho2, hb2, hz2⟩ := hrel
            obtain ⟨w3, rfl⟩ : ∃ w3 : World, w3 = wr := ⟨_, rfl⟩
            by_cases hjn : j < n
            · have dj : decide (j < n) = true := decide_eq_true (by omega)
              have dj2 : decide ((j : Int) < (n : Int)) = true := decide_eq_true (by omega)
              have Hs := hide (rvl_succ k n j)
              have hll := rvl_len k n j
              generalize rvl k n j = T at *
              have Hl2 : Hid (T.length ≤ 1048576) := hide (by omega)
              have hzz := hz2.out
              have Hlt := hide hl.lt
              clear hll
              go_wp2_with (at_builtin; refine app1 hl Hl2.out hzz rfl rfl rfl rfl ?_; intro v' w4 ho4 hg4)
              go_roundw
              case measure => simp [intOf]; omega
              case rel => exact ⟨j + 1, v', by omega, by go_num, rfl, by rw [Hs.out]; exact ho4, ho2.grown hg4 (fun g hg => Or.inr (Hlt.out g hg).1), hb2.grown hg4 (by omega) (fun g hg => by have := (Hlt.out g hg).1; omega), hide (by have := hg4.size; omega)⟩
            · have dj : decide (j < n) = false := decide_eq_false (by omega)
              have dj2 : decide ((j : Int) < (n : Int)) = false := decide_eq_false (by omega)
              have hjn' : j = n := by omega
              subst hjn'
              have hzz := hz2.out
              have hlr := Hlr.out
              generalize hT : rvl k j j = T at *
              obtain ⟨C, e, hv, hcc, -, hrl, -⟩ := hl.own.form
              rw [hlr] at hv hrl hcc
              subst hv
              have hrw := hr.below hb2
              have Hsame := Lib.hid (iSame C A j j e c T xs w3 hrl hrw (by omega) hn)
              have Hl := hide hl
              have Hlr2 := hide hlr
              clear hl hlr hT
              cases hq : eqL T xs with
              | true =>
                rw [hq] at Hsame
                have Hst2 : Hid (brS xs (k + 1) = (bl, num, den)) := hide (by rw [Hst1.out, brNext, if_pos hq])
                clear hq
                go_wp2_with (go_at_call 56; refine Hsame.out.mono ?_; rintro e w' ⟨rfl, q, rfl⟩)
                go_roundw
                case measure => simp [intOf]; omega
                case rel => exact ⟨k + 1, _, by omega, by go_num, rfl, by rw [Hst2.out], by rw [Hst2.out], by rw [Hst2.out]; exact ho2.l, below_drewN hb2 q, hide (by first | exact trivial | (rw [Hst2.out]; exact hnil.out))⟩
              | false =>
                rw [hq] at Hsame
                obtain ⟨he1, he2⟩ := Hend.out T Hlr2.out hq
                have HRc := Lib.hid (fun q => iRace (.slice C j e) (.slice A j c) T xs 2 (w3.drewN q) (RV.drewN (RV.mk hrl hcc) q) (RV.drewN (RV.mk hrw hc) q) (by rw [Hlr2.out]; omega) (by rw [HN.out]; omega) (by omega) (by omega) (by rw [Hlr2.out]; omega) (by rw [HN.out]; omega) (by rw [HN.out]; exact he1) he2)
                have Hst2 : Hid (brS xs (k + 1) = if bl = [] ∨ wrap64 (num * (((raceR T xs 2).2 : Nat) : Int)) < wrap64 ((((raceR T xs 2).1 : Nat) : Int) * den) then (T, (((raceR T xs 2).1 : Nat) : Int), (((raceR T xs 2).2 : Nat) : Int)) else (bl, num, den)) := hide (by rw [Hst1.out, brNext, if_neg (by rw [hq]; simp)])
                generalize (((raceR T xs 2).1 : Nat) : Int) = p1 at *
                generalize (((raceR T xs 2).2 : Nat) : Int) = p2 at *
                clear hq he1 he2 Hst1
                by_cases hbl : bl = []
                · have Hst3 : Hid (brS xs (k + 1) = (T, p1, p2)) := hide (by rw [Hst2.out, if_pos (Or.inl hbl)])
                  subst hbl
                  have hbv := hnil.out.1 rfl
                  subst hbv
                  go_wp2_with (first | (go_at_call 56; refine Hsame.out.mono ?_; rintro e w' ⟨rfl, q, rfl⟩) | (go_at_call 50; refine (HRc.out _).mono ?_; rintro e w5 ⟨rfl, hb5⟩))
                  go_wp2
                  have hl5 := (((Hl.out.own.lo hsz).drewN q).below hb5).l
                  have hb6 := (below_drewN hb2 q).trans (hb5.mono hb2.size)
                  go_roundw
                  case measure => simp [intOf]; omega
                  case rel => exact ⟨k + 1, _, by omega, by go_num, rfl, by rw [Hst3.out], by rw [Hst3.out], by rw [Hst3.out]; exact hl5, hb6, hide (by first | exact trivial | (rw [Hst3.out]; exact ⟨fun h => by have := Hlr2.out; have h' : T = [] := h; rw [h'] at this; simp at this; omega, fun _ => by obtain ⟨C', hC'⟩ : ∃ g, C = some g := (by obtain ⟨ad, e, _⟩ := hrl.2 (by omega); exact ⟨ad, e⟩); subst hC'; exact ⟨_, _, _, rfl⟩⟩))⟩
                · have hbl2 : bl.length = j := by
                    rcases Hlenk.out with h | h
                    · exact absurd h hbl
                    · exact h
                  have Hbl := hide hbl
                  obtain ⟨B3, c3, hv3, -, -, hr3, -⟩ := ho2.form
                  rw [hbl2] at hv3
                  obtain ⟨ad3, hB3⟩ : ∃ ad, B3 = some ad := by
                    rw [hbl2] at hr3
                    obtain ⟨ad, e, _⟩ := hr3.2 (by omega)
                    exact ⟨ad, e⟩
                  subst hB3
                  subst hv3
                  have z1 : ((j : Int) == 0) = false := by simp; omega
                  have z2 : (j == 0) = false := by simp; omega
                  clear hbl hbl2 hr3
                  by_cases hcmp : wrap64 (num * p2) < wrap64 (p1 * den)
                  · have Hst3 : Hid (brS xs (k + 1) = (T, p1, p2)) := hide (by rw [Hst2.out, if_pos (Or.inr hcmp)])
                    go_wp2_with (first | (go_at_call 56; refine Hsame.out.mono ?_; rintro e w' ⟨rfl, q, rfl⟩) | (go_at_call 50; refine (HRc.out _).mono ?_; rintro e w5 ⟨rfl, hb5⟩))
                    have hl5 := (((Hl.out.own.lo hsz).drewN q).below hb5).l
                    have hb6 := (below_drewN hb2 q).trans (hb5.mono hb2.size)
                    go_roundw
                    case measure => simp [intOf]; omega
                    case rel => exact ⟨k + 1, _, by omega, by go_num, rfl, by rw [Hst3.out], by rw [Hst3.out], by rw [Hst3.out]; exact hl5, hb6, hide (by first | exact trivial | (rw [Hst3.out]; exact ⟨fun h => by have := Hlr2.out; have h' : T = [] := h; rw [h'] at this; simp at this; omega, fun _ => by obtain ⟨C', hC'⟩ : ∃ g, C = some g := (by obtain ⟨ad, e, _⟩ := hrl.2 (by omega); exact ⟨ad, e⟩); subst hC'; exact ⟨_, _, _, rfl⟩⟩))⟩
                  · have Hst3 : Hid (brS xs (k + 1) = (bl, num, den)) := hide (by rw [Hst2.out, if_neg (by rintro (h | h); exact Hbl.out h; exact hcmp h)])
                    have hcmp' : wrap64 (p1 * den) ≤ wrap64 (num * p2) := by omega
                    clear hcmp
                    go_wp2_with (first | (go_at_call 56; refine Hsame.out.mono ?_; rintro e w' ⟨rfl, q, rfl⟩) | (go_at_call 50; refine (HRc.out _).mono ?_; rintro e w5 ⟨rfl, hb5⟩))
                    have hl5 := ((ho2.drewN q).below hb5).l
                    have hb6 := (below_drewN hb2 q).trans (hb5.mono hb2.size)
                    go_roundw
                    case measure => simp [intOf]; omega
                    case rel => exact ⟨k + 1, _, by omega, by go_num, rfl, by rw [Hst3.out], by rw [Hst3.out], by rw [Hst3.out]; exact hl5, hb6, hide (by first | exact trivial | (rw [Hst3.out]; exact hnil.out))⟩
        · have hkP : k = P := by omega
          have dk := Hpow2.out k hkP
          subst hkP
          go_wp2
          go_ret2
          exact ⟨_, rfl, ho.own, hb⟩
    · rw [show RBestRival xs = ([], false) from by rw [RBestRival, if_neg (by simp only [brOk, Bool.and_eq_true, decide_eq_true_eq]; exact fun h => hl h.2)]]
      generalize xs.length = n at *
      by_cases h3 : n < 3
      · have d3 : decide ((n : Int) < 3) = true := decide_eq_true (by omega)
        have d3' : decide (n < 3) = true := decide_eq_true (by omega)
        go_enter Try.func26, Try.ntmps26
        go_wp2_with (go_at_call 13; refine (HW.out _ (RV.mk hr hc)).mono ?_; rintro e w1 ⟨rfl, hb1⟩)
        go_ret2
        exact ⟨_, rfl, Own.nil _ _ _, hb1⟩
      · have d3 : decide ((n : Int) < 3) = false := decide_eq_false (by omega)
        have d3' : decide (n < 3) = false := decide_eq_false (by omega)
        have d8 : decide (8 < (n : Int)) = true := decide_eq_true (by omega)
        have d8' : decide (8 < n) = true := decide_eq_true (by omega)
        go_enter Try.func26, Try.ntmps26
        go_wp2_with (go_at_call 13; refine (HW.out _ (RV.mk hr hc)).mono ?_; rintro e w1 ⟨rfl, hb1⟩)
        go_ret2
        exact ⟨_, rfl, Own.nil _ _ _, hb1⟩
end Go.Proofs.Ytpfaefflbjpllaa
