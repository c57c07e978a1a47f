/- Contracts of AreTiles, both sides. Conditions: lengths at most 2^20. -/
import Derived.Test.YtkbeelbklganaaaTile2
namespace Go.Proofs.Ytkbeelbklganaaa
open Go.ChangeShapes Go.WideShapes Go.ChangeAt Go.RowKit

def badT (p : Int × Int) : Bool := !inB p.1 0 6 || !inB p.2 0 6
def RAreTiles (ts : List (Int × Int)) : Bool := decide (1 ≤ ts.length ∧ ts.length ≤ 8) && !ts.any badT
theorem anyT_at {ts : List (Int × Int)} {k : Nat} (hk : k < ts.length) (h : badT (ts.getD k (0, 0)) = true) : ts.any badT = true := by
  rw [List.any_eq_true]
  exact ⟨ts[k], List.getElem_mem _, by simpa [List.getD, hk] using h⟩
theorem anyT_none {ts : List (Int × Int)} (h : ∀ k, k < ts.length → badT (ts.getD k (0, 0)) = false) : ts.any badT = false := by
  rw [List.any_eq_false]
  intro x hx
  obtain ⟨j, hj, rfl⟩ := List.getElem_of_mem hx
  have := h j hj
  simpa [List.getD, hj] using this

set_option maxRecDepth 100000 in
set_option maxHeartbeats 800000 in
theorem sLine (A : Option Addr) (n c : Nat) (ts : List (Int × Int)) (w : World) (hr : RdT w A n ts) (hn : n ≤ 1048576) :
    Calls Try.prog 45 #[.slice A n c] w fun e w' => e = .returned (.bool (RAreTiles ts)) ∧ w = w' := by
  have hl := hr.len
  have Hbad : Hid (∀ k, k < n → badT (ts.getD k (0, 0)) = true → RAreTiles ts = false) := hide fun k hk h => by rw [RAreTiles, anyT_at (by omega) h]; simp
  have Hok : Hid ((∀ k, k < n → badT (ts.getD k (0, 0)) = false) → RAreTiles ts = decide (1 ≤ n ∧ n ≤ 8)) := hide fun h => by rw [RAreTiles, anyT_none (by rw [hl]; exact h), hl]; simp
  generalize RAreTiles ts = R at *
  clear hl
  go_enter Try.func45, Try.ntmps45
  go_wp2
  go_loop [3] (fun i => ∃ k : Nat, k ≤ n ∧ i = .int .i64 k ∧ Hid (∀ j, j < k → badT (ts.getD j (0, 0)) = false)) (fun i => n - (intOf i).toNat)
  case atStart => exact ⟨0, Nat.zero_le _, rfl, hide fun j hj => absurd hj (by omega)⟩
  case round =>
    obtain ⟨k, hk, rfl, hfa⟩ := hrel
    by_cases hlt : k < n
    · obtain ⟨ad, rfl, hbl, hc1, hc2⟩ := hr.at hlt
      rw [add_one'] at hc2
      have HB := hide (Hbad.out k hlt)
      generalize hp : ts.getD k (0, 0) = p at *
      obtain ⟨a1, a2⟩ := p
      simp only at hc1 hc2
      have HP := hide hp
      clear hp
      have H1 := Lib.hid (fun W => sIn a1 0 6 W)
      have H2 := Lib.hid (fun W => sIn a2 0 6 W)
      cases h1 : inB a1 0 6 with
      | false =>
        rw [h1] at H1
        have HR := hide (HB.out (by simp [badT, h1]))
        clear h1
        go_wp2_with (go_at_call 52; (with_reducible refine (H1.out _).mono ?_); rintro e w' ⟨rfl, rfl⟩)
        go_ret
        exact ⟨ret_bool HR.out.symm, rfl⟩
      | true =>
        rw [h1] at H1
        cases h2 : inB a2 0 6 with
        | false =>
          rw [h2] at H2
          have HR := hide (HB.out (by simp [badT, h2]))
          clear h1 h2
          go_wp2_with (go_at_call 52; first | ((with_reducible refine (H1.out _).mono ?_); rintro e w' ⟨rfl, rfl⟩) | ((with_reducible refine (H2.out _).mono ?_); rintro e w' ⟨rfl, rfl⟩))
          go_ret
          exact ⟨ret_bool HR.out.symm, rfl⟩
        | true =>
          rw [h2] at H2
          have Hg : Hid (badT (a1, a2) = false) := hide (by simp [badT, h1, h2])
          clear h1 h2
          go_wp2_with (go_at_call 52; first | ((with_reducible refine (H1.out _).mono ?_); rintro e w' ⟨rfl, rfl⟩) | ((with_reducible refine (H2.out _).mono ?_); rintro e w' ⟨rfl, rfl⟩))
          go_round
          case measure => simp [intOf]; omega
          case rel =>
            refine ⟨k + 1, by omega, by go_num, hide fun j hj => ?_⟩
            by_cases e : j = k
            · subst e
              rw [HP.out]; exact Hg.out
            · exact hfa.out j (by omega)
    · have hkn : k = n := by omega
      subst hkn
      have HR := hide (Hok.out hfa.out)
      by_cases h1 : 1 ≤ k
      · have d1 : decide (1 ≤ (k : Int)) = true := decide_eq_true (by omega)
        have d1' : decide (1 ≤ k) = true := decide_eq_true h1
        by_cases h8 : k ≤ 8
        · have d8 : decide ((k : Int) ≤ 8) = true := decide_eq_true (by omega)
          go_wp2
          go_ret
          exact ⟨ret_bool (by rw [HR.out, decide_eq_true ⟨h1, h8⟩]), rfl⟩
        · have d8 : decide ((k : Int) ≤ 8) = false := decide_eq_false (by omega)
          go_wp2
          go_ret
          exact ⟨ret_bool (by rw [HR.out, decide_eq_false (fun h => h8 h.2)]), rfl⟩
      · have hk0 : k = 0 := by omega
        subst hk0
        go_wp2
        go_ret
        exact ⟨ret_bool (by rw [HR.out]; rfl), rfl⟩

set_option maxHeartbeats 400000 in
theorem cloT (a b : Int) (w : World) : Calls Try.prog 47 #[.agg #[.int .i64 a, .int .i64 b]] w fun e w' => e = .returned (.bool (badT (a, b))) ∧ Below w.heap.size w w' := by
  have H1 := Lib.hid (fun W => iIn a 0 6 W)
  have H2 := Lib.hid (fun W => iIn b 0 6 W)
  have HB : Hid (badT (a, b) = (!inB a 0 6 || !inB b 0 6)) := hide rfl
  cases h1 : inB a 0 6 with
  | false =>
    rw [h1] at H1 HB
    go_enter Try.func47, Try.ntmps47
    go_wp2_with (go_at_call 40; (with_reducible refine (H1.out _).mono ?_); rintro e w' ⟨rfl, rfl⟩)
    go_ret
    exact ⟨ret_bool (by rw [HB.out]; rfl), (Below.refl _ _).alloc (Nat.le_refl _) _⟩
  | true =>
    rw [h1] at H1 HB
    cases h2 : inB b 0 6 with
    | false =>
      rw [h2] at H2 HB
      go_enter Try.func47, Try.ntmps47
      go_wp2_with (go_at_call 40; first | ((with_reducible refine (H1.out _).mono ?_); rintro e w' ⟨rfl, rfl⟩) | ((with_reducible refine (H2.out _).mono ?_); rintro e w' ⟨rfl, rfl⟩))
      go_ret
      exact ⟨ret_bool (by rw [HB.out]; rfl), (Below.refl _ _).alloc (Nat.le_refl _) _⟩
    | true =>
      rw [h2] at H2 HB
      go_enter Try.func47, Try.ntmps47
      go_wp2_with (go_at_call 40; first | ((with_reducible refine (H1.out _).mono ?_); rintro e w' ⟨rfl, rfl⟩) | ((with_reducible refine (H2.out _).mono ?_); rintro e w' ⟨rfl, rfl⟩))
      go_ret
      exact ⟨ret_bool (by rw [HB.out]; rfl), (Below.refl _ _).alloc (Nat.le_refl _) _⟩

/-- the place of the first bad tile, or -1 -/
def idxT (ts : List (Int × Int)) : Int := if ts.any badT then ((ts.findIdx badT : Nat) : Int) else -1
theorem idxT_hit {ts : List (Int × Int)} {k : Nat} (hk : k < ts.length) (h : ∀ j, j < k → badT (ts.getD j (0, 0)) = false) (hp : badT (ts.getD k (0, 0)) = true) : idxT ts = (k : Int) := by
  have e : ts.getD k (0, 0) = ts[k] := by simp [List.getD, hk]
  have h2 : ts.findIdx badT = k := by
    rw [List.findIdx_eq hk]
    refine ⟨by rw [← e]; exact hp, fun j hj => ?_⟩
    have := h j hj
    simpa [List.getD, show j < ts.length by omega] using this
  rw [idxT, if_pos (anyT_at hk hp), h2]

set_option maxRecDepth 100000 in
set_option maxHeartbeats 800000 in
theorem libIdxT (A : Option Addr) (n c : Nat) (ts : List (Int × Int)) (w : World) (hr : RdT w A n ts) (hn : n ≤ 1048576) :
    Calls Try.prog 64 #[.slice A n c, .func (.func 47) #[] #[]] w fun e w' => e = .returned (.int .i64 (idxT ts)) ∧ Below w.heap.size w w' := by
  have hl := hr.len
  have Hhit : Hid (∀ k, k < n → (∀ j, j < k → badT (ts.getD j (0, 0)) = false) → badT (ts.getD k (0, 0)) = true → idxT ts = (k : Int)) := hide fun k hk h hp => idxT_hit (by omega) h hp
  have Hno : Hid ((∀ j, j < n → badT (ts.getD j (0, 0)) = false) → idxT ts = -1) := hide fun h => by rw [idxT, if_neg (by rw [anyT_none (by rw [hl]; exact h)]; simp)]
  generalize idxT ts = R at *
  clear hl
  go_enter Try.func64, Try.ntmps64
  go_wp2
  go_loopw [5, 8] (fun _ i wr => ∃ k : Nat, k ≤ n ∧ i = .int .i64 k ∧ Hid (∀ j, j < k → badT (ts.getD j (0, 0)) = false) ∧ Below w.heap.size w wr) (fun _ i _ => n - (intOf i).toNat)
  case atStart => exact ⟨0, Nat.zero_le _, rfl, hide fun j hj => absurd hj (by omega), Below.refl _ _⟩
  case round =>
    obtain ⟨k, hk, rfl, hfa, hb⟩ := hrel
    by_cases hlt : k < n
    · obtain ⟨ad, rfl, hbl, hc1, hc2⟩ := (hr.below hb).at hlt
      rw [add_one'] at hc2
      have HH := hide (Hhit.out k hlt hfa.out)
      generalize hp : ts.getD k (0, 0) = p at *
      obtain ⟨a1, a2⟩ := p
      simp only at hc1 hc2
      have HP := hide hp
      clear hp
      have hcall := fun W => cloT a1 a2 W
      cases hq : badT (a1, a2) with
      | true =>
        simp only [hq] at hcall
        have HC := Lib.hid hcall
        have HR := hide (HH.out hq)
        clear hq hcall
        go_wp2_with (go_at_call 47; refine (HC.out _).mono ?_; rintro e w2 ⟨rfl, hb2⟩)
        go_ret
        exact ⟨ret_int HR.out.symm, hb.trans (hb2.mono hb.size)⟩
      | false =>
        simp only [hq] at hcall
        have HC := Lib.hid hcall
        have HQ := hide hq
        clear hq hcall
        go_wp2_with (go_at_call 47; refine (HC.out _).mono ?_; rintro e w2 ⟨rfl, hb2⟩)
        go_roundw
        case measure => simp [intOf]; omega
        case rel =>
          refine ⟨k + 1, by omega, by go_num, hide fun j hj => ?_, hb.trans (hb2.mono hb.size)⟩
          by_cases e : j = k
          · subst e
            rw [HP.out]; exact HQ.out
          · exact hfa.out j (by omega)
    · have hkn : k = n := by omega
      subst hkn
      have HR := hide (Hno.out hfa.out)
      go_wp2
      go_ret
      exact ⟨ret_int HR.out.symm, hb⟩

set_option maxHeartbeats 400000 in
theorem libHasT (A : Option Addr) (n c : Nat) (ts : List (Int × Int)) (w : World) (hr : RdT w A n ts) (hn : n ≤ 1048576) :
    Calls Try.prog 46 #[.slice A n c, .func (.func 47) #[] #[]] w fun e w' => e = .returned (.bool (ts.any badT)) ∧ Below w.heap.size w w' := by
  have h := libIdxT A n c ts w hr hn
  have hle : (ts.findIdx badT : Nat) ≤ ts.length := List.findIdx_le_length
  have hl := hr.len
  have H := Lib.hid h
  clear h
  cases hq : ts.any badT with
  | true =>
    have e : idxT ts = ((ts.findIdx badT : Nat) : Int) := by rw [idxT, if_pos hq]
    rw [e] at H
    generalize ts.findIdx badT = k at *
    have hk : k ≤ 1048576 := by omega
    clear hl hle e hq
    go_enter Try.func46, Try.ntmps46
    go_wp2_with (go_at_call 64; refine H.out.mono ?_; rintro e w' ⟨rfl, hb⟩)
    go_ret
    exact ⟨by simp, hb⟩
  | false =>
    have e : idxT ts = -1 := by rw [idxT, if_neg (by rw [hq]; simp)]
    rw [e] at H
    clear hl hle e hq
    go_enter Try.func46, Try.ntmps46
    go_wp2_with (go_at_call 64; refine H.out.mono ?_; rintro e w' ⟨rfl, hb⟩)
    go_ret
    exact ⟨by simp, hb⟩

set_option maxHeartbeats 400000 in
theorem iAreT (A : Option Addr) (n c : Nat) (ts : List (Int × Int)) (w : World) (hr : RdT w A n ts) (hn : n ≤ 1048576) :
    Calls Try.prog 21 #[.slice A n c] w fun e w' => e = .returned (.bool (RAreTiles ts)) ∧ Below w.heap.size w w' := by
  have hl := hr.len
  have HR : Hid (RAreTiles ts = (decide (1 ≤ n ∧ n ≤ 8) && !ts.any badT)) := hide (by rw [RAreTiles, hl])
  have H := Lib.hid (libHasT A n c ts w hr hn)
  generalize RAreTiles ts = R at *
  generalize ts.any badT = Q at *
  clear hl
  by_cases h1 : 1 ≤ n
  · by_cases h8 : n ≤ 8
    · rw [decide_eq_true ⟨h1, h8⟩] at HR
      have d1 : decide (1 ≤ (n : Int)) = true := decide_eq_true (by omega)
      have d8 : decide ((n : Int) ≤ 8) = true := decide_eq_true (by omega)
      go_enter Try.func21, Try.ntmps21
      go_wp2_with (go_at_call 46; refine H.out.mono ?_; rintro e w' ⟨rfl, hb⟩)
      go_ret
      exact ⟨ret_bool (by rw [HR.out]; rfl), hb⟩
    · rw [decide_eq_false (fun h => h8 h.2)] at HR
      have d1 : decide (1 ≤ (n : Int)) = true := decide_eq_true (by omega)
      have d8 : decide ((n : Int) ≤ 8) = false := decide_eq_false (by omega)
      go_enter Try.func21, Try.ntmps21
      go_wp2
      go_ret
      exact ⟨ret_bool (by rw [HR.out]; rfl), Below.refl _ _⟩
  · rw [decide_eq_false (fun h => h1 h.1)] at HR
    obtain rfl : n = 0 := by omega
    go_enter Try.func21, Try.ntmps21
    go_wp2
    go_ret
    exact ⟨ret_bool (by rw [HR.out]; rfl), Below.refl _ _⟩
end Go.Proofs.Ytkbeelbklganaaa
