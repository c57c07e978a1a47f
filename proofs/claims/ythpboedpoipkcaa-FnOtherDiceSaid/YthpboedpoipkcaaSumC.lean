/- Contracts of SumCounts, both sides. Conditions: sizes at most 2^20. -/
import Derived.Test.YthpboedpoipkcaaSum
namespace Go.Proofs.Ythpboedpoipkcaa
open Go.ChangeShapes Go.WideShapes Go.ChangeAt Go.RowKit

def RSumCounts (xss : List (List Int)) : List Int × Int × Bool := if diceB xss = true then (cnD xss xss.length, prD xss xss.length, true) else ([], 0, false)
theorem RSumCounts_len0 (xss : List (List Int)) : (RSumCounts xss).1.length ≤ 1048576 := by
  unfold RSumCounts
  split
  · rename_i h
    obtain ⟨_, h6, hd⟩ := diceB_of h
    have := (cnD_gd hd xss.length (Nat.le_refl _)).2.2.1
    show (cnD xss xss.length).length ≤ 1048576
    omega
  · simp

set_option maxHeartbeats 800000 in
theorem sSumC (A : Option Addr) (n c : Nat) (xss : List (List Int)) (w : World) (hr : RdR w A n xss) (hn : n ≤ 1048576) (hrow : ∀ k, k < n → (xss.getD k []).length ≤ 1048576) :
    Calls Try.prog 37 #[.slice A n c] w fun e w' => ∃ r, e = .returned (.tuple #[r, .int .i64 (RSumCounts xss).2.1, .bool (RSumCounts xss).2.2]) ∧ Own w' w.heap.size w'.heap.size r (RSumCounts xss).1 ∧ Below w.heap.size w w' := by
  have H := Lib.hid (sDice A n c xss w hr hn hrow)
  have hl := hr.len
  cases hq : diceB xss with
  | false =>
    rw [hq] at H
    have HR : Hid (RSumCounts xss = ([], 0, false)) := hide (by rw [RSumCounts, hq]; rfl)
    clear hr hrow hl
    go_enter Try.func37, Try.ntmps37
    go_wp2_with (go_at_call 65; refine H.out.mono ?_; rintro e w2 ⟨rfl, q, rfl⟩; have hb2 := below_drewN (Below.refl w.heap.size w) q)
    go_ret3
    exact ⟨_, by rw [HR.out]; rfl, by rw [HR.out]; exact Own.nil _ _ _, hb2⟩
  | true =>
    rw [hq] at H
    obtain ⟨hd1, hd6, hdie⟩ := diceB_of hq
    have HR : Hid (RSumCounts xss = (cnD xss n, prD xss n, true)) := hide (by rw [RSumCounts, hq, hl]; rfl)
    have HC := Lib.hid (fun (W : World) (hb : Below w.heap.size w W) => sCounts A n c xss W (hr.below hb) (by omega) (fun k hk => hdie k (by omega)))
    have Hg := hide (cnD_gd hdie n (by omega))
    generalize RSumCounts xss = RR at *
    generalize cnD xss n = cs at *
    generalize prD xss n = pr at *
    have hpr : pr ≤ 4000000000 := by
      obtain ⟨_, _, _, _, p2⟩ := Hg.out
      have : 12 ^ n ≤ 12 ^ 6 := Nat.pow_le_pow_right (by omega) (by omega)
      have p3 : ((12 ^ n : Nat) : Int) ≤ 2985984 := by omega
      omega
    have hcl : cs.length ≤ 1048576 := by have := Hg.out.2.2.1; omega
    have HS := Lib.hid (fun (W : World) (v : Value) (hO : Own W W.heap.size W.heap.size v cs) => True.intro)
    clear HS
    obtain ⟨m, HL⟩ : ∃ m, Hid (cs.length = m) := ⟨_, hide rfl⟩
    have HS := Lib.hid (fun (A : Option Addr) (c : Nat) (W : World) (h : Rd W A m (iv cs)) => sSum A m c cs pr W h (by rw [← HL.out]; exact hcl) (by rw [← HL.out]; exact Hg.out.1) hpr)
    clear hpr hcl
    clear hr hrow hl hdie hd1 hd6 hq
    go_enter Try.func37, Try.ntmps37
    go_wp2_with (first | (go_at_call 65; refine H.out.mono ?_; rintro e w2 ⟨rfl, q, rfl⟩; have hb2 := below_drewN (Below.refl w.heap.size w) q) | (go_at_call 74; refine (HC.out _ hb2).mono ?_; rintro e w3 ⟨r, rfl, hO, hb3⟩; obtain ⟨A5, c5, hv5, -, -, -, -⟩ := id hO.form; rw [HL.out] at hv5; subst hv5) | (go_at_call 75; refine (HS.out _ _ _ hO.rd.1).mono ?_; rintro e w' ⟨rfl, rfl⟩))
    go_ret3
    exact ⟨_, by rw [HR.out]; rfl, by rw [HR.out]; exact hO.lo hb2.size, hb2.trans (hb3.mono hb2.size)⟩
theorem sSumCounts (v : Value) (xss : List (List Int)) (w : World) (hv : RVR w v xss) (ht : tot xss ≤ 1048576) :
    Calls Try.prog 37 #[v] w fun e w' => ∃ r, e = .returned (.tuple #[r, .int .i64 (RSumCounts xss).2.1, .bool (RSumCounts xss).2.2]) ∧ Own w' w.heap.size w'.heap.size r (RSumCounts xss).1 ∧ Below w.heap.size w w' := by
  obtain ⟨A, c', rfl, hr, _⟩ := hv
  exact sSumC A _ c' xss w hr (Nat.le_trans (tot_len xss) ht) (fun k hk => Nat.le_trans (tot_row hk) ht)

set_option maxHeartbeats 800000 in
theorem iSumC (A : Option Addr) (n c : Nat) (xss : List (List Int)) (w : World) (hr : RdR w A n xss) (hn : n ≤ 1048576) (hrow : ∀ k, k < n → (xss.getD k []).length ≤ 1048576) :
    Calls Try.prog 38 #[.slice A n c] w fun e w' => ∃ r, e = .returned (.tuple #[r, .int .i64 (RSumCounts xss).2.1, .bool (RSumCounts xss).2.2]) ∧ Own w' w.heap.size w'.heap.size r (RSumCounts xss).1 ∧ Below w.heap.size w w' := by
  have H := Lib.hid (iDice A n c xss w hr hn hrow)
  have hl := hr.len
  cases hq : diceB xss with
  | false =>
    rw [hq] at H
    have HR : Hid (RSumCounts xss = ([], 0, false)) := hide (by rw [RSumCounts, hq]; rfl)
    clear hr hrow hl
    go_enter Try.func38, Try.ntmps38
    go_wp2_with (go_at_call 67; refine H.out.mono ?_; rintro e w2 ⟨rfl, hb2⟩)
    go_ret3
    exact ⟨_, by rw [HR.out]; rfl, by rw [HR.out]; exact Own.nil _ _ _, hb2⟩
  | true =>
    rw [hq] at H
    obtain ⟨hd1, hd6, hdie⟩ := diceB_of hq
    have HR : Hid (RSumCounts xss = (cnD xss n, prD xss n, true)) := hide (by rw [RSumCounts, hq, hl]; rfl)
    have HC := Lib.hid (fun (W : World) (hb : Below w.heap.size w W) => iCounts A n c xss W (hr.below hb) (by omega) (fun k hk => hdie k (by omega)))
    have Hg := hide (cnD_gd hdie n (by omega))
    generalize RSumCounts xss = RR at *
    generalize cnD xss n = cs at *
    generalize prD xss n = pr at *
    clear hr hrow hl hdie hd1 hd6 hq
    go_enter Try.func38, Try.ntmps38
    go_wp2_with (first | (go_at_call 67; refine H.out.mono ?_; rintro e w2 ⟨rfl, hb2⟩) | (go_at_call 76; refine (HC.out _ hb2).mono ?_; rintro e w3 ⟨r, rfl, hO, hb3⟩))
    go_ret3
    exact ⟨_, by rw [HR.out]; rfl, by rw [HR.out]; exact hO.lo hb2.size, hb2.trans (hb3.mono hb2.size)⟩
theorem iSumCounts (v : Value) (xss : List (List Int)) (w : World) (hv : RVR w v xss) (ht : tot xss ≤ 1048576) :
    Calls Try.prog 38 #[v] w fun e w' => ∃ r, e = .returned (.tuple #[r, .int .i64 (RSumCounts xss).2.1, .bool (RSumCounts xss).2.2]) ∧ Own w' w.heap.size w'.heap.size r (RSumCounts xss).1 ∧ Below w.heap.size w w' := by
  obtain ⟨A, c', rfl, hr, _⟩ := hv
  exact iSumC A _ c' xss w hr (Nat.le_trans (tot_len xss) ht) (fun k hk => Nat.le_trans (tot_row hk) ht)
end Go.Proofs.Ythpboedpoipkcaa
