/- Contracts of the comparisons of []int64 on both sides. Conditions: lengths at most 2^20. -/
import Derived.Test.YthpboedpoipkcaaNum
namespace Go.Proofs.Ythpboedpoipkcaa
open Go.ChangeShapes Go.WideShapes Go.ChangeAt Go.RowKit

/-- are two lists the same -/
def eqL (xs ys : List Int) : Bool := decide (xs = ys)
theorem eqL_t {xs ys : List Int} (h : xs = ys) : eqL xs ys = true := decide_eq_true h
theorem eqL_f {xs ys : List Int} (h : xs ≠ ys) : eqL xs ys = false := decide_eq_false h
theorem eqL_len {xs ys : List Int} (h : xs.length ≠ ys.length) : eqL xs ys = false := eqL_f fun e => h (by rw [e])
theorem eqL_at {xs ys : List Int} {k : Nat} (h : xs.getD k 0 ≠ ys.getD k 0) : eqL xs ys = false := eqL_f fun e => h (by rw [e])
theorem eqL_all {xs ys : List Int} (hl : xs.length = ys.length) (h : ∀ k, k < xs.length → xs.getD k 0 = ys.getD k 0) : eqL xs ys = true := by
  refine eqL_t (List.ext_getElem hl fun i h1 h2 => ?_)
  have := h i h1
  simpa [List.getD, h1, h2] using this

set_option maxHeartbeats 800000 in
theorem sSame (A B : Option Addr) (n m c d : Nat) (xs ys : List Int) (w : World) (hr : Rd w A n (iv xs)) (hr2 : Rd w B m (iv ys)) (hn : n ≤ 1048576) (hm : m ≤ 1048576) :
    Calls Try.prog 58 #[.slice A n c, .slice B m d] w fun e w' => e = .returned (.bool (eqL xs ys)) ∧ ∃ q, w' = w.drewN q := by
  have hl1 := hr.len
  have hl2 := hr2.len
  by_cases he : n = m
  · subst he
    have hok : (∀ k, k < n → xs.getD k 0 = ys.getD k 0) → eqL xs ys = true := fun h => eqL_all (by omega) (by rw [hl1]; exact h)
    have hbad : ∀ k, xs.getD k 0 ≠ ys.getD k 0 → eqL xs ys = false := fun k h => eqL_at h
    generalize eqL xs ys = R at *
    have Hok := Lib.hid hok
    have Hbad := Lib.hid hbad
    clear hok hbad hl1 hl2
    go_enter Try.func58, Try.ntmps58
    go_wp2
    go_loopw [5] (fun i wr => ∃ k : Nat, k ≤ n ∧ i = .int .i64 k ∧ Hid (∃ q, wr = w.drewN q) ∧ Hid (∀ j, j < k → xs.getD j 0 = ys.getD j 0)) (fun i _ => n - (intOf i).toNat)
    case atStart => exact ⟨0, Nat.zero_le _, rfl, hide ⟨0, rfl⟩, hide fun j hj => absurd hj (by omega)⟩
    case round =>
      obtain ⟨k, hk, rfl, hq, hfa⟩ := hrel
      obtain ⟨q, rfl⟩ := hq.out
      by_cases hlt : k < n
      · obtain ⟨ad, rfl, hbl, hc⟩ := hr.int hlt
        obtain ⟨ad2, rfl, hbl2, hc2⟩ := hr2.int hlt
        generalize hx : xs.getD k 0 = x at *
        generalize hy : ys.getD k 0 = y at *
        have HX := hide hx
        have HY := hide hy
        clear hx hy
        cases hxy : (x != y) with
        | true =>
          have hne : x ≠ y := by simpa using hxy
          go_wp2
          go_quiet (fail)
          go_wp2
          go_ret
          exact ⟨ret_bool (Hbad.out k (by rw [HX.out, HY.out]; exact hne)).symm, drew2 _ _ _⟩
        | false =>
          have hee : x = y := by simpa using hxy
          have Hee := hide hee
          clear hee
          go_wp2
          go_quiet (fail)
          go_wp2
          go_roundw
          case rel =>
            refine ⟨k + 1, by omega, by go_num, hide ⟨_, rfl⟩, hide fun j hj => ?_⟩
            by_cases e : j = k
            · subst e
              rw [HX.out, HY.out]; exact Hee.out
            · exact hfa.out j (by omega)
          case measure => simp [intOf]; omega
      · have hkn : k = n := by omega
        subst hkn
        go_wp2
        go_ret
        exact ⟨ret_bool (Hok.out hfa.out).symm, _, rfl⟩
  · rw [eqL_len (by omega)]
    have hne : ((n : Int) != (m : Int)) = true := by rw [bne_iff_ne]; omega
    clear hl1 hl2 he
    go_enter Try.func58, Try.ntmps58
    go_wp2
    go_ret
    exact ⟨rfl, 0, rfl⟩

set_option maxHeartbeats 800000 in
theorem iSame (A B : Option Addr) (n m c d : Nat) (xs ys : List Int) (w : World) (hr : Rd w A n (iv xs)) (hr2 : Rd w B m (iv ys)) (hn : n ≤ 1048576) (hm : m ≤ 1048576) :
    Calls Try.prog 59 #[.slice A n c, .slice B m d] w fun e w' => e = .returned (.bool (eqL xs ys)) ∧ ∃ q, w' = w.drewN q := by
  have hl1 := hr.len
  have hl2 := hr2.len
  by_cases he : n = m
  · subst he
    have hok : (∀ k, k < n → xs.getD k 0 = ys.getD k 0) → eqL xs ys = true := fun h => eqL_all (by omega) (by rw [hl1]; exact h)
    have hbad : ∀ k, xs.getD k 0 ≠ ys.getD k 0 → eqL xs ys = false := fun k h => eqL_at h
    generalize eqL xs ys = R at *
    have Hok := Lib.hid hok
    have Hbad := Lib.hid hbad
    clear hok hbad hl1 hl2
    go_enter Try.func59, Try.ntmps59
    go_wp2
    go_loopw [5, 13] (fun _ i wr => ∃ k : Nat, k ≤ n ∧ i = .int .i64 k ∧ Hid (∃ q, wr = w.drewN q) ∧ Hid (∀ j, j < k → xs.getD j 0 = ys.getD j 0)) (fun _ i _ => n - (intOf i).toNat)
    case atStart => exact ⟨0, Nat.zero_le _, rfl, hide ⟨0, rfl⟩, hide fun j hj => absurd hj (by omega)⟩
    case round =>
      obtain ⟨k, hk, rfl, hq, hfa⟩ := hrel
      obtain ⟨q, rfl⟩ := hq.out
      by_cases hlt : k < n
      · obtain ⟨ad, rfl, hbl, hc⟩ := hr.int hlt
        obtain ⟨ad2, rfl, hbl2, hc2⟩ := hr2.int hlt
        generalize hx : xs.getD k 0 = x at *
        generalize hy : ys.getD k 0 = y at *
        have HX := hide hx
        have HY := hide hy
        clear hx hy
        cases hxy : (x != y) with
        | true =>
          have hne : x ≠ y := by simpa using hxy
          go_wp2
          go_quiet (fail)
          go_wp2
          go_ret
          exact ⟨ret_bool (Hbad.out k (by rw [HX.out, HY.out]; exact hne)).symm, drew2 _ _ _⟩
        | false =>
          have hee : x = y := by simpa using hxy
          have Hee := hide hee
          clear hee
          go_wp2
          go_quiet (fail)
          go_wp2
          go_roundw
          case rel =>
            refine ⟨k + 1, by omega, by go_num, hide ⟨_, rfl⟩, hide fun j hj => ?_⟩
            by_cases e : j = k
            · subst e
              rw [HX.out, HY.out]; exact Hee.out
            · exact hfa.out j (by omega)
          case measure => simp [intOf]; omega
      · have hkn : k = n := by omega
        subst hkn
        go_wp2
        go_ret
        exact ⟨ret_bool (Hok.out hfa.out).symm, _, rfl⟩
  · rw [eqL_len (by omega)]
    have hne : ((n : Int) != (m : Int)) = true := by rw [bne_iff_ne]; omega
    clear hl1 hl2 he
    go_enter Try.func59, Try.ntmps59
    go_wp2
    go_ret
    exact ⟨rfl, 0, rfl⟩
end Go.Proofs.Ythpboedpoipkcaa
