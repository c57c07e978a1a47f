/- Contracts of the finite laws' helpers on words: r8Same, r8In, r8Power. Conditions: what is stated. -/
import Derived.Test.YtpfaefflbjpllaaAwaitP
import Derived.Test.YtpfaefflbjpllaaBelow
namespace Go.Proofs.Ytpfaefflbjpllaa
open Go.ChangeShapes Go.WideShapes Go.ChangeAt Go.RowKit

set_option maxHeartbeats 800000 in
theorem lSame (A B : Option Addr) (n m c d : Nat) (xs ys : List Int) (w : World) (hr : Rd w A n (iv xs)) (hr2 : Rd w B m (iv ys)) (hn : n ≤ 1048576) (hm : m ≤ 1048576) :
    Calls Try.prog 36 #[.slice A n c, .slice B m d] w fun e w' => e = .returned (.bool (eqL xs ys)) ∧ ∃ q, w' = w.drewN q := by
  have hl1 := hr.len
  have hl2 := hr2.len
  by_cases he : n = m
  · subst he
    have hok : (∀ k, k < n → xs.getD k 0 = ys.getD k 0) → eqL xs ys = true := fun h => eqL_all (by omega) (by rw [hl1]; exact h)
    have hbad : ∀ k, xs.getD k 0 ≠ ys.getD k 0 → eqL xs ys = false := fun k h => eqL_at h
    generalize eqL xs ys = R at *
    have Hok := Lib.hid hok
    have Hbad := Lib.hid hbad
    clear hok hbad hl1 hl2
    go_enter Try.func36, Try.ntmps36
    go_wp2
    go_loopw [5] (fun i wr => ∃ k : Nat, k ≤ n ∧ i = .int .i64 k ∧ Hid (∃ q, wr = w.drewN q) ∧ Hid (∀ j, j < k → xs.getD j 0 = ys.getD j 0)) (fun i _ => n - (intOf i).toNat)
    case atStart => exact ⟨0, Nat.zero_le _, rfl, hide ⟨0, rfl⟩, hide fun j hj => absurd hj (by omega)⟩
    case round =>
      obtain ⟨k, hk, rfl, hq, hfa⟩ := hrel
      obtain ⟨q, rfl⟩ := hq.out
      by_cases hlt : k < n
      · obtain ⟨ad, rfl, hbl, hc⟩ := hr.int hlt
        obtain ⟨ad2, rfl, hbl2, hc2⟩ := hr2.int hlt
        generalize hx : xs.getD k 0 = x at *
        generalize hy : ys.getD k 0 = y at *
        have HX := hide hx
        have HY := hide hy
        clear hx hy
        cases hxy : (x != y) with
        | true =>
          have hne : x ≠ y := by simpa using hxy
          go_wp2
          go_quiet (fail)
          go_wp2
          go_ret
          exact ⟨ret_bool (Hbad.out k (by rw [HX.out, HY.out]; exact hne)).symm, drew2 _ _ _⟩
        | false =>
          have hee : x = y := by simpa using hxy
          have Hee := hide hee
          clear hee
          go_wp2
          go_quiet (fail)
          go_wp2
          go_roundw
          case rel =>
            refine ⟨k + 1, by omega, by go_num, hide ⟨_, rfl⟩, hide fun j hj => ?_⟩
            by_cases e : j = k
            · subst e
              rw [HX.out, HY.out]; exact Hee.out
            · exact hfa.out j (by omega)
          case measure => simp [intOf]; omega
      · have hkn : k = n := by omega
        subst hkn
        go_wp2
        go_ret
        exact ⟨ret_bool (Hok.out hfa.out).symm, _, rfl⟩
  · rw [eqL_len (by omega)]
    have hne : ((n : Int) != (m : Int)) = true := by rw [bne_iff_ne]; omega
    clear hl1 hl2 he
    go_enter Try.func36, Try.ntmps36
    go_wp2
    go_ret
    exact ⟨rfl, 0, rfl⟩

set_option maxHeartbeats 800000 in
theorem lInW (v u : Value) (xs ys : List Int) (w : World) (hv : RV w v xs) (hu : RV w u ys) (hn : xs.length ≤ 1048576) (hm : ys.length ≤ 1048576) (h1 : 1 ≤ xs.length) :
    Calls Try.prog 38 #[v, u] w fun e w' => e = .returned (.bool (inW xs ys)) ∧ ∃ q, w' = w.drewN q := by
  obtain ⟨A, c, rfl, hr, hc⟩ := hv
  obtain ⟨B, d, rfl, hr2, hd⟩ := hu
  have Hyes : Hid (∀ i, i + xs.length ≤ ys.length → eqL xs ((ys.drop i).take xs.length) = true → inW xs ys = true) := hide fun i h1 h2 => inW_t h1 h2
  have Hno : Hid ((∀ i, i + xs.length ≤ ys.length → eqL xs ((ys.drop i).take xs.length) = false) → inW xs ys = false) := hide fun h => inW_f h
  generalize inW xs ys = R at *
  generalize hN : xs.length = n at *
  generalize hM : ys.length = m at *
  clear hN hM
  go_enter Try.func38, Try.ntmps38
  go_wp2
  go_loopw [5] (fun i wr => ∃ k : Nat, k ≤ m + 1 ∧ i = .int .i64 k ∧ Hid (∀ j, j < k → j + n ≤ m → eqL xs ((ys.drop j).take n) = false) ∧ Hid (∃ q, wr = w.drewN q)) (fun i _ => m + 1 - (intOf i).toNat)
  case atStart => exact ⟨0, by omega, rfl, hide fun j hj => absurd hj (by omega), hide ⟨0, rfl⟩⟩
  case round =>
    obtain ⟨k, hk, rfl, hfa, hq⟩ := hrel
    obtain ⟨q, rfl⟩ := hq.out
    by_cases hlt : k + n ≤ m
    · have hcut := hr2.part (k := k) (m := k + n) (cap := d) (by omega) hlt hd
      rw [show k + n - k = n from by omega] at hcut
      have hkd : k + n ≤ d := by omega
      have hdk : ¬ d = k := by omega
      rw [if_neg hdk] at hcut
      cases hE : eqL xs ((ys.drop k).take n) with
      | true =>
        have hR := Hyes.out k hlt hE
        have HR := hide hR
        have HE := Lib.hid (fun A' d' W h h' => lSame A A' n n c d' xs ((ys.drop k).take n) W h h' (by omega) (by omega))
        rw [hE] at HE
        clear hE hR
        go_wp2_with fail
        refine (HE.out _ _ _ (hr.drewN _) (hcut.drewN _)).mono ?_
        rintro e w' ⟨rfl, q2, rfl⟩
        go_wp2
        go_ret
        exact ⟨ret_bool HR.out.symm, _, rfl⟩
      | false =>
        have HE := Lib.hid (fun A' d' W h h' => lSame A A' n n c d' xs ((ys.drop k).take n) W h h' (by omega) (by omega))
        rw [hE] at HE
        have HEE := hide hE
        clear hE
        go_wp2_with fail
        refine (HE.out _ _ _ (hr.drewN _) (hcut.drewN _)).mono ?_
        rintro e w' ⟨rfl, q2, rfl⟩
        go_wp2
        go_roundw
        case rel =>
          refine ⟨k + 1, by omega, by go_num, hide fun j hj hjm => ?_, hide ⟨_, rfl⟩⟩
          by_cases e : j = k
          · subst e
            exact HEE.out
          · exact hfa.out j (by omega) hjm
        case measure => simp [intOf]; omega
    · have hR := Hno.out fun j hj => hfa.out j (by omega) hj
      have HR := hide hR
      clear hR
      go_wp2
      go_ret
      exact ⟨ret_bool HR.out.symm, _, rfl⟩

set_option maxHeartbeats 400000 in
theorem lPow (x n : Nat) (w : World) (hx : 1 ≤ x) (hx2 : x ≤ 4611686018427387904) (hn : n ≤ 1048576) (h : x ^ n ≤ 4611686018427387904) :
    Calls Try.prog 37 #[.int .i64 x, .int .i64 n] w fun e w' => e = .returned (.int .i64 ((x ^ n : Nat) : Int)) ∧ w = w' := by
  have Hs : Hid (∀ k, k < n → x ^ k * x ≤ 4611686018427387904 ∧ x ^ (k + 1) = x ^ k * x) := hide fun k hk => pow_step hx hk h
  clear h
  go_enter Try.func37, Try.ntmps37
  go_wp2
  go_loop [1, 5] (fun i r => ∃ k m : Nat, k + m = n ∧ i = .int .i64 m ∧ r = .int .i64 ((x ^ k : Nat) : Int)) (fun i _ => (intOf i).toNat)
  case atStart => exact ⟨0, n, by omega, rfl, rfl⟩
  case round =>
    obtain ⟨k, m, hkm, rfl, rfl⟩ := hrel
    have hm : m ≤ 1048576 := by omega
    have Hkm := hide hkm
    clear hkm hn
    by_cases h0 : 0 < m
    · obtain ⟨hb, he⟩ := Hs.out k (by have := Hkm.out; omega)
      have He := hide he
      clear he
      generalize x ^ k = p at *
      have hb2 : (p : Int) * (x : Int) ≤ 4611686018427387904 := by rw [← Int.natCast_mul]; omega
      have hb3 : (0 : Int) ≤ (p : Int) * (x : Int) := by rw [← Int.natCast_mul]; omega
      go_wp2
      go_round
      case rel => exact ⟨k + 1, m - 1, by have := Hkm.out; omega, by go_num, by rw [He.out, Int.natCast_mul]⟩
      case measure => simp [intOf]; omega
    · have hkn : k = n := by have := Hkm.out; omega
      subst hkn
      go_wp2
      go_ret
      exact ⟨rfl, rfl⟩

end Go.Proofs.Ytpfaefflbjpllaa
