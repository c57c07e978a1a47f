/- Contracts of pans and weighings, both sides. Conditions: lengths at most 2^20. -/
import Derived.Test.YtafhfcpaofgikaaNum
import Derived.Test.YtafhfcpaofgikaaVal
namespace Go.Proofs.Ytafhfcpaofgikaa
open Go.ChangeShapes Go.WideShapes Go.ChangeAt Go.RowKit

/-! ### plain -/
/-- the sum of the first k numbers from a place on, wraps and all -/
def rowSum (xs : List Int) (at0 : Nat) : Nat → Int
  | 0 => 0
  | k + 1 => wrap64 (rowSum xs at0 k + xs.getD (at0 + k) 0)
/-- one weighing is such: all from -1 to 1, and the sum is 0 -/
def rowOk (c : Nat) (xs : List Int) (at0 : Nat) : Bool := (List.range c).all (fun k => inB (xs.getD (at0 + k) 0) (-1) 1) && (rowSum xs at0 c == 0)
theorem rowOk_bad {c k : Nat} {xs : List Int} {a : Nat} (hk : k < c) (h : inB (xs.getD (a + k) 0) (-1) 1 = false) : rowOk c xs a = false := by
  have : (List.range c).all (fun k => inB (xs.getD (a + k) 0) (-1) 1) = false := by
    rw [List.all_eq_false]
    exact ⟨k, by simpa using hk, by rw [h]; simp⟩
  rw [rowOk, this, Bool.false_and]
theorem rowOk_all {c : Nat} {xs : List Int} {a : Nat} (h : ∀ k, k < c → inB (xs.getD (a + k) 0) (-1) 1 = true) : rowOk c xs a = (rowSum xs a c == 0) := by
  have : (List.range c).all (fun k => inB (xs.getD (a + k) 0) (-1) 1) = true := by
    rw [List.all_eq_true]
    intro k hk
    exact h k (by simpa using hk)
  rw [rowOk, this, Bool.true_and]
/-- all of n weighings are such -/
def rowsOk (c : Nat) (xs : List Int) (n : Nat) : Bool := (List.range n).all fun r => rowOk c xs (r * c)
theorem rowsOk_bad {c n r : Nat} {xs : List Int} (hr : r < n) (h : rowOk c xs (r * c) = false) : rowsOk c xs n = false := by
  rw [rowsOk, List.all_eq_false]
  exact ⟨r, by simpa using hr, by simp [h]⟩
theorem rowsOk_all {c n : Nat} {xs : List Int} (h : ∀ r, r < n → rowOk c xs (r * c) = true) : rowsOk c xs n = true := by
  rw [rowsOk, List.all_eq_true]
  intro r hr
  exact h r (by simpa using hr)
/-- coins and pans are such -/
def pansB (c : Int) (xs : List Int) : Bool := inB c 1 27 && (decide (xs.length % c.toNat = 0 ∧ xs.length / c.toNat ≤ 4) && rowsOk c.toNat xs (xs.length / c.toNat))
theorem pansB_c {c : Int} {xs : List Int} (h : inB c 1 27 = false) : pansB c xs = false := by simp [pansB, h]
theorem pansB_n {c : Nat} {xs : List Int} (h : ¬ (xs.length % c = 0 ∧ xs.length / c ≤ 4)) : pansB c xs = false := by
  simp only [pansB, Int.toNat_natCast, decide_eq_false h]
  simp
theorem pansB_r {c : Nat} {xs : List Int} (hc : inB c 1 27 = true) (h : xs.length % c = 0 ∧ xs.length / c ≤ 4) : pansB c xs = rowsOk c xs (xs.length / c) := by
  simp only [pansB, Int.toNat_natCast, hc, decide_eq_true h]
  simp
theorem pansB_facts {c : Int} {xs : List Int} (h : pansB c xs = true) : 1 ≤ c ∧ c ≤ 27 ∧ xs.length % c.toNat = 0 ∧ xs.length / c.toNat ≤ 4 := by
  simp only [pansB, Bool.and_eq_true, inB_iff, decide_eq_true_eq] at h
  exact ⟨h.1.1, h.1.2, h.2.1.1, h.2.1.2⟩
theorem div_lt_of {n c a : Nat} (hc : 1 ≤ c) (hm : n % c = 0) (h : a * c < n) : a < n / c ∧ a * c + c ≤ n := by
  have hn : n = n / c * c := by
    have := Nat.div_add_mod n c
    rw [hm, Nat.mul_comm] at this
    omega
  have h1 : a < n / c := by
    refine Nat.lt_of_not_le fun hle => ?_
    have : n / c * c ≤ a * c := Nat.mul_le_mul_right _ hle
    omega
  refine ⟨h1, ?_⟩
  have : (a + 1) * c ≤ n / c * c := Nat.mul_le_mul_right _ h1
  rw [Nat.add_mul] at this
  omega
theorem div_le_of {n c a : Nat} (hc : 1 ≤ c) (hm : n % c = 0) (h : ¬ a * c < n) : n / c ≤ a := by
  have hn : n = n / c * c := by
    have := Nat.div_add_mod n c
    rw [hm, Nat.mul_comm] at this
    omega
  refine Nat.le_of_not_lt fun hlt => ?_
  have : (a + 1) * c ≤ n / c * c := Nat.mul_le_mul_right _ hlt
  rw [Nat.add_mul] at this
  omega
/-- what the balance shows, of the first n weighings, if coin h (less than 0: none) is the heavy one -/
def shows (c : Nat) (xs : List Int) (h : Int) (n : Nat) : List Int := (List.range n).map fun r => if h < 0 then 0 else xs.getD (r * c + h.toNat) 0
theorem shows_len (c : Nat) (xs : List Int) (h : Int) (n : Nat) : (shows c xs h n).length = n := by simp [shows]
theorem shows_no {c : Nat} {xs : List Int} {h : Int} {n : Nat} (hh : h < 0) : shows c xs h (n + 1) = shows c xs h n ++ [0] := by simp [shows, List.range_succ, hh]
theorem shows_yes {c : Nat} {xs : List Int} {h n : Nat} : shows c xs (h : Int) (n + 1) = shows c xs (h : Int) n ++ [xs.getD (n * c + h) 0] := by
  rw [shows, List.range_succ, List.map_append, List.map_cons, List.map_nil, if_neg (by omega), Int.toNat_natCast]
  rfl

set_option maxHeartbeats 1600000 in
theorem sPans (A : Option Addr) (n cap : Nat) (xs : List Int) (c : Int) (w : World) (hr : Rd w A n (iv xs)) (hn : n ≤ 1048576) (hcap : n ≤ cap) :
    Calls Try.prog 27 #[.int .i64 c, .slice A n cap] w fun e w' => e = .returned (.bool (pansB c xs)) ∧ w = w' := by
  have hlen := hr.len
  cases hC : inB c 1 27 with
  | false =>
    rw [pansB_c hC]
    clear hlen
    go_enter Try.func27, Try.ntmps27
    go_wp2_with (go_at_call 28; refine (sIn _ _ _ _).mono ?_; rintro e w' ⟨rfl, rfl⟩)
    go_ret
    exact ⟨rfl, rfl⟩
  | true =>
    obtain ⟨h1, h2⟩ := inB_iff.1 hC
    obtain ⟨c, rfl⟩ := Int.eq_ofNat_of_zero_le (show 0 ≤ c by omega)
    by_cases hm : n % c = 0
    · have hmb : ((n : Int) % (c : Int) != 0) = false := by rw [← Int.natCast_emod, hm]; rfl
      by_cases hd : n / c ≤ 4
      · have hdb : (n : Int) / (c : Int) ≤ 4 := by rw [← Int.natCast_ediv]; omega
        have hdb0 : (0 : Int) ≤ (n : Int) / (c : Int) := by rw [← Int.natCast_ediv]; exact Int.natCast_nonneg _
        have hgood : (∀ r, r < n / c → rowOk c xs (r * c) = true) → pansB c xs = true := fun h => by rw [pansB_r hC (by rw [hlen]; exact ⟨hm, hd⟩), hlen]; exact rowsOk_all h
        have hbad : ∀ r, r < n / c → rowOk c xs (r * c) = false → pansB c xs = false := fun r h1 h2 => by rw [pansB_r hC (by rw [hlen]; exact ⟨hm, hd⟩), hlen]; exact rowsOk_bad h1 h2
        generalize pansB c xs = R at *
        have Hgood := Lib.hid hgood
        have Hbad := Lib.hid hbad
        have Hm := hide hm
        have hc1 : 1 ≤ c := by omega
        have hc27 : c ≤ 27 := by omega
        clear hgood hbad hlen hm hd h1 h2
        go_enter Try.func27, Try.ntmps27
        go_wp2_with (go_at_call 28; refine (sIn _ _ _ _).mono ?_; rintro e w' ⟨rfl, rfl⟩)
        go_loop [6] (fun i => ∃ r t : Nat, t ≤ n ∧ i = .int .i64 t ∧ Hid (t = r * c) ∧ Hid (∀ j, j < r → rowOk c xs (j * c) = true)) (fun i => n - (intOf i).toNat)
        case atStart => exact ⟨0, 0, Nat.zero_le _, rfl, hide (by simp), hide fun j hj => absurd hj (by omega)⟩
        case round =>
          clear hmb hdb hdb0
          obtain ⟨r, t, ht, rfl, hT, hfa⟩ := hrel
          by_cases hlt : t < n
          · obtain ⟨hr1, hr2⟩ := div_lt_of (a := r) hc1 Hm.out (by rw [← hT.out]; exact hlt)
            have htc : t + c ≤ n := by have := hT.out; omega
            have Hr1 := hide hr1
            clear hr1 hr2
            obtain ⟨ad, rfl, hbl, _⟩ := hr.int hlt
            have hcapt : ¬ cap = t := by omega
            have htcap : t + c ≤ cap := by omega
            go_wp2
            go_loop [7, 8] (fun s i => ∃ k : Nat, k ≤ c ∧ i = .int .i64 k ∧ s = .int .i64 (rowSum xs t k) ∧ Hid (∀ j, j < k → inB (xs.getD (t + j) 0) (-1) 1 = true)) (fun _ i => c - (intOf i).toNat)
            case atStart => exact ⟨0, Nat.zero_le _, rfl, rfl, hide fun j hj => absurd hj (by omega)⟩
            case round =>
              obtain ⟨k, hk, rfl, rfl, hin⟩ := hrel
              by_cases hkc : k < c
              · obtain ⟨ad', e', _, hcell⟩ := hr.int (k := t + k) (by omega)
                injection e' with e'
                subst e'
                
                have Hs : Hid (rowSum xs t (k + 1) = wrap64 (rowSum xs t k + xs.getD (t + k) 0)) := hide rfl
                generalize rowSum xs t k = s at *
                generalize hy : xs.getD (t + k) 0 = y at *
                have HY := hide hy
                clear hy
                cases hq : inB y (-1) 1 with
                | false =>
                  go_wp2_with (go_at_call 28; refine (sIn _ _ _ _).mono ?_; rintro e w' ⟨rfl, rfl⟩)
                  go_ret
                  refine ⟨ret_bool (Hbad.out r Hr1.out ?_).symm, rfl⟩
                  rw [← hT.out]
                  exact rowOk_bad hkc (by rw [HY.out]; exact hq)
                | true =>
                  go_wp2_with (go_at_call 28; refine (sIn _ _ _ _).mono ?_; rintro e w' ⟨rfl, rfl⟩)
                  go_round
                  case rel =>
                    refine ⟨k + 1, by omega, by go_num, by rw [Hs.out], hide fun j hj => ?_⟩
                    by_cases e : j = k
                    · subst e
                      rw [HY.out]; exact hq
                    · exact hin.out j (by omega)
                  case measure => simp [intOf]; omega
              · have hkn : k = c := by omega
                subst hkn
                have hro := rowOk_all hin.out
                rw [hT.out] at hro
                have hro' : rowOk k xs (r * k) = (rowSum xs t k == 0) := by rw [hro, hT.out]
                clear hro
                generalize rowSum xs t k = s at *
                cases hq : (s == 0) with
                | true =>
                  rw [hq] at hro'
                  have Hro := hide hro'
                  have hqn : (s != 0) = false := by simpa using hq
                  clear hro' hq
                  go_wp2
                  go_round
                  case rel =>
                    refine ⟨r + 1, t + k, by omega, by go_num, hide (by rw [hT.out, Nat.add_mul]; omega), hide fun j hj => ?_⟩
                    by_cases e : j = r
                    · subst e
                      exact Hro.out
                    · exact hfa.out j (by omega)
                  case measure => simp [intOf]; omega
                | false =>
                  rw [hq] at hro'
                  have Hro := hide hro'
                  have hqn : (s != 0) = true := by simpa using hq
                  clear hro' hq
                  go_wp2
                  go_ret
                  exact ⟨ret_bool (Hbad.out r Hr1.out Hro.out).symm, rfl⟩
          · have hle := div_le_of (a := r) hc1 Hm.out (by rw [← hT.out]; exact hlt)
            have Hle := hide hle
            clear hle
            go_wp2
            go_ret
            exact ⟨ret_bool (Hgood.out fun j hj => hfa.out j (by have := Hle.out; omega)).symm, rfl⟩
      · have hdb : (4 : Int) < (n : Int) / (c : Int) := by rw [← Int.natCast_ediv]; omega
        have hdb2 : (n : Int) / (c : Int) ≤ 1048576 := by rw [← Int.natCast_ediv]; have := Nat.div_le_self n c; omega
        rw [pansB_n (by rw [hlen]; exact fun h => hd h.2)]
        clear hlen hd hm
        go_enter Try.func27, Try.ntmps27
        go_wp2_with (go_at_call 28; refine (sIn _ _ _ _).mono ?_; rintro e w' ⟨rfl, rfl⟩)
        go_ret
        exact ⟨rfl, rfl⟩
    · have hmb : ((n : Int) % (c : Int) != 0) = true := by rw [← Int.natCast_emod]; generalize n % c = z at *; rw [bne_iff_ne]; omega
      rw [pansB_n (by rw [hlen]; exact fun h => hm h.1)]
      clear hlen hm
      go_enter Try.func27, Try.ntmps27
      go_wp2_with (go_at_call 28; refine (sIn _ _ _ _).mono ?_; rintro e w' ⟨rfl, rfl⟩)
      go_ret
      exact ⟨rfl, rfl⟩

set_option maxHeartbeats 1600000 in
theorem iPans (A : Option Addr) (n cap : Nat) (xs : List Int) (c : Int) (w : World) (hr : Rd w A n (iv xs)) (hn : n ≤ 1048576) (hcap : n ≤ cap) :
    Calls Try.prog 30 #[.int .i64 c, .slice A n cap] w fun e w' => e = .returned (.bool (pansB c xs)) ∧ w = w' := by
  have hlen := hr.len
  cases hC : inB c 1 27 with
  | false =>
    rw [pansB_c hC]
    clear hlen
    go_enter Try.func30, Try.ntmps30
    go_wp2_with (go_at_call 31; refine (iIn _ _ _ _).mono ?_; rintro e w' ⟨rfl, rfl⟩)
    go_ret
    exact ⟨rfl, rfl⟩
  | true =>
    obtain ⟨h1, h2⟩ := inB_iff.1 hC
    obtain ⟨c, rfl⟩ := Int.eq_ofNat_of_zero_le (show 0 ≤ c by omega)
    by_cases hm : n % c = 0
    · have hmb : ((n : Int) % (c : Int) != 0) = false := by rw [← Int.natCast_emod, hm]; rfl
      by_cases hd : n / c ≤ 4
      · have hdb : (n : Int) / (c : Int) ≤ 4 := by rw [← Int.natCast_ediv]; omega
        have hdb0 : (0 : Int) ≤ (n : Int) / (c : Int) := by rw [← Int.natCast_ediv]; exact Int.natCast_nonneg _
        have hgood : (∀ r, r < n / c → rowOk c xs (r * c) = true) → pansB c xs = true := fun h => by rw [pansB_r hC (by rw [hlen]; exact ⟨hm, hd⟩), hlen]; exact rowsOk_all h
        have hbad : ∀ r, r < n / c → rowOk c xs (r * c) = false → pansB c xs = false := fun r h1 h2 => by rw [pansB_r hC (by rw [hlen]; exact ⟨hm, hd⟩), hlen]; exact rowsOk_bad h1 h2
        generalize pansB c xs = R at *
        have Hgood := Lib.hid hgood
        have Hbad := Lib.hid hbad
        have Hm := hide hm
        have hc1 : 1 ≤ c := by omega
        have hc27 : c ≤ 27 := by omega
        clear hgood hbad hlen hm hd h1 h2
        go_enter Try.func30, Try.ntmps30
        go_wp2_with (go_at_call 31; refine (iIn _ _ _ _).mono ?_; rintro e w' ⟨rfl, rfl⟩)
        go_loop [5] (fun i => ∃ r t : Nat, t ≤ n ∧ i = .int .i64 t ∧ Hid (t = r * c) ∧ Hid (∀ j, j < r → rowOk c xs (j * c) = true)) (fun i => n - (intOf i).toNat)
        case atStart => exact ⟨0, 0, Nat.zero_le _, rfl, hide (by simp), hide fun j hj => absurd hj (by omega)⟩
        case round =>
          clear hmb hdb hdb0
          obtain ⟨r, t, ht, rfl, hT, hfa⟩ := hrel
          by_cases hlt : t < n
          · obtain ⟨hr1, hr2⟩ := div_lt_of (a := r) hc1 Hm.out (by rw [← hT.out]; exact hlt)
            have htc : t + c ≤ n := by have := hT.out; omega
            have Hr1 := hide hr1
            clear hr1 hr2
            obtain ⟨ad, rfl, hbl, _⟩ := hr.int hlt
            have hcapt : ¬ cap = t := by omega
            have htcap : t + c ≤ cap := by omega
            go_wp2
            go_loop [6, 8, 40] (fun s _ i => ∃ k : Nat, k ≤ c ∧ i = .int .i64 k ∧ s = .int .i64 (rowSum xs t k) ∧ Hid (∀ j, j < k → inB (xs.getD (t + j) 0) (-1) 1 = true)) (fun _ _ i => c - (intOf i).toNat)
            case atStart => exact ⟨0, Nat.zero_le _, rfl, rfl, hide fun j hj => absurd hj (by omega)⟩
            case round =>
              obtain ⟨k, hk, rfl, rfl, hin⟩ := hrel
              by_cases hkc : k < c
              · obtain ⟨ad', e', _, hcell⟩ := hr.int (k := t + k) (by omega)
                injection e' with e'
                subst e'
                rw [← add_add'] at hcell
                have Hs : Hid (rowSum xs t (k + 1) = wrap64 (rowSum xs t k + xs.getD (t + k) 0)) := hide rfl
                generalize rowSum xs t k = s at *
                generalize hy : xs.getD (t + k) 0 = y at *
                have HY := hide hy
                clear hy
                cases hq : inB y (-1) 1 with
                | false =>
                  go_wp2_with (go_at_call 31; refine (iIn _ _ _ _).mono ?_; rintro e w' ⟨rfl, rfl⟩)
                  go_ret
                  refine ⟨ret_bool (Hbad.out r Hr1.out ?_).symm, rfl⟩
                  rw [← hT.out]
                  exact rowOk_bad hkc (by rw [HY.out]; exact hq)
                | true =>
                  go_wp2_with (go_at_call 31; refine (iIn _ _ _ _).mono ?_; rintro e w' ⟨rfl, rfl⟩)
                  go_round
                  case rel =>
                    refine ⟨k + 1, by omega, by go_num, by rw [Hs.out], hide fun j hj => ?_⟩
                    by_cases e : j = k
                    · subst e
                      rw [HY.out]; exact hq
                    · exact hin.out j (by omega)
                  case measure => simp [intOf]; omega
              · have hkn : k = c := by omega
                subst hkn
                have hro := rowOk_all hin.out
                rw [hT.out] at hro
                have hro' : rowOk k xs (r * k) = (rowSum xs t k == 0) := by rw [hro, hT.out]
                clear hro
                generalize rowSum xs t k = s at *
                cases hq : (s == 0) with
                | true =>
                  rw [hq] at hro'
                  have Hro := hide hro'
                  have hqn : (s != 0) = false := by simpa using hq
                  clear hro' hq
                  go_wp2
                  go_round
                  case rel =>
                    refine ⟨r + 1, t + k, by omega, by go_num, hide (by rw [hT.out, Nat.add_mul]; omega), hide fun j hj => ?_⟩
                    by_cases e : j = r
                    · subst e
                      exact Hro.out
                    · exact hfa.out j (by omega)
                  case measure => simp [intOf]; omega
                | false =>
                  rw [hq] at hro'
                  have Hro := hide hro'
                  have hqn : (s != 0) = true := by simpa using hq
                  clear hro' hq
                  go_wp2
                  go_ret
                  exact ⟨ret_bool (Hbad.out r Hr1.out Hro.out).symm, rfl⟩
          · have hle := div_le_of (a := r) hc1 Hm.out (by rw [← hT.out]; exact hlt)
            have Hle := hide hle
            clear hle
            go_wp2
            go_ret
            exact ⟨ret_bool (Hgood.out fun j hj => hfa.out j (by have := Hle.out; omega)).symm, rfl⟩
      · have hdb : (4 : Int) < (n : Int) / (c : Int) := by rw [← Int.natCast_ediv]; omega
        have hdb2 : (n : Int) / (c : Int) ≤ 1048576 := by rw [← Int.natCast_ediv]; have := Nat.div_le_self n c; omega
        rw [pansB_n (by rw [hlen]; exact fun h => hd h.2)]
        clear hlen hd hm
        go_enter Try.func30, Try.ntmps30
        go_wp2_with (go_at_call 31; refine (iIn _ _ _ _).mono ?_; rintro e w' ⟨rfl, rfl⟩)
        go_ret
        exact ⟨rfl, rfl⟩
    · have hmb : ((n : Int) % (c : Int) != 0) = true := by rw [← Int.natCast_emod]; generalize n % c = z at *; rw [bne_iff_ne]; omega
      rw [pansB_n (by rw [hlen]; exact fun h => hm h.1)]
      clear hlen hm
      go_enter Try.func30, Try.ntmps30
      go_wp2_with (go_at_call 31; refine (iIn _ _ _ _).mono ?_; rintro e w' ⟨rfl, rfl⟩)
      go_ret
      exact ⟨rfl, rfl⟩

set_option maxHeartbeats 1600000 in
theorem sWeigh (A : Option Addr) (n cap c : Nat) (h : Int) (xs : List Int) (w : World) (hr : Rd w A n (iv xs)) (hn : n ≤ 1048576) (hcap : n ≤ cap) (hc1 : 1 ≤ c) (hc27 : c ≤ 27) (hm : n % c = 0) (hh : -1 ≤ h) (hhc : h < c) :
    Calls Try.prog 29 #[.int .i64 c, .slice A n cap, .int .i64 h] w fun e w' => ∃ r, e = .returned r ∧ Own w' w.heap.size w'.heap.size r (shows c xs h (n / c)) ∧ Below w.heap.size w w' := by
  have Hm := hide hm
  clear hm
  go_enter Try.func29, Try.ntmps29
  go_wp2
  go_loopw [7, 8, 9] (fun r i _ wr => ∃ k t : Nat, t ≤ n ∧ i = .int .i64 t ∧ Hid (t = k * c) ∧ k ≤ n / c ∧ OwnL wr w.heap.size r (shows c xs h k) ∧ Below w.heap.size w wr) (fun _ i _ _ => n - (intOf i).toNat)
  case atStart => exact ⟨0, 0, Nat.zero_le _, rfl, hide (by simp), Nat.zero_le _, OwnL.empty _ _ rfl (Nat.le_refl _), (Below.refl _ _).alloc (Nat.le_refl _) _⟩
  case round =>
    obtain ⟨k, t, ht, rfl, hT, hkn, ho, hb⟩ := hrel
    by_cases hlt : t < n
    · obtain ⟨hr1, hr2⟩ := div_lt_of (a := k) hc1 Hm.out (by rw [← hT.out]; exact hlt)
      have htc : t + c ≤ n := by have := hT.out; omega
      have Hr1 := hide hr1
      have hl0 : (shows c xs h k).length ≤ 1048576 := by rw [shows_len]; have := Nat.div_le_self n c; omega
      have Hl0 := hide hl0
      have hz := hb.size
      clear hr1 hr2 hl0
      by_cases hneg : h < 0
      · have Hs := hide (shows_no (c := c) (xs := xs) (n := k) hneg)
        go_wp2_with (at_builtin; refine app1 ho Hl0.out (by omega) rfl rfl rfl rfl ?_; intro v' w3 ho3 hg3)
        go_roundw
        case rel => exact ⟨k + 1, t + c, by omega, by go_num, hide (by rw [hT.out, Nat.add_mul]; omega), Hr1.out, by rw [Hs.out]; exact ho3, hb.grown hg3 (by omega) (fun j hj => (ho.lt j hj).1)⟩
        case measure => simp [intOf]; omega
      · obtain ⟨h, rfl⟩ := Int.eq_ofNat_of_zero_le (show 0 ≤ h by omega)
        obtain ⟨ad, rfl, hbl, hcell⟩ := (hr.below hb).int (k := t + h) (by omega)
        have Hs := hide (shows_yes (c := c) (xs := xs) (h := h) (n := k))
        have Hy : Hid (xs.getD (k * c + h) 0 = xs.getD (t + h) 0) := hide (by rw [hT.out])
        generalize xs.getD (t + h) 0 = y at *
        go_wp2_with (at_builtin; refine app1 ho Hl0.out (by omega) rfl rfl rfl rfl ?_; intro v' w3 ho3 hg3)
        go_roundw
        case rel => exact ⟨k + 1, t + c, by omega, by go_num, hide (by rw [hT.out, Nat.add_mul]; omega), Hr1.out, by rw [Hs.out, Hy.out]; exact ho3, hb.grown hg3 (by omega) (fun j hj => (ho.lt j hj).1)⟩
        case measure => simp [intOf]; omega
    · have hle := div_le_of (a := k) hc1 Hm.out (by rw [← hT.out]; exact hlt)
      have hke : k = n / c := by omega
      rw [hke] at ho
      clear hle hke hkn
      go_wp2
      go_ret
      exact ⟨_, rfl, ho.own, hb⟩

set_option maxHeartbeats 1600000 in
theorem iWeigh (A : Option Addr) (n cap c : Nat) (h : Int) (xs : List Int) (w : World) (hr : Rd w A n (iv xs)) (hn : n ≤ 1048576) (hcap : n ≤ cap) (hc1 : 1 ≤ c) (hc27 : c ≤ 27) (hm : n % c = 0) (hh : -1 ≤ h) (hhc : h < c) :
    Calls Try.prog 32 #[.int .i64 c, .slice A n cap, .int .i64 h] w fun e w' => ∃ r, e = .returned r ∧ Own w' w.heap.size w'.heap.size r (shows c xs h (n / c)) ∧ Below w.heap.size w w' := by
  have Hm := hide hm
  clear hm
  go_enter Try.func32, Try.ntmps32
  go_wp2
  go_loopw [7, 8] (fun r i wr => ∃ k t : Nat, t ≤ n ∧ i = .int .i64 t ∧ Hid (t = k * c) ∧ k ≤ n / c ∧ OwnL wr w.heap.size r (shows c xs h k) ∧ Below w.heap.size w wr) (fun _ i _ => n - (intOf i).toNat)
  case atStart => exact ⟨0, 0, Nat.zero_le _, rfl, hide (by simp), Nat.zero_le _, OwnL.empty _ _ rfl (Nat.le_refl _), (Below.refl _ _).alloc (Nat.le_refl _) _⟩
  case round =>
    obtain ⟨k, t, ht, rfl, hT, hkn, ho, hb⟩ := hrel
    by_cases hlt : t < n
    · obtain ⟨hr1, hr2⟩ := div_lt_of (a := k) hc1 Hm.out (by rw [← hT.out]; exact hlt)
      have htc : t + c ≤ n := by have := hT.out; omega
      have Hr1 := hide hr1
      have hl0 : (shows c xs h k).length ≤ 1048576 := by rw [shows_len]; have := Nat.div_le_self n c; omega
      have Hl0 := hide hl0
      have hz := hb.size
      clear hr1 hr2 hl0
      by_cases hneg : h < 0
      · have Hs := hide (shows_no (c := c) (xs := xs) (n := k) hneg)
        go_wp2_with (at_builtin; refine app1 ho Hl0.out (by omega) rfl rfl rfl rfl ?_; intro v' w3 ho3 hg3)
        go_roundw
        case rel => exact ⟨k + 1, t + c, by omega, by go_num, hide (by rw [hT.out, Nat.add_mul]; omega), Hr1.out, by rw [Hs.out]; exact ho3, hb.grown hg3 (by omega) (fun j hj => (ho.lt j hj).1)⟩
        case measure => simp [intOf]; omega
      · obtain ⟨h, rfl⟩ := Int.eq_ofNat_of_zero_le (show 0 ≤ h by omega)
        obtain ⟨ad, rfl, hbl, hcell⟩ := (hr.below hb).int (k := t + h) (by omega)
        have Hs := hide (shows_yes (c := c) (xs := xs) (h := h) (n := k))
        have Hy : Hid (xs.getD (k * c + h) 0 = xs.getD (t + h) 0) := hide (by rw [hT.out])
        generalize xs.getD (t + h) 0 = y at *
        go_wp2_with (at_builtin; refine app1 ho Hl0.out (by omega) rfl rfl rfl rfl ?_; intro v' w3 ho3 hg3)
        go_roundw
        case rel => exact ⟨k + 1, t + c, by omega, by go_num, hide (by rw [hT.out, Nat.add_mul]; omega), Hr1.out, by rw [Hs.out, Hy.out]; exact ho3, hb.grown hg3 (by omega) (fun j hj => (ho.lt j hj).1)⟩
        case measure => simp [intOf]; omega
    · have hle := div_le_of (a := k) hc1 Hm.out (by rw [← hT.out]; exact hlt)
      have hke : k = n / c := by omega
      rw [hke] at ho
      clear hle hke hkn
      go_wp2
      go_ret
      exact ⟨_, rfl, ho.own, hb⟩
end Go.Proofs.Ytafhfcpaofgikaa
