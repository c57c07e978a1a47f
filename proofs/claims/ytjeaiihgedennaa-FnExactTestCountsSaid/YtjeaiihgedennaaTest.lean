/- Contracts of TestCounts, both sides. Conditions: lengths at most 2^20. -/
import Derived.Test.YtjeaiihgedennaaShare
import Derived.Test.YtjeaiihgedennaaDue
import Derived.Test.YtjeaiihgedennaaIs3
import Derived.Test.YtjeaiihgedennaaNum
namespace Go.Proofs.Ytjeaiihgedennaa
open Go.ChangeShapes Go.WideShapes Go.ChangeAt Go.RowKit

theorem fin_zero0 : finO (some 0) = true := by decide +kernel
def smTo (xs : List Int) : Nat → Int
  | 0 => 0
  | k + 1 => smTo xs k + xs.getD k 0
def badT (xs ys : List Int) (k : Nat) : Bool := !inB (xs.getD k 0) 0 1000000 || !inB (ys.getD k 0) 1 1000
def anyT (xs ys : List Int) : Bool := (List.range xs.length).any (badT xs ys)
def dueT (a y w : Int) : Option Nat := oF .quo .f32 (some (floatOfInt .f32 (IntKind.i64.wrap (a * y)))) (some (floatOfInt .f32 w))
def stepT (s : Option Nat) (x : Int) (due : Option Nat) : Option Nat :=
  oF .add .f32 s (oF .quo .f32 (oF .mul .f32 (oF .sub .f32 (some (floatOfInt .f32 x)) due) (oF .sub .f32 (some (floatOfInt .f32 x)) due)) due)
def accT (xs ys : List Int) (a w : Int) : Nat → Option Nat
  | 0 => some 0
  | k + 1 => stepT (accT xs ys a w k) (xs.getD k 0) (dueT a (ys.getD k 0) w)
def RTest (xs ys : List Int) : Nat × Bool :=
  if 2 ≤ xs.length ∧ xs.length ≤ 64 ∧ ys.length = xs.length ∧ anyT xs ys = false ∧ smTo xs xs.length ≠ 0 then chkO (accT xs ys (smTo xs xs.length) (smTo ys xs.length) xs.length) else (0, false)
theorem anyT_t {xs ys : List Int} {k : Nat} (hk : k < xs.length) (h : badT xs ys k = true) : anyT xs ys = true := by
  rw [anyT, List.any_eq_true]
  exact ⟨k, by simpa using hk, h⟩
theorem anyT_f {xs ys : List Int} (h : ∀ k, k < xs.length → badT xs ys k = false) : anyT xs ys = false := by
  rw [anyT, List.any_eq_false]
  intro x hx
  rw [h x (by simpa using hx)]
  simp
theorem sm_x {xs ys : List Int} {k : Nat} (h : ∀ j, j < k → badT xs ys j = false) : 0 ≤ smTo xs k ∧ smTo xs k ≤ 1000000 * k := by
  induction k with
  | zero => simp [smTo]
  | succ k ih =>
    have h1 := ih fun j hj => h j (by omega)
    have h2 := h k (by omega)
    simp only [badT, Bool.or_eq_false_iff, Bool.not_eq_false', inB_iff] at h2
    simp only [smTo]
    omega
theorem sm_y {xs ys : List Int} {k : Nat} (h : ∀ j, j < k → badT xs ys j = false) : (k : Int) ≤ smTo ys k ∧ smTo ys k ≤ 1000 * k := by
  induction k with
  | zero => simp [smTo]
  | succ k ih =>
    have h1 := ih fun j hj => h j (by omega)
    have h2 := h k (by omega)
    simp only [badT, Bool.or_eq_false_iff, Bool.not_eq_false', inB_iff] at h2
    simp only [smTo]
    omega

set_option maxHeartbeats 400000 in
theorem sSum (A : Option Addr) (n c : Nat) (xs : List Int) (w : World) (hr : Rd w A n (iv xs)) (hn : n ≤ 64) (hb : ∀ k, k ≤ n → 0 ≤ smTo xs k ∧ smTo xs k ≤ 64000000) :
    Calls Try.prog 53 #[.slice A n c] w fun e w' => e = .returned (.int .i64 (smTo xs n)) ∧ w = w' := by
  have HB := hide hb
  clear hb
  have Hst : Hid (∀ k, smTo xs (k + 1) = smTo xs k + xs.getD k 0) := hide fun k => rfl
  have H0 : Hid (smTo xs 0 = 0) := hide rfl
  go_enter Try.func53, Try.ntmps53
  go_wp2
  go_loop [3, 4, 7] (fun s _ i => ∃ k : Nat, k ≤ n ∧ i = .int .i64 k ∧ s = .int .i64 (smTo xs k)) (fun _ _ i => n - (intOf i).toNat)
  case atStart => exact ⟨0, Nat.zero_le _, rfl, by rw [H0.out]⟩
  case round =>
    obtain ⟨k, hk, rfl, rfl⟩ := hrel
    by_cases hlt : k < n
    · obtain ⟨ad, rfl, hbl, hc⟩ := hr.int hlt
      have Hs := Hst.out k
      have b1 := HB.out k hk
      have b2 := HB.out (k + 1) (by omega)
      rw [Hs] at b2
      have Hs2 := hide Hs
      clear Hs
      generalize smTo xs k = s at *
      generalize xs.getD k 0 = x at *
      go_wp2
      go_round
      case rel => exact ⟨k + 1, by omega, by go_num, by rw [Hs2.out]⟩
      case measure => simp [intOf]; omega
    · have hkn : k = n := by omega
      subst hkn
      go_wp2
      go_ret
      exact ⟨rfl, rfl⟩
attribute [local go_sem] run_fadd run_fsub run_fmul run_fquo
theorem rep_step {s due : Option Nat} {x : Int} {b d : Nat} (hs : Rep .f32 s b) (hd : Rep .f32 due d) (W1 W2 W3 W4 : World) :
    Rep .f32 (stepT s x due) (fV .add .f32 b (fV .quo .f32 (fV .mul .f32 (fV .sub .f32 (floatOfInt .f32 x) d W1) (fV .sub .f32 (floatOfInt .f32 x) d W1) W2) d W3) W4) :=
  rep_f hs (rep_f (rep_f (rep_f (rep_self _ _) hd _) (rep_f (rep_self _ _) hd _) _) hd _) _

set_option maxRecDepth 100000 in
set_option maxHeartbeats 3200000 in
theorem iTest (A B : Option Addr) (n m c d : Nat) (xs ys : List Int) (w : World) (hr : Rd w A n (iv xs)) (hr2 : Rd w B m (iv ys)) (hn : n ≤ 1048576) (hm : m ≤ 1048576) :
    Calls Try.prog 26 #[.slice A n c, .slice B m d] w fun e w' => e = .returned (.tuple #[.float .f32 (RTest xs ys).1, .bool (RTest xs ys).2]) ∧ ∃ q, w' = w.drewN q := by
  have hlx := hr.len
  have hly := hr2.len
  by_cases hg : 2 ≤ n ∧ n ≤ 64 ∧ m = n
  · obtain ⟨h2, h64, rfl⟩ := hg
    have Hbad : Hid (∀ k, k < m → badT xs ys k = true → RTest xs ys = (0, false)) := hide fun k hk h => by rw [RTest, if_neg]; rw [anyT_t (by omega) h]; simp
    have Hz : Hid ((∀ k, k < m → badT xs ys k = false) → smTo xs m = 0 → RTest xs ys = (0, false)) := hide fun h hz => by rw [RTest, if_neg]; rw [hlx, hz]; simp
    have Hok : Hid ((∀ k, k < m → badT xs ys k = false) → smTo xs m ≠ 0 → RTest xs ys = chkO (accT xs ys (smTo xs m) (smTo ys m) m)) := hide fun h hz => by
      rw [RTest, hlx, if_pos ⟨h2, h64, hly, anyT_f (by rw [hlx]; exact h), hz⟩]
    generalize RTest xs ys = R at *
    have d1 : decide ((m : Int) < 2) = false := decide_eq_false (by omega)
    have d2 : decide (64 < (m : Int)) = false := decide_eq_false (by omega)
    have Hstx : Hid (∀ k, smTo xs (k + 1) = smTo xs k + xs.getD k 0) := hide fun k => rfl
    have Hsty : Hid (∀ k, smTo ys (k + 1) = smTo ys k + ys.getD k 0) := hide fun k => rfl
    have H0 : Hid (smTo xs 0 = 0 ∧ smTo ys 0 = 0) := hide ⟨rfl, rfl⟩
    clear hlx hly hn hm
    go_enter Try.func26, Try.ntmps26
    go_wp2
    go_loop [7, 8, 9, 10, 32] (fun al we _ _ i => ∃ k : Nat, k ≤ m ∧ i = .int .i64 k ∧ Hid (∀ j, j < k → badT xs ys j = false) ∧ al = .int .i64 (smTo xs k) ∧ we = .int .i64 (smTo ys k)) (fun _ _ _ _ i => m - (intOf i).toNat)
    case atStart => exact ⟨0, Nat.zero_le _, rfl, hide fun j hj => absurd hj (by omega), by rw [H0.out.1], by rw [H0.out.2]⟩
    case round =>
      obtain ⟨k, hk, rfl, hfa, rfl, rfl⟩ := hrel
      by_cases hlt : k < m
      · obtain ⟨ad, rfl, hbl, hc⟩ := hr.int hlt
        obtain ⟨ad2, rfl, hbl2, hc2⟩ := hr2.int hlt
        have HB := hide (Hbad.out k hlt)
        have HD : Hid (badT xs ys k = (!inB (xs.getD k 0) 0 1000000 || !inB (ys.getD k 0) 1 1000)) := hide rfl
        have Hx := hide (Hstx.out k)
        have Hy := hide (Hsty.out k)
        have bx := sm_x hfa.out
        have by' := sm_y hfa.out
        have HX := Lib.hid (fun V => iIn (xs.getD k 0) 0 1000000 V)
        have HY := Lib.hid (fun V => iIn (ys.getD k 0) 1 1000 V)
        cases h1 : inB (xs.getD k 0) 0 1000000 with
        | false =>
          have HR := hide (HB.out (by rw [HD.out, h1]; rfl))
          rw [h1] at HX
          clear bx by' HY HB HD Hx Hy Hbad Hok Hz Hstx Hsty
          generalize smTo xs k = s at *
          generalize smTo ys k = t at *
          generalize xs.getD k 0 = x at *
          generalize ys.getD k 0 = y at *
          go_wp2_with (go_at_call 54; refine (HX.out _).mono ?_; rintro e w' ⟨rfl, rfl⟩)
          go_ret2
          exact ⟨by rw [HR.out]; rfl, 0, rfl⟩
        | true =>
          rw [h1] at HX
          cases h3 : inB (ys.getD k 0) 1 1000 with
          | false =>
            have HR := hide (HB.out (by rw [HD.out, h3]; simp))
            rw [h3] at HY
            clear bx by' HB HD Hx Hy Hbad Hok Hz Hstx Hsty
            generalize smTo xs k = s at *
            generalize smTo ys k = t at *
            generalize xs.getD k 0 = x at *
            generalize ys.getD k 0 = y at *
            go_wp2_with (first | (go_at_call 54; with_reducible refine (HX.out _).mono ?_; rintro e w' ⟨rfl, rfl⟩) | (go_at_call 54; with_reducible refine (HY.out _).mono ?_; rintro e w' ⟨rfl, rfl⟩))
            go_ret2
            exact ⟨by rw [HR.out]; rfl, 0, rfl⟩
          | true =>
            rw [h3] at HY
            have HD2 : Hid (badT xs ys k = false) := hide (by rw [HD.out, h1, h3]; rfl)
            have Hg : Hid (∀ j, j < k + 1 → badT xs ys j = false) := hide fun j hj => by
              by_cases e : j = k
              · subst e; exact HD2.out
              · exact hfa.out j (by omega)
            rw [inB_iff] at h1 h3
            clear HB HD Hbad Hok Hz Hstx Hsty
            generalize smTo xs k = s at *
            generalize smTo ys k = t at *
            generalize xs.getD k 0 = x at *
            generalize ys.getD k 0 = y at *
            go_wp2_with (first | (go_at_call 54; with_reducible refine (HX.out _).mono ?_; rintro e w' ⟨rfl, rfl⟩) | (go_at_call 54; with_reducible refine (HY.out _).mono ?_; rintro e w' ⟨rfl, rfl⟩))
            go_round
            case rel => exact ⟨k + 1, by omega, by go_num, Hg, by rw [Hx.out], by rw [Hy.out]⟩
            case measure => simp [intOf]; omega
      · have hkm : k = m := by omega
        subst hkm
        have bx := sm_x hfa.out
        have by' := sm_y hfa.out
        have Hz2 := hide (Hz.out hfa.out)
        have Hok2 := hide (Hok.out hfa.out)
        have Hybd : Hid (∀ j, j ≤ k → 0 ≤ smTo ys j ∧ smTo ys j ≤ 64000000) := hide fun j hj => by have := sm_y (k := j) (fun i hi => hfa.out i (by omega)); omega
        have Hxbd : Hid (∀ j, j ≤ k → 0 ≤ smTo xs j ∧ smTo xs j ≤ 64000000) := hide fun j hj => by have := sm_x (k := j) (fun i hi => hfa.out i (by omega)); omega
        have Hyr : Hid (∀ j, j < k → 1 ≤ ys.getD j 0 ∧ ys.getD j 0 ≤ 1000) := hide fun j hj => by
          have := hfa.out j hj
          simp only [badT, Bool.or_eq_false_iff, Bool.not_eq_false', inB_iff] at this
          exact this.2
        clear Hbad Hok Hz Hstx Hsty H0
        obtain ⟨a, Ha⟩ : ∃ a, Hid (smTo xs k = a) := ⟨_, hide rfl⟩
        obtain ⟨t, Ht⟩ : ∃ t, Hid (smTo ys k = t) := ⟨_, hide rfl⟩
        rw [Ha.out] at Hz2 Hok2 bx ⊢
        rw [Ht.out] at Hok2 by' ⊢
        by_cases hz : a = 0
        · have HR := hide (Hz2.out hz)
          subst hz
          go_wp2
          go_ret2
          exact ⟨by rw [HR.out]; rfl, 0, rfl⟩
        · have HR := hide (Hok2.out hz)
          have Hacc0 : Hid (accT xs ys a t 0 = some 0) := hide rfl
          have Hacc : Hid (∀ j, accT xs ys a t (j + 1) = stepT (accT xs ys a t j) (xs.getD j 0) (dueT a (ys.getD j 0) t)) := hide fun _ => rfl
          have dz : decide (a = 0) = false := decide_eq_false hz
          have ht1 : 1 ≤ t := by omega
          have ht2 : t < 16777216 := by omega
          generalize accT xs ys a t = G at *
          clear Hz2 Hok2 hfa Hybd Hxbd
          go_wp2
          go_loopw [11, 12, 13, 14, 15, 62] (fun s _ _ _ _ i wr => ∃ (j q : Nat) (b : Nat), j ≤ k ∧ i = .int .i64 j ∧ s = .float .f32 b ∧ Hid (Rep .f32 (G j) b) ∧ wr = w.drewN q) (fun _ _ _ _ _ i _ => k - (intOf i).toNat)
          case atStart => exact ⟨0, 0, 0, Nat.zero_le _, rfl, rfl, hide (by rw [Hacc0.out]; rfl), rfl⟩
          case round =>
            obtain ⟨j, q, b, hj, rfl, rfl, hrep, rfl⟩ := hrel
            by_cases hlt2 : j < k
            · obtain ⟨ad, rfl, hbl, hc⟩ := hr.int hlt2
              obtain ⟨ad2, rfl, hbl2, hc2⟩ := hr2.int hlt2
              have Hs := hide (Hacc.out j)
              have hyr := Hyr.out j hlt2
              generalize xs.getD j 0 = x at *
              generalize ys.getD j 0 = y at *
              obtain ⟨p, hp⟩ : ∃ p, IntKind.i64.wrap (a * y) = p := ⟨_, rfl⟩
              obtain ⟨r, hfb⟩ := quo_ok p t ht1 ht2
              have hV : ∀ W, fV .quo .f32 (floatOfInt .f32 p) (floatOfInt .f32 t) W = r := fun W => by rw [fV, hfb]
              have hN : fN .quo .f32 (floatOfInt .f32 p) (floatOfInt .f32 t) = 0 := by rw [fN, hfb]; rfl
              have Hdue : Hid (Rep .f32 (dueT a y t) r) := hide (by rw [dueT, hp]; simp only [oF]; rw [hfb]; rfl)
              have HFB := hide hfb
              clear hfb
              go_wp2
              go_roundw
              case rel => exact ⟨j + 1, _, _, by omega, by go_num, rfl, hide (by rw [Hs.out]; exact rep_step hrep.out Hdue.out _ _ _ _), by repeat (first | rfl | rw [World.drewN_drewN])⟩
              case measure => simp [intOf]; omega
            · have hjk : j = k := by omega
              subst hjk
              have HN := Lib.hid (fun W => iChecked (G j) b W hrep.out)
              generalize G j = O at *
              go_wp2_with (go_at_call 33; refine (HN.out _).mono ?_; rintro e w' ⟨rfl, q2, rfl⟩)
              go_ret2
              exact ⟨by rw [HR.out]; rfl, by repeat (first | exact ⟨_, rfl⟩ | exact drew2 _ _ _)⟩
  · have HR : Hid (RTest xs ys = (0, false)) := hide (by rw [RTest, if_neg]; rw [hlx, hly]; exact fun h => hg ⟨h.1, h.2.1, h.2.2.1⟩)
    clear hlx hly
    by_cases h2 : n < 2
    · go_enter Try.func26, Try.ntmps26
      go_wp2
      go_ret2
      exact ⟨by rw [HR.out]; rfl, 0, rfl⟩
    · by_cases h64 : 64 < n
      · go_enter Try.func26, Try.ntmps26
        go_wp2
        go_ret2
        exact ⟨by rw [HR.out]; rfl, 0, rfl⟩
      · have hne : ¬ m = n := fun e => hg ⟨by omega, by omega, e⟩
        have hne2 : ¬ ((m : Int) = (n : Int)) := fun e => hne (by omega)
        have d1 : decide ((n : Int) < 2) = false := decide_eq_false (by omega)
        have d2 : decide (64 < (n : Int)) = false := decide_eq_false (by omega)
        have d3 : decide ((m : Int) = (n : Int)) = false := decide_eq_false hne2
        have d4 : decide (m = n) = false := decide_eq_false hne
        clear hg
        go_enter Try.func26, Try.ntmps26
        go_wp2
        go_ret2
        exact ⟨by rw [HR.out]; rfl, 0, rfl⟩

set_option maxRecDepth 100000 in
set_option maxHeartbeats 3200000 in
theorem sTest (A B : Option Addr) (n m c d : Nat) (xs ys : List Int) (w : World) (hr : Rd w A n (iv xs)) (hr2 : Rd w B m (iv ys)) (hn : n ≤ 1048576) (hm : m ≤ 1048576) :
    Calls Try.prog 24 #[.slice A n c, .slice B m d] w fun e w' => e = .returned (.tuple #[.float .f32 (RTest xs ys).1, .bool (RTest xs ys).2]) ∧ ∃ q, w' = w.drewN q := by
  have hlx := hr.len
  have hly := hr2.len
  by_cases hg : 2 ≤ n ∧ n ≤ 64 ∧ m = n
  · obtain ⟨h2, h64, rfl⟩ := hg
    have Hbad : Hid (∀ k, k < m → badT xs ys k = true → RTest xs ys = (0, false)) := hide fun k hk h => by rw [RTest, if_neg]; rw [anyT_t (by omega) h]; simp
    have Hz : Hid ((∀ k, k < m → badT xs ys k = false) → smTo xs m = 0 → RTest xs ys = (0, false)) := hide fun h hz => by rw [RTest, if_neg]; rw [hlx, hz]; simp
    have Hok : Hid ((∀ k, k < m → badT xs ys k = false) → smTo xs m ≠ 0 → RTest xs ys = chkO (accT xs ys (smTo xs m) (smTo ys m) m)) := hide fun h hz => by
      rw [RTest, hlx, if_pos ⟨h2, h64, hly, anyT_f (by rw [hlx]; exact h), hz⟩]
    generalize RTest xs ys = R at *
    have d1 : decide ((m : Int) < 2) = false := decide_eq_false (by omega)
    have d2 : decide (64 < (m : Int)) = false := decide_eq_false (by omega)
    have Hstx : Hid (∀ k, smTo xs (k + 1) = smTo xs k + xs.getD k 0) := hide fun k => rfl
    have Hsty : Hid (∀ k, smTo ys (k + 1) = smTo ys k + ys.getD k 0) := hide fun k => rfl
    have H0 : Hid (smTo xs 0 = 0 ∧ smTo ys 0 = 0) := hide ⟨rfl, rfl⟩
    clear hlx hly hn hm
    go_enter Try.func24, Try.ntmps24
    go_wp2
    go_loop [7, 29] (fun _ i => ∃ k : Nat, k ≤ m ∧ i = .int .i64 k ∧ Hid (∀ j, j < k → badT xs ys j = false)) (fun _ i => m - (intOf i).toNat)
    case atStart => exact ⟨0, Nat.zero_le _, rfl, hide fun j hj => absurd hj (by omega)⟩
    case round =>
      obtain ⟨k, hk, rfl, hfa⟩ := hrel
      by_cases hlt : k < m
      · obtain ⟨ad, rfl, hbl, hc⟩ := hr.int hlt
        obtain ⟨ad2, rfl, hbl2, hc2⟩ := hr2.int hlt
        have HB := hide (Hbad.out k hlt)
        have HD : Hid (badT xs ys k = (!inB (xs.getD k 0) 0 1000000 || !inB (ys.getD k 0) 1 1000)) := hide rfl
        have Hx := hide (Hstx.out k)
        have Hy := hide (Hsty.out k)
        have bx := sm_x hfa.out
        have by' := sm_y hfa.out
        have HX := Lib.hid (fun V => sIn (xs.getD k 0) 0 1000000 V)
        have HY := Lib.hid (fun V => sIn (ys.getD k 0) 1 1000 V)
        cases h1 : inB (xs.getD k 0) 0 1000000 with
        | false =>
          have HR := hide (HB.out (by rw [HD.out, h1]; rfl))
          rw [h1] at HX
          clear bx by' HY HB HD Hx Hy Hbad Hok Hz Hstx Hsty
          generalize smTo xs k = s at *
          generalize smTo ys k = t at *
          generalize xs.getD k 0 = x at *
          generalize ys.getD k 0 = y at *
          go_wp2_with (go_at_call 52; refine (HX.out _).mono ?_; rintro e w' ⟨rfl, rfl⟩)
          go_ret2
          exact ⟨by rw [HR.out]; rfl, 0, rfl⟩
        | true =>
          rw [h1] at HX
          cases h3 : inB (ys.getD k 0) 1 1000 with
          | false =>
            have HR := hide (HB.out (by rw [HD.out, h3]; simp))
            rw [h3] at HY
            clear bx by' HB HD Hx Hy Hbad Hok Hz Hstx Hsty
            generalize smTo xs k = s at *
            generalize smTo ys k = t at *
            generalize xs.getD k 0 = x at *
            generalize ys.getD k 0 = y at *
            go_wp2_with (first | (go_at_call 52; with_reducible refine (HX.out _).mono ?_; rintro e w' ⟨rfl, rfl⟩) | (go_at_call 52; with_reducible refine (HY.out _).mono ?_; rintro e w' ⟨rfl, rfl⟩))
            go_ret2
            exact ⟨by rw [HR.out]; rfl, 0, rfl⟩
          | true =>
            rw [h3] at HY
            have HD2 : Hid (badT xs ys k = false) := hide (by rw [HD.out, h1, h3]; rfl)
            have Hg : Hid (∀ j, j < k + 1 → badT xs ys j = false) := hide fun j hj => by
              by_cases e : j = k
              · subst e; exact HD2.out
              · exact hfa.out j (by omega)
            rw [inB_iff] at h1 h3
            clear HB HD Hbad Hok Hz Hstx Hsty
            generalize smTo xs k = s at *
            generalize smTo ys k = t at *
            generalize xs.getD k 0 = x at *
            generalize ys.getD k 0 = y at *
            go_wp2_with (first | (go_at_call 52; with_reducible refine (HX.out _).mono ?_; rintro e w' ⟨rfl, rfl⟩) | (go_at_call 52; with_reducible refine (HY.out _).mono ?_; rintro e w' ⟨rfl, rfl⟩))
            go_round
            case rel => exact ⟨k + 1, by omega, by go_num, Hg⟩
            case measure => simp [intOf]; omega
      · have hkm : k = m := by omega
        subst hkm
        have bx := sm_x hfa.out
        have by' := sm_y hfa.out
        have Hz2 := hide (Hz.out hfa.out)
        have Hok2 := hide (Hok.out hfa.out)
        have Hybd : Hid (∀ j, j ≤ k → 0 ≤ smTo ys j ∧ smTo ys j ≤ 64000000) := hide fun j hj => by have := sm_y (k := j) (fun i hi => hfa.out i (by omega)); omega
        have Hxbd : Hid (∀ j, j ≤ k → 0 ≤ smTo xs j ∧ smTo xs j ≤ 64000000) := hide fun j hj => by have := sm_x (k := j) (fun i hi => hfa.out i (by omega)); omega
        have Hyr : Hid (∀ j, j < k → 1 ≤ ys.getD j 0 ∧ ys.getD j 0 ≤ 1000) := hide fun j hj => by
          have := hfa.out j hj
          simp only [badT, Bool.or_eq_false_iff, Bool.not_eq_false', inB_iff] at this
          exact this.2
        clear Hbad Hok Hz Hstx Hsty H0
        have HSx := Lib.hid (fun W (h : Rd W A k (iv xs)) => sSum A k c xs W h h64 Hxbd.out)
        have HSy := Lib.hid (fun W (h : Rd W B k (iv ys)) => sSum B k d ys W h h64 Hybd.out)
        obtain ⟨a, Ha⟩ : ∃ a, Hid (smTo xs k = a) := ⟨_, hide rfl⟩
        obtain ⟨t, Ht⟩ : ∃ t, Hid (smTo ys k = t) := ⟨_, hide rfl⟩
        rw [Ha.out] at Hz2 Hok2 bx HSx
        rw [Ht.out] at Hok2 by' HSy
        by_cases hz : a = 0
        · have HR := hide (Hz2.out hz)
          subst hz
          go_wp2_with (go_at_call 53; with_reducible refine (HSx.out _ hr).mono ?_; rintro e w' ⟨rfl, rfl⟩)
          go_ret2
          exact ⟨by rw [HR.out]; rfl, 0, rfl⟩
        · have HR := hide (Hok2.out hz)
          have Hacc0 : Hid (accT xs ys a t 0 = some 0) := hide rfl
          have Hacc : Hid (∀ j, accT xs ys a t (j + 1) = stepT (accT xs ys a t j) (xs.getD j 0) (dueT a (ys.getD j 0) t)) := hide fun _ => rfl
          have dz : decide (a = 0) = false := decide_eq_false hz
          have ht1 : 1 ≤ t := by omega
          have ht2 : t < 16777216 := by omega
          generalize accT xs ys a t = G at *
          clear Hz2 Hok2 hfa Hybd Hxbd
          go_wp2_with (go_at_call 53; with_reducible refine (HSx.out _ hr).mono ?_; rintro e w' ⟨rfl, rfl⟩)
          go_loopw [9, 10, 11, 12, 53] (fun s _ _ _ i wr => ∃ (j q : Nat) (b : Nat), j ≤ k ∧ i = .int .i64 j ∧ s = .float .f32 b ∧ Hid (Rep .f32 (G j) b) ∧ wr = w.drewN q) (fun _ _ _ _ i _ => k - (intOf i).toNat)
          case atStart => exact ⟨0, 0, 0, Nat.zero_le _, rfl, rfl, hide (by rw [Hacc0.out]; rfl), rfl⟩
          case round =>
            obtain ⟨j, q, b, hj, rfl, rfl, hrep, rfl⟩ := hrel
            by_cases hlt2 : j < k
            · obtain ⟨ad, rfl, hbl, hc⟩ := hr.int hlt2
              obtain ⟨ad2, rfl, hbl2, hc2⟩ := hr2.int hlt2
              have Hs := hide (Hacc.out j)
              have hyr := Hyr.out j hlt2
              generalize xs.getD j 0 = x at *
              generalize ys.getD j 0 = y at *
              obtain ⟨p, hp⟩ : ∃ p, IntKind.i64.wrap (a * y) = p := ⟨_, rfl⟩
              obtain ⟨r, hfb⟩ := quo_ok p t ht1 ht2
              have hV : ∀ W, fV .quo .f32 (floatOfInt .f32 p) (floatOfInt .f32 t) W = r := fun W => by rw [fV, hfb]
              have hN : fN .quo .f32 (floatOfInt .f32 p) (floatOfInt .f32 t) = 0 := by rw [fN, hfb]; rfl
              have Hdue : Hid (Rep .f32 (dueT a y t) r) := hide (by rw [dueT, hp]; simp only [oF]; rw [hfb]; rfl)
              have HFB := hide hfb
              clear hfb
              go_wp2
              go_quiet ((go_at_call 53; refine (HSy.out _ (hr2.drewN _)).mono ?_; rintro e w' ⟨rfl, rfl⟩; exact ⟨rfl, _, rfl⟩))
              go_wp2
              go_roundw
              case rel => exact ⟨j + 1, _, _, by omega, by go_num, rfl, hide (by rw [Hs.out]; exact rep_step hrep.out Hdue.out _ _ _ _), by repeat (first | rfl | rw [World.drewN_drewN])⟩
              case measure => simp [intOf]; omega
            · have hjk : j = k := by omega
              subst hjk
              have HN := Lib.hid (fun W => sNumber (G j) b W hrep.out)
              generalize G j = O at *
              go_wp2_with (go_at_call 30; refine (HN.out _).mono ?_; rintro e w' ⟨rfl, q2, rfl⟩)
              go_ret2
              exact ⟨by rw [HR.out]; rfl, by repeat (first | exact ⟨_, rfl⟩ | exact drew2 _ _ _)⟩
  · have HR : Hid (RTest xs ys = (0, false)) := hide (by rw [RTest, if_neg]; rw [hlx, hly]; exact fun h => hg ⟨h.1, h.2.1, h.2.2.1⟩)
    clear hlx hly
    by_cases h2 : n < 2
    · go_enter Try.func24, Try.ntmps24
      go_wp2
      go_ret2
      exact ⟨by rw [HR.out]; rfl, 0, rfl⟩
    · by_cases h64 : 64 < n
      · go_enter Try.func24, Try.ntmps24
        go_wp2
        go_ret2
        exact ⟨by rw [HR.out]; rfl, 0, rfl⟩
      · have hne : ¬ m = n := fun e => hg ⟨by omega, by omega, e⟩
        have hne2 : ¬ ((m : Int) = (n : Int)) := fun e => hne (by omega)
        have d1 : decide ((n : Int) < 2) = false := decide_eq_false (by omega)
        have d2 : decide (64 < (n : Int)) = false := decide_eq_false (by omega)
        have d3 : decide ((m : Int) = (n : Int)) = false := decide_eq_false hne2
        have d4 : decide (m = n) = false := decide_eq_false hne
        clear hg
        go_enter Try.func24, Try.ntmps24
        go_wp2
        go_ret2
        exact ⟨by rw [HR.out]; rfl, 0, rfl⟩

def RTestCounts (xs ys : List Int) : Nat × Bool := RTest xs ys
theorem RTestCounts_fin (xs ys : List Int) : finO (some (RTestCounts xs ys).1) = true := by
  unfold RTestCounts RTest
  split
  · unfold chkO
    split
    · rename_i h
      obtain ⟨r, hr⟩ := fin_some h
      rw [hr] at h ⊢
      exact h
    · exact fin_zero0
  · exact fin_zero0
theorem sTestCounts (v0 : Value) (xs : List Int) (v1 : Value) (ys : List Int) (w : World) (h0 : RV w v0 xs) (h1 : RV w v1 ys) (hn : xs.length ≤ 1048576) (hm : ys.length ≤ 1048576) :
    Calls Try.prog 24 #[v0, v1] w fun e w' => e = .returned (.tuple #[.float .f32 (RTestCounts xs ys).1, .bool (RTestCounts xs ys).2]) ∧ Below w.heap.size w w' := by
  obtain ⟨A, c, rfl, hr, hc⟩ := h0
  obtain ⟨B, d, rfl, hr2, hd⟩ := h1
  exact (sTest A B _ _ c d xs ys w hr hr2 hn hm).mono fun e w' ⟨h1, h2⟩ => ⟨h1, below_of_drew h2⟩
theorem iTestCounts (v0 : Value) (xs : List Int) (v1 : Value) (ys : List Int) (w : World) (h0 : RV w v0 xs) (h1 : RV w v1 ys) (hn : xs.length ≤ 1048576) (hm : ys.length ≤ 1048576) :
    Calls Try.prog 26 #[v0, v1] w fun e w' => e = .returned (.tuple #[.float .f32 (RTestCounts xs ys).1, .bool (RTestCounts xs ys).2]) ∧ Below w.heap.size w w' := by
  obtain ⟨A, c, rfl, hr, hc⟩ := h0
  obtain ⟨B, d, rfl, hr2, hd⟩ := h1
  exact (iTest A B _ _ c d xs ys w hr hr2 hn hm).mono fun e w' ⟨h1, h2⟩ => ⟨h1, below_of_drew h2⟩
end Go.Proofs.Ytjeaiihgedennaa
