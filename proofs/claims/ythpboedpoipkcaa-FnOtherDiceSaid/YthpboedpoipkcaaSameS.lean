/- szDieS at any size left, and the contracts of SameSums on both sides. Conditions: sizes at most 2^20. -/
import Derived.Test.YthpboedpoipkcaaSum
import Derived.Test.YthpboedpoipkcaaEq0
import Derived.Test.YthpboedpoipkcaaDS
namespace Go.Proofs.Ythpboedpoipkcaa
open Go.ChangeShapes Go.WideShapes Go.ChangeAt Go.RowKit

def szResL (l : Nat) (xss : List (List Int)) : Int := if tot xss ≤ l then (l : Int) - (tot xss : Int) else -1
theorem szResL_bad {l : Nat} {xss : List (List Int)} {k : Nat} (hk : k ≤ xss.length) (h : l < totTo xss k) : szResL l xss = -1 := by
  have := totTo_mono xss xss.length k hk
  rw [szResL, if_neg (by unfold tot; omega)]
theorem szResL_ok {l : Nat} {xss : List (List Int)} (h : totTo xss xss.length ≤ l) : szResL l xss = (l : Int) - (totTo xss xss.length : Int) := by
  rw [szResL, if_pos (show tot xss ≤ l from h)]; rfl

set_option maxHeartbeats 800000 in
theorem szDL (A : Option Addr) (n c : Nat) (xss : List (List Int)) (l : Nat) (w : World) (hle : l ≤ 1048576) (hr : RdR w A n xss) (hn : n ≤ 9223372036854775807) (hrow : ∀ k, k < n → (xss.getD k []).length ≤ 9223372036854775807) :
    Calls Try.prog 28 #[.slice A n c, .int .i64 (l : Int)] w fun e w' => e = .returned (.int .i64 (szResL l xss)) ∧ Below w.heap.size w w' := by
  have hl := hr.len
  have Hbad : Hid (∀ k, k ≤ n → l < totTo xss k → szResL l xss = -1) := hide fun k hk h => szResL_bad (by omega) h
  have Hok : Hid (totTo xss n ≤ l → szResL l xss = (l : Int) - (totTo xss n : Int)) := hide (by rw [← hl]; exact szResL_ok)
  have H0 : Hid (totTo xss 0 = n) := hide (by rw [totTo, hl])
  have Hst : Hid (∀ k, totTo xss (k + 1) = totTo xss k + (xss.getD k []).length) := hide fun k => rfl
  have Hrow := hide hrow
  generalize szResL l xss = R at *
  clear hl hrow
  by_cases h0 : l < n
  · have HR := hide (Hbad.out 0 (Nat.zero_le _) (by rw [H0.out]; exact h0))
    go_enter Try.func28, Try.ntmps28
    go_wp2
    go_ret
    exact ⟨ret_int HR.out.symm, Below.refl _ _⟩
  · go_enter Try.func28, Try.ntmps28
    go_wp2
    go_loopw [1, 5] (fun lv i wr => ∃ k m : Nat, k ≤ n ∧ i = .int .i64 k ∧ Hid (totTo xss k + m = l) ∧ m ≤ 1048576 ∧ lv = .int .i64 (m : Int) ∧ Below w.heap.size w wr) (fun _ i _ => n - (intOf i).toNat)
    case atStart => exact ⟨0, l - n, Nat.zero_le _, rfl, hide (by rw [H0.out]; omega), by omega, by congr 1; omega, Below.refl _ _⟩
    case round =>
      obtain ⟨k, m, hk, rfl, ht, hm, rfl, hb⟩ := hrel
      by_cases hlt : k < n
      · obtain ⟨ad, B, d, rfl, hbl, hcell, hrr, hd⟩ := (hr.below hb).at hlt
        have hrow := Hrow.out k hlt
        have Hs := hide (Hst.out k)
        generalize (xss.getD k []).length = len at *
        have HS := Lib.hid (szD B len d m wr hrow hm)
        by_cases hml : m < len
        · rw [if_pos hml] at HS
          have HR := hide (Hbad.out (k + 1) (by omega) (by rw [Hs.out]; have := ht.out; omega))
          go_wp2_with (go_at_call 15; refine HS.out.mono ?_; rintro e w2 ⟨rfl, hb2⟩)
          go_ret
          exact ⟨ret_int HR.out.symm, hb.trans (hb2.mono hb.size)⟩
        · rw [if_neg hml] at HS
          have e1 : ((m : Int) - (len : Int)) = ((m - len : Nat) : Int) := by omega
          rw [e1] at HS
          have Ht2 : Hid (totTo xss (k + 1) + (m - len) = l) := hide (by rw [Hs.out]; have := ht.out; omega)
          have hm2 : m - len ≤ 1048576 := by omega
          generalize m - len = m2 at *
          clear e1
          go_wp2_with (go_at_call 15; refine HS.out.mono ?_; rintro e w2 ⟨rfl, hb2⟩)
          go_roundw
          case measure => simp [intOf]; omega
          case rel => exact ⟨k + 1, m2, by omega, by go_num, Ht2, hm2, rfl, hb.trans (hb2.mono hb.size)⟩
      · have hkn : k = n := by omega
        subst hkn
        have HR := hide (Hok.out (by have := ht.out; omega))
        go_wp2
        go_ret
        exact ⟨ret_int (by rw [HR.out]; have := ht.out; omega), hb⟩


def RSameSums (xss yss : List (List Int)) : Bool × Bool := if (diceB xss && diceB yss) = true then (eqL (cnD xss xss.length) (cnD yss yss.length), true) else (false, false)

set_option maxRecDepth 100000 in
set_option maxHeartbeats 1600000 in
theorem sSameS (A B : Option Addr) (n m c d : Nat) (xss yss : List (List Int)) (w : World) (hr : RdR w A n xss) (hr2 : RdR w B m yss) (hn : n ≤ 1048576) (hm : m ≤ 1048576)
    (hrow : ∀ k, k < n → (xss.getD k []).length ≤ 1048576) (hrow2 : ∀ k, k < m → (yss.getD k []).length ≤ 1048576) :
    Calls Try.prog 42 #[.slice A n c, .slice B m d] w fun e w' => e = .returned (.tuple #[.bool (RSameSums xss yss).1, .bool (RSameSums xss yss).2]) ∧ Below w.heap.size w w' := by
  have H1 := Lib.hid (sDice A n c xss w hr hn hrow)
  have H2 := Lib.hid (fun (W : World) (hb : Below w.heap.size w W) => sDice B m d yss W (hr2.below hb) hm hrow2)
  have hl := hr.len
  have hl2 := hr2.len
  cases hq : diceB xss with
  | false =>
    rw [hq] at H1
    have HR : Hid (RSameSums xss yss = (false, false)) := hide (by rw [RSameSums, hq]; rfl)
    clear hr hrow hl hr2 hrow2 hl2
    go_enter Try.func42, Try.ntmps42
    go_wp2_with (first | (go_at_call 65; with_reducible refine (H1.out).mono ?_; rintro e w2 ⟨rfl, q, rfl⟩; have hb2 := below_drewN (Below.refl w.heap.size w) q) | (go_at_call 65; with_reducible refine (H2.out _ hb2).mono ?_; rintro e w3 ⟨rfl, q2, rfl⟩; have hc3 := below_drewN (Below.refl w.heap.size w) (q + q2)))
    go_ret2
    exact ⟨by rw [HR.out]; rfl, hb2⟩
  | true =>
    rw [hq] at H1
    cases hq2 : diceB yss with
    | false =>
      rw [hq2] at H2
      have HR : Hid (RSameSums xss yss = (false, false)) := hide (by rw [RSameSums, hq, hq2]; rfl)
      clear hr hrow hl hr2 hrow2 hl2
      go_enter Try.func42, Try.ntmps42
      go_wp2_with (first | (go_at_call 65; with_reducible refine (H1.out).mono ?_; rintro e w2 ⟨rfl, q, rfl⟩; have hb2 := below_drewN (Below.refl w.heap.size w) q) | (go_at_call 65; with_reducible refine (H2.out _ hb2).mono ?_; rintro e w3 ⟨rfl, q2, rfl⟩; have hc3 := below_drewN (Below.refl w.heap.size w) (q + q2)))
      go_ret2
      exact ⟨by rw [HR.out]; rfl, hc3⟩
    | true =>
      rw [hq2] at H2
      obtain ⟨_, hd6, hdie⟩ := diceB_of hq
      obtain ⟨_, he6, hdie2⟩ := diceB_of hq2
      have HR : Hid (RSameSums xss yss = (eqL (cnD xss n) (cnD yss m), true)) := hide (by rw [RSameSums, hq, hq2, hl, hl2]; rfl)
      have HC1 := Lib.hid (fun (W : World) (hb : Below w.heap.size w W) => sCounts A n c xss W (hr.below hb) (by omega) (fun k hk => hdie k (by omega)))
      have HC2 := Lib.hid (fun (W : World) (hb : Below w.heap.size w W) => sCounts B m d yss W (hr2.below hb) (by omega) (fun k hk => hdie2 k (by omega)))
      have Hg := hide (cnD_gd hdie n (by omega))
      have Hg2 := hide (cnD_gd hdie2 m (by omega))
      generalize RSameSums xss yss = RR at *
      generalize cnD xss n = cs at *
      generalize prD xss n = pr at *
      generalize cnD yss m = ds at *
      generalize prD yss m = ps at *
      obtain ⟨a, HL1⟩ : ∃ a, Hid (cs.length = a) := ⟨_, hide rfl⟩
      obtain ⟨b, HL2⟩ : ∃ b, Hid (ds.length = b) := ⟨_, hide rfl⟩
      have ha : a ≤ 1048576 := by have := Hg.out.2.2.1; rw [HL1.out] at this; omega
      have hb : b ≤ 1048576 := by have := Hg2.out.2.2.1; rw [HL2.out] at this; omega
      have HE := Lib.hid (fun (A' B' : Option Addr) (c' d' : Nat) (W : World) (h1 : Rd W A' a (iv cs)) (h2 : Rd W B' b (iv ds)) => sSame A' B' a b c' d' cs ds W h1 h2 ha hb)
      clear hr hrow hl hr2 hrow2 hl2 hdie hdie2 hd6 he6 hq hq2 ha hb
      generalize eqL cs ds = E at *
      go_enter Try.func42, Try.ntmps42
      go_wp2_with (first | (go_at_call 65; with_reducible refine (H1.out).mono ?_; rintro e w2 ⟨rfl, q, rfl⟩; have hb2 := below_drewN (Below.refl w.heap.size w) q) | (go_at_call 65; with_reducible refine (H2.out _ hb2).mono ?_; rintro e w3 ⟨rfl, q2, rfl⟩; have hc3 := below_drewN (Below.refl w.heap.size w) (q + q2)) | (go_at_call 74; with_reducible refine (HC1.out _ hc3).mono ?_; rintro e w4 ⟨r1, rfl, hO1, hb4⟩; have hc4 := hc3.trans (hb4.mono hc3.size); obtain ⟨A5, c5, hv5, -, -, -, -⟩ := id hO1.form; rw [HL1.out] at hv5; subst hv5) | (go_at_call 74; with_reducible refine (HC2.out _ hc4).mono ?_; rintro e w5 ⟨r2, rfl, hO2, hb5⟩; have hc5 := hc4.trans (hb5.mono hc4.size); have hO3 := hO1.below hb5; obtain ⟨A6, c6, hv6, -, -, -, -⟩ := id hO2.form; rw [HL2.out] at hv6; subst hv6) | (go_at_call 58; refine (HE.out _ _ _ _ _ hO3.rd.1 hO2.rd.1).mono ?_; rintro e w6 ⟨rfl, q9, rfl⟩))
      go_ret2
      exact ⟨by rw [HR.out]; rfl, below_drewN hc5 _⟩
theorem sSameSums (v : Value) (xss : List (List Int)) (u : Value) (yss : List (List Int)) (w : World) (hv : RVR w v xss) (hu : RVR w u yss) (ht : tot xss ≤ 1048576) (ht2 : tot yss ≤ 1048576) :
    Calls Try.prog 42 #[v, u] w fun e w' => e = .returned (.tuple #[.bool (RSameSums xss yss).1, .bool (RSameSums xss yss).2]) ∧ Below w.heap.size w w' := by
  obtain ⟨A, c', rfl, hr, _⟩ := hv
  obtain ⟨B, d', rfl, hr2, _⟩ := hu
  exact sSameS A B _ _ c' d' xss yss w hr hr2 (Nat.le_trans (tot_len xss) ht) (Nat.le_trans (tot_len yss) ht2) (fun k hk => Nat.le_trans (tot_row hk) ht) (fun k hk => Nat.le_trans (tot_row hk) ht2)

set_option maxRecDepth 100000 in
set_option maxHeartbeats 1600000 in
theorem iSameS (A B : Option Addr) (n m c d : Nat) (xss yss : List (List Int)) (w : World) (hr : RdR w A n xss) (hr2 : RdR w B m yss) (hn : n ≤ 1048576) (hm : m ≤ 1048576)
    (hrow : ∀ k, k < n → (xss.getD k []).length ≤ 1048576) (hrow2 : ∀ k, k < m → (yss.getD k []).length ≤ 1048576) :
    Calls Try.prog 43 #[.slice A n c, .slice B m d] w fun e w' => e = .returned (.tuple #[.bool (RSameSums xss yss).1, .bool (RSameSums xss yss).2]) ∧ Below w.heap.size w w' := by
  have H1 := Lib.hid (iDice A n c xss w hr hn hrow)
  have H2 := Lib.hid (fun (W : World) (hb : Below w.heap.size w W) => iDice B m d yss W (hr2.below hb) hm hrow2)
  have hl := hr.len
  have hl2 := hr2.len
  cases hq : diceB xss with
  | false =>
    rw [hq] at H1
    have HR : Hid (RSameSums xss yss = (false, false)) := hide (by rw [RSameSums, hq]; rfl)
    clear hr hrow hl hr2 hrow2 hl2
    go_enter Try.func43, Try.ntmps43
    go_wp2_with (first | (go_at_call 67; with_reducible refine (H1.out).mono ?_; rintro e w2 ⟨rfl, hb2⟩) | (go_at_call 67; with_reducible refine (H2.out _ hb2).mono ?_; rintro e w3 ⟨rfl, hb3⟩; have hc3 := hb2.trans (hb3.mono hb2.size)))
    go_ret2
    exact ⟨by rw [HR.out]; rfl, hb2⟩
  | true =>
    rw [hq] at H1
    cases hq2 : diceB yss with
    | false =>
      rw [hq2] at H2
      have HR : Hid (RSameSums xss yss = (false, false)) := hide (by rw [RSameSums, hq, hq2]; rfl)
      clear hr hrow hl hr2 hrow2 hl2
      go_enter Try.func43, Try.ntmps43
      go_wp2_with (first | (go_at_call 67; with_reducible refine (H1.out).mono ?_; rintro e w2 ⟨rfl, hb2⟩) | (go_at_call 67; with_reducible refine (H2.out _ hb2).mono ?_; rintro e w3 ⟨rfl, hb3⟩; have hc3 := hb2.trans (hb3.mono hb2.size)))
      go_ret2
      exact ⟨by rw [HR.out]; rfl, hc3⟩
    | true =>
      rw [hq2] at H2
      obtain ⟨_, hd6, hdie⟩ := diceB_of hq
      obtain ⟨_, he6, hdie2⟩ := diceB_of hq2
      have HR : Hid (RSameSums xss yss = (eqL (cnD xss n) (cnD yss m), true)) := hide (by rw [RSameSums, hq, hq2, hl, hl2]; rfl)
      have HC1 := Lib.hid (fun (W : World) (hb : Below w.heap.size w W) => iCounts A n c xss W (hr.below hb) (by omega) (fun k hk => hdie k (by omega)))
      have HC2 := Lib.hid (fun (W : World) (hb : Below w.heap.size w W) => iCounts B m d yss W (hr2.below hb) (by omega) (fun k hk => hdie2 k (by omega)))
      have Hg := hide (cnD_gd hdie n (by omega))
      have Hg2 := hide (cnD_gd hdie2 m (by omega))
      generalize RSameSums xss yss = RR at *
      generalize cnD xss n = cs at *
      generalize prD xss n = pr at *
      generalize cnD yss m = ds at *
      generalize prD yss m = ps at *
      obtain ⟨a, HL1⟩ : ∃ a, Hid (cs.length = a) := ⟨_, hide rfl⟩
      obtain ⟨b, HL2⟩ : ∃ b, Hid (ds.length = b) := ⟨_, hide rfl⟩
      have ha : a ≤ 1048576 := by have := Hg.out.2.2.1; rw [HL1.out] at this; omega
      have hb : b ≤ 1048576 := by have := Hg2.out.2.2.1; rw [HL2.out] at this; omega
      have HE := Lib.hid (fun (A' B' : Option Addr) (c' d' : Nat) (W : World) (h1 : Rd W A' a (iv cs)) (h2 : Rd W B' b (iv ds)) => iSame A' B' a b c' d' cs ds W h1 h2 ha hb)
      clear hr hrow hl hr2 hrow2 hl2 hdie hdie2 hd6 he6 hq hq2 ha hb
      by_cases hpp : pr = ps
      · subst hpp
        generalize eqL cs ds = E at *
        go_enter Try.func43, Try.ntmps43
        go_wp2_with (first | (go_at_call 67; with_reducible refine (H1.out).mono ?_; rintro e w2 ⟨rfl, hb2⟩) | (go_at_call 67; with_reducible refine (H2.out _ hb2).mono ?_; rintro e w3 ⟨rfl, hb3⟩; have hc3 := hb2.trans (hb3.mono hb2.size)) | (go_at_call 76; with_reducible refine (HC1.out _ hc3).mono ?_; rintro e w4 ⟨r1, rfl, hO1, hb4⟩; have hc4 := hc3.trans (hb4.mono hc3.size); obtain ⟨A5, c5, hv5, -, -, -, -⟩ := id hO1.form; rw [HL1.out] at hv5; subst hv5) | (go_at_call 76; with_reducible refine (HC2.out _ hc4).mono ?_; rintro e w5 ⟨r2, rfl, hO2, hb5⟩; have hc5 := hc4.trans (hb5.mono hc4.size); have hO3 := hO1.below hb5; obtain ⟨A6, c6, hv6, -, -, -, -⟩ := id hO2.form; rw [HL2.out] at hv6; subst hv6) | (go_at_call 59; refine (HE.out _ _ _ _ _ hO3.rd.1 hO2.rd.1).mono ?_; rintro e w6 ⟨rfl, q9, rfl⟩))
        go_ret2
        exact ⟨by rw [HR.out]; rfl, below_drewN hc5 _⟩
      · have hE : eqL cs ds = false := eqL_f fun e => hpp (by rw [← Hg.out.1.sum, ← Hg2.out.1.sum, e])
        rw [hE] at HR
        have dp : decide (pr = ps) = false := decide_eq_false hpp
        clear HE hE
        go_enter Try.func43, Try.ntmps43
        go_wp2_with (first | (go_at_call 67; with_reducible refine (H1.out).mono ?_; rintro e w2 ⟨rfl, hb2⟩) | (go_at_call 67; with_reducible refine (H2.out _ hb2).mono ?_; rintro e w3 ⟨rfl, hb3⟩; have hc3 := hb2.trans (hb3.mono hb2.size)) | (go_at_call 76; with_reducible refine (HC1.out _ hc3).mono ?_; rintro e w4 ⟨r1, rfl, hO1, hb4⟩; have hc4 := hc3.trans (hb4.mono hc3.size); obtain ⟨A5, c5, hv5, -, -, -, -⟩ := id hO1.form; rw [HL1.out] at hv5; subst hv5) | (go_at_call 76; with_reducible refine (HC2.out _ hc4).mono ?_; rintro e w5 ⟨r2, rfl, hO2, hb5⟩; have hc5 := hc4.trans (hb5.mono hc4.size); have hO3 := hO1.below hb5; obtain ⟨A6, c6, hv6, -, -, -, -⟩ := id hO2.form; rw [HL2.out] at hv6; subst hv6) | (go_at_call 59; refine (HE.out _ _ _ _ _ hO3.rd.1 hO2.rd.1).mono ?_; rintro e w6 ⟨rfl, q9, rfl⟩))
        go_ret2
        exact ⟨by rw [HR.out]; rfl, hc5⟩
theorem iSameSums (v : Value) (xss : List (List Int)) (u : Value) (yss : List (List Int)) (w : World) (hv : RVR w v xss) (hu : RVR w u yss) (ht : tot xss ≤ 1048576) (ht2 : tot yss ≤ 1048576) :
    Calls Try.prog 43 #[v, u] w fun e w' => e = .returned (.tuple #[.bool (RSameSums xss yss).1, .bool (RSameSums xss yss).2]) ∧ Below w.heap.size w w' := by
  obtain ⟨A, c', rfl, hr, _⟩ := hv
  obtain ⟨B, d', rfl, hr2, _⟩ := hu
  exact iSameS A B _ _ c' d' xss yss w hr hr2 (Nat.le_trans (tot_len xss) ht) (Nat.le_trans (tot_len yss) ht2) (fun k hk => Nat.le_trans (tot_row hk) ht) (fun k hk => Nat.le_trans (tot_row hk) ht2)
end Go.Proofs.Ythpboedpoipkcaa
