/- Contract of BallotWays, the reference's. Conditions: none. -/
import Derived.Test.YtbganjcnhnkakaaBalP
namespace Go.Proofs.Ytbganjcnhnkakaa
open Go.ChangeShapes Go.WideShapes Go.ChangeAt Go.RowKit Go.Maps

def balOk (a b : Int) : Bool := inB a 0 60 && inB b 0 (60 - a)
def RBallotWays (a b : Int) (t : Bool) : Int × Bool := if balOk a b = true then ((wB t a.toNat b.toNat : Int), true) else (0, false)
theorem bal_no {a b : Int} {t : Bool} (h : balOk a b = false) : RBallotWays a b t = (0, false) := by rw [RBallotWays, if_neg (by rw [h]; simp)]

set_option maxRecDepth 100000 in
set_option maxHeartbeats 1600000 in
theorem sBallotWays (a b : Int) (t : Bool) (w : World) (_wf0 : (Lit.int .i64 a).wf = true) (_wf1 : (Lit.int .i64 b).wf = true) :
    Calls Try.prog 11 #[.int .i64 a, .int .i64 b, .bool t] w fun e w' => e = .returned (.tuple #[.int .i64 (RBallotWays a b t).1, .bool (RBallotWays a b t).2]) ∧ Below w.heap.size w w' := by
  have HA := Lib.hid (fun W => sIn a 0 60 W)
  cases ha : inB a 0 60 with
  | false =>
    rw [bal_no (by rw [balOk, ha]; rfl)]
    rw [ha] at HA
    clear ha
    go_enter Try.func11, Try.ntmps11
    go_wp2_with fail
    refine (HA.out _).mono ?_
    rintro e w' ⟨rfl, rfl⟩
    go_wp2
    go_ret2
    exact ⟨rfl, Below.refl _ _⟩
  | true =>
    rw [ha] at HA
    obtain ⟨ha0, ha60⟩ := inB_iff.1 ha
    have HB := Lib.hid (fun W => sIn b 0 (60 - a) W)
    cases hb : inB b 0 (60 - a) with
    | false =>
      rw [bal_no (by rw [balOk, hb, Bool.and_false])]
      rw [hb] at HB
      clear ha hb
      go_enter Try.func11, Try.ntmps11
      go_wp2_with fail
      refine (HA.out _).mono ?_
      rintro e w' ⟨rfl, rfl⟩
      go_wp2_with fail
      refine (HB.out _).mono ?_
      rintro e w' ⟨rfl, rfl⟩
      go_wp2
      go_ret2
      exact ⟨rfl, Below.refl _ _⟩
    | true =>
      rw [hb] at HB
      obtain ⟨hb0, hb60⟩ := inB_iff.1 hb
      have hok : balOk a b = true := by rw [balOk, ha, hb]; rfl
      have hR : RBallotWays a b t = ((wB t a.toNat b.toNat : Int), true) := by rw [RBallotWays, if_pos hok]
      rw [hR]
      obtain ⟨A, rfl⟩ : ∃ A : Nat, a = (A : Int) := ⟨a.toNat, by omega⟩
      obtain ⟨B, rfl⟩ : ∃ B : Nat, b = (B : Int) := ⟨b.toNat, by omega⟩
      rw [Int.toNat_natCast, Int.toNat_natCast]
      have hAB : A + B ≤ 60 := by omega
      clear ha hb hok hR ha0 ha60 hb0 hb60
      have Hget := Lib.hid (fun i k j h => rowW_get (t := t) (B := B) (i := i) (k := k) (j := j) h)
      have Hset := Lib.hid (fun i k h => rowW_set (t := t) (B := B) (i := i) (k := k) h)
      have Hnext := Lib.hid (fun i => rowW_next t B i)
      have H0 := hide (rowW_start t B)
      have Hlen := Lib.hid (fun i k => rowW_len t B i k)
      have HW := Lib.hid (fun i k h => wB_60 (t := t) (i := i) (k := k) h)
      have hBn : B + 1 ≤ 1048576 := by omega
      cases t with
      | true =>
        have Hy := Lib.hid (fun i k h => wB_y (t := true) (i := i) (k := k) h)
        have Hn := Lib.hid (fun i k h => wB_n (t := true) (i := i) (k := k) h)
        have Hc : Hid (∀ i k, cnd true i k = decide (k ≤ i)) := hide fun i k => rfl
        go_enter Try.func11, Try.ntmps11
        go_wp2_with fail
        refine (HA.out _).mono ?_
        rintro e w' ⟨rfl, rfl⟩
        go_wp2_with fail
        refine (HB.out _).mono ?_
        rintro e w' ⟨rfl, rfl⟩
        go_wp2_with (at_make; refine mk1 (n := B + 1) hBn rfl rfl rfl rfl ?_; intro w1 hB1 hb1 hs1)
        rw [H0.out] at hB1
        go_loopw [10] (fun i wr => ∃ i0 : Nat, i0 ≤ A + 1 ∧ i = .int .i64 (i0 : Int) ∧ Bk wr w.heap.size 2 (iv (rowW true B i0 0)) ∧ Below w.heap.size w wr) (fun i _ => A + 2 - (intOf i).toNat)
        case atStart => exact ⟨0, Nat.zero_le _, rfl, hB1, hb1⟩
        case round =>
          obtain ⟨i, hiA, rfl, hBi, hbi⟩ := hrel
          clear hB1 hb1
          obtain ⟨wo, rfl⟩ : ∃ wo : World, wo = wr := ⟨_, rfl⟩
          by_cases hi : i ≤ A
          · go_wp2
            go_loopw [11, 12] (fun k x wr => ∃ k0 : Nat, k0 ≤ B + 1 ∧ k = .int .i64 (k0 : Int) ∧ Bk wr w.heap.size 2 (iv (rowW true B i k0)) ∧ Below w.heap.size w wr) (fun k _ _ => B + 2 - (intOf k).toNat)
            case atStart => exact ⟨0, Nat.zero_le _, rfl, hBi, hbi⟩
            case round =>
              obtain ⟨k, hkB, rfl, hBk, hbk⟩ := hrel
              clear hBi hbi
              by_cases hk : k ≤ B
              · have ck := hBk.int (k := k) (by rw [Hlen.out]; omega)
                rw [Hget.out i k k hk, if_neg (by omega)] at ck
                have fk := hBk.free k
                have hst := hBk.seti k (wB true i k : Int)
                rw [Hset.out i k hk] at hst
                have Hst := hide hst
                have Hbs : Hid (∀ u, Below w.heap.size w (wr.setCell ⟨w.heap.size, k, none⟩ u)) := hide fun u => hbk.setCell (p := ⟨w.heap.size, k, none⟩) (Nat.le_refl _) u
                have hwik := HW.out i k (by omega)
                by_cases hi0 : i = 0
                · subst hi0
                  rw [if_pos rfl] at ck
                  clear hst hbk
                  by_cases hk0 : k = 0
                  · subst hk0
                    have g1 : (0 : Int) < ((B + 1 : Nat) : Int) := by omega
                    rw [show ((0 : Nat) : Int) = 0 from rfl]
                    go_wp2
                    go_roundw
                    case rel => exact ⟨0 + 1, by omega, by go_num, by first | exact Hst.out | (have h := Hst.out; rw [wB_00] at h; exact h) | (have h := Hst.out; rw [wB_00] at h; simpa using h), Hbs.out _⟩
                    case measure => first | (simp [intOf]; done) | (simp [intOf]; omega)
                  · obtain ⟨k2, rfl⟩ : ∃ k2, k = k2 + 1 := ⟨k - 1, by omega⟩
                    have cp := hBk.int (k := k2) (by rw [Hlen.out]; omega)
                    rw [Hget.out 0 (k2 + 1) k2 (by omega), if_pos (by omega)] at cp
                    have hwp := HW.out 0 k2 (by omega)
                    generalize wB true 0 k2 = p at cp hwp
                    clear hBk
                    have g1 : ((k2 + 1 : Nat) : Int) = (k2 : Int) + 1 := by omega
                    rw [g1]
                    have g2 : ((k2 : Int) + 1).toNat = k2 + 1 := by omega
                    have g3 : decide (-((k2 : Int) + 1) < 0) = true := decide_eq_true (by omega)
                    have g4 : decide ((0 : Int) - ((k2 : Int) + 1) < 0) = true := decide_eq_true (by omega)
                    clear g1
                    go_wp2
                    go_roundw
                    case rel => exact ⟨k2 + 1 + 1, by omega, by go_num, by first | exact Hst.out | (have h := Hst.out; rw [wB_0] at h; exact h) | (have h := Hst.out; rw [wB_0] at h; simpa using h), Hbs.out _⟩
                    case measure => first | (simp [intOf]; done) | (simp [intOf]; omega)
                · obtain ⟨i2, rfl⟩ : ∃ i2, i = i2 + 1 := ⟨i - 1, by omega⟩
                  rw [if_neg (by omega), Nat.add_sub_cancel] at ck
                  have hwc := HW.out i2 k (by omega)
                  clear hst hbk
                  by_cases hk0 : k = 0
                  · subst hk0
                    have hv := hide (wB_i0 true i2)
                    generalize wB true i2 0 = p at ck hwc hv
                    clear hBk
                    have g1 : ((i2 + 1 : Nat) : Int) = (i2 : Int) + 1 := by omega
                    rw [show ((0 : Nat) : Int) = 0 from rfl, g1]
                    have g3 : decide ((i2 : Int) + 1 < 0) = false := decide_eq_false (by omega)
                    have g5 : (0 : Int) < ((B + 1 : Nat) : Int) := by omega
                    clear g1
                    go_wp2
                    go_roundw
                    case rel => exact ⟨0 + 1, by omega, by go_num, by first | exact Hst.out | (have h := Hst.out; rw [hv.out] at h; exact h) | (have h := Hst.out; rw [hv.out] at h; simpa using h), Hbs.out _⟩
                    case measure => first | (simp [intOf]; done) | (simp [intOf]; omega)
                  · obtain ⟨k2, rfl⟩ : ∃ k2, k = k2 + 1 := ⟨k - 1, by omega⟩
                    have cp := hBk.int (k := k2) (by rw [Hlen.out]; omega)
                    rw [Hget.out (i2 + 1) (k2 + 1) k2 (by omega), if_pos (by omega)] at cp
                    have hwp := HW.out (i2 + 1) k2 (by omega)
                    have hcc := Hc.out (i2 + 1) (k2 + 1)
                    have hy := hide (fun h => Hy.out i2 k2 h)
                    have hn := hide (fun h => Hn.out i2 k2 h)
                    generalize wB true i2 (k2 + 1) = p at ck hwc hy
                    generalize wB true (i2 + 1) k2 = p2 at cp hwp hy
                    clear hBk
                    have g1 : ((k2 + 1 : Nat) : Int) = (k2 : Int) + 1 := by omega
                    have g0 : ((i2 + 1 : Nat) : Int) = (i2 : Int) + 1 := by omega
                    have g2 : ((k2 : Int) + 1).toNat = k2 + 1 := by omega
                    by_cases hlt : k2 + 1 ≤ i2 + 1
                    · have hv := hide (hy.out (by rw [hcc]; exact decide_eq_true hlt))
                      clear hy hn hcc
                      rw [g0, g1]
                      have g3 : decide ((i2 : Int) + 1 - ((k2 : Int) + 1) < 0) = false := decide_eq_false (by omega)
                      clear g0 g1
                      go_wp2
                      go_roundw
                      case rel => exact ⟨k2 + 1 + 1, by omega, by go_num, by first | exact Hst.out | (have h := Hst.out; rw [hv.out] at h; exact h) | (have h := Hst.out; rw [hv.out] at h; simpa using h), Hbs.out _⟩
                      case measure => first | (simp [intOf]; done) | (simp [intOf]; omega)
                    · have hv := hide (hn.out (by rw [hcc]; exact decide_eq_false hlt))
                      clear hy hn hcc
                      rw [g0, g1]
                      have g3 : decide ((i2 : Int) + 1 - ((k2 : Int) + 1) < 0) = true := decide_eq_true (by omega)
                      clear g0 g1
                      go_wp2
                      go_roundw
                      case rel => exact ⟨k2 + 1 + 1, by omega, by go_num, by first | exact Hst.out | (have h := Hst.out; rw [hv.out] at h; exact h) | (have h := Hst.out; rw [hv.out] at h; simpa using h), Hbs.out _⟩
                      case measure => first | (simp [intOf]; done) | (simp [intOf]; omega)
              · have hkB2 : k = B + 1 := by omega
                subst hkB2
                rw [Hnext.out] at hBk
                have e1 : ((B + 1 : Nat) : Int) = (B : Int) + 1 := by omega
                rw [e1]
                clear e1
                go_wp2
                go_roundw
                case rel => exact ⟨i + 1, by omega, by go_num, hBk, hbk⟩
                case measure => simp [intOf]; omega
          · have hiA2 : i = A + 1 := by omega
            have cB := hBi.int (k := B) (by rw [Hlen.out]; omega)
            rw [Hget.out i 0 B (Nat.le_refl _), if_neg (by omega), if_neg (by omega), hiA2, Nat.add_sub_cancel] at cB
            have e1 : ((A + 1 : Nat) : Int) = (A : Int) + 1 := by omega
            rw [hiA2, e1]
            clear e1 hiA2 hi hBi hiA
            have f1 : (B : Int) < ((B + 1 : Nat) : Int) := by omega
            go_wp2
            go_ret2
            exact ⟨rfl, hbi⟩
      | false =>
        have Hy := Lib.hid (fun i k h => wB_y (t := false) (i := i) (k := k) h)
        have Hn := Lib.hid (fun i k h => wB_n (t := false) (i := i) (k := k) h)
        have Hc : Hid (∀ i k, cnd false i k = decide (k < i)) := hide fun i k => rfl
        go_enter Try.func11, Try.ntmps11
        go_wp2_with fail
        refine (HA.out _).mono ?_
        rintro e w' ⟨rfl, rfl⟩
        go_wp2_with fail
        refine (HB.out _).mono ?_
        rintro e w' ⟨rfl, rfl⟩
        go_wp2_with (at_make; refine mk1 (n := B + 1) hBn rfl rfl rfl rfl ?_; intro w1 hB1 hb1 hs1)
        rw [H0.out] at hB1
        go_loopw [10] (fun i wr => ∃ i0 : Nat, i0 ≤ A + 1 ∧ i = .int .i64 (i0 : Int) ∧ Bk wr w.heap.size 2 (iv (rowW false B i0 0)) ∧ Below w.heap.size w wr) (fun i _ => A + 2 - (intOf i).toNat)
        case atStart => exact ⟨0, Nat.zero_le _, rfl, hB1, hb1⟩
        case round =>
          obtain ⟨i, hiA, rfl, hBi, hbi⟩ := hrel
          clear hB1 hb1
          obtain ⟨wo, rfl⟩ : ∃ wo : World, wo = wr := ⟨_, rfl⟩
          by_cases hi : i ≤ A
          · go_wp2
            go_loopw [11, 12] (fun k x wr => ∃ k0 : Nat, k0 ≤ B + 1 ∧ k = .int .i64 (k0 : Int) ∧ Bk wr w.heap.size 2 (iv (rowW false B i k0)) ∧ Below w.heap.size w wr) (fun k _ _ => B + 2 - (intOf k).toNat)
            case atStart => exact ⟨0, Nat.zero_le _, rfl, hBi, hbi⟩
            case round =>
              obtain ⟨k, hkB, rfl, hBk, hbk⟩ := hrel
              clear hBi hbi
              by_cases hk : k ≤ B
              · have ck := hBk.int (k := k) (by rw [Hlen.out]; omega)
                rw [Hget.out i k k hk, if_neg (by omega)] at ck
                have fk := hBk.free k
                have hst := hBk.seti k (wB false i k : Int)
                rw [Hset.out i k hk] at hst
                have Hst := hide hst
                have Hbs : Hid (∀ u, Below w.heap.size w (wr.setCell ⟨w.heap.size, k, none⟩ u)) := hide fun u => hbk.setCell (p := ⟨w.heap.size, k, none⟩) (Nat.le_refl _) u
                have hwik := HW.out i k (by omega)
                by_cases hi0 : i = 0
                · subst hi0
                  rw [if_pos rfl] at ck
                  clear hst hbk
                  by_cases hk0 : k = 0
                  · subst hk0
                    have g1 : (0 : Int) < ((B + 1 : Nat) : Int) := by omega
                    rw [show ((0 : Nat) : Int) = 0 from rfl]
                    go_wp2
                    go_roundw
                    case rel => exact ⟨0 + 1, by omega, by go_num, by first | exact Hst.out | (have h := Hst.out; rw [wB_00] at h; exact h) | (have h := Hst.out; rw [wB_00] at h; simpa using h), Hbs.out _⟩
                    case measure => first | (simp [intOf]; done) | (simp [intOf]; omega)
                  · obtain ⟨k2, rfl⟩ : ∃ k2, k = k2 + 1 := ⟨k - 1, by omega⟩
                    have cp := hBk.int (k := k2) (by rw [Hlen.out]; omega)
                    rw [Hget.out 0 (k2 + 1) k2 (by omega), if_pos (by omega)] at cp
                    have hwp := HW.out 0 k2 (by omega)
                    generalize wB false 0 k2 = p at cp hwp
                    clear hBk
                    have g1 : ((k2 + 1 : Nat) : Int) = (k2 : Int) + 1 := by omega
                    rw [g1]
                    have g2 : ((k2 : Int) + 1).toNat = k2 + 1 := by omega
                    have g3 : decide (-((k2 : Int) + 1) < 1) = true := decide_eq_true (by omega)
                    have g4 : decide ((0 : Int) - ((k2 : Int) + 1) < 1) = true := decide_eq_true (by omega)
                    clear g1
                    go_wp2
                    go_roundw
                    case rel => exact ⟨k2 + 1 + 1, by omega, by go_num, by first | exact Hst.out | (have h := Hst.out; rw [wB_0] at h; exact h) | (have h := Hst.out; rw [wB_0] at h; simpa using h), Hbs.out _⟩
                    case measure => first | (simp [intOf]; done) | (simp [intOf]; omega)
                · obtain ⟨i2, rfl⟩ : ∃ i2, i = i2 + 1 := ⟨i - 1, by omega⟩
                  rw [if_neg (by omega), Nat.add_sub_cancel] at ck
                  have hwc := HW.out i2 k (by omega)
                  clear hst hbk
                  by_cases hk0 : k = 0
                  · subst hk0
                    have hv := hide (wB_i0 false i2)
                    generalize wB false i2 0 = p at ck hwc hv
                    clear hBk
                    have g1 : ((i2 + 1 : Nat) : Int) = (i2 : Int) + 1 := by omega
                    rw [show ((0 : Nat) : Int) = 0 from rfl, g1]
                    have g3 : decide ((i2 : Int) + 1 < 1) = false := decide_eq_false (by omega)
                    have g5 : (0 : Int) < ((B + 1 : Nat) : Int) := by omega
                    clear g1
                    go_wp2
                    go_roundw
                    case rel => exact ⟨0 + 1, by omega, by go_num, by first | exact Hst.out | (have h := Hst.out; rw [hv.out] at h; exact h) | (have h := Hst.out; rw [hv.out] at h; simpa using h), Hbs.out _⟩
                    case measure => first | (simp [intOf]; done) | (simp [intOf]; omega)
                  · obtain ⟨k2, rfl⟩ : ∃ k2, k = k2 + 1 := ⟨k - 1, by omega⟩
                    have cp := hBk.int (k := k2) (by rw [Hlen.out]; omega)
                    rw [Hget.out (i2 + 1) (k2 + 1) k2 (by omega), if_pos (by omega)] at cp
                    have hwp := HW.out (i2 + 1) k2 (by omega)
                    have hcc := Hc.out (i2 + 1) (k2 + 1)
                    have hy := hide (fun h => Hy.out i2 k2 h)
                    have hn := hide (fun h => Hn.out i2 k2 h)
                    generalize wB false i2 (k2 + 1) = p at ck hwc hy
                    generalize wB false (i2 + 1) k2 = p2 at cp hwp hy
                    clear hBk
                    have g1 : ((k2 + 1 : Nat) : Int) = (k2 : Int) + 1 := by omega
                    have g0 : ((i2 + 1 : Nat) : Int) = (i2 : Int) + 1 := by omega
                    have g2 : ((k2 : Int) + 1).toNat = k2 + 1 := by omega
                    by_cases hlt : k2 + 1 < i2 + 1
                    · have hv := hide (hy.out (by rw [hcc]; exact decide_eq_true hlt))
                      clear hy hn hcc
                      rw [g0, g1]
                      have g3 : decide ((i2 : Int) + 1 - ((k2 : Int) + 1) < 1) = false := decide_eq_false (by omega)
                      clear g0 g1
                      go_wp2
                      go_roundw
                      case rel => exact ⟨k2 + 1 + 1, by omega, by go_num, by first | exact Hst.out | (have h := Hst.out; rw [hv.out] at h; exact h) | (have h := Hst.out; rw [hv.out] at h; simpa using h), Hbs.out _⟩
                      case measure => first | (simp [intOf]; done) | (simp [intOf]; omega)
                    · have hv := hide (hn.out (by rw [hcc]; exact decide_eq_false hlt))
                      clear hy hn hcc
                      rw [g0, g1]
                      have g3 : decide ((i2 : Int) + 1 - ((k2 : Int) + 1) < 1) = true := decide_eq_true (by omega)
                      clear g0 g1
                      go_wp2
                      go_roundw
                      case rel => exact ⟨k2 + 1 + 1, by omega, by go_num, by first | exact Hst.out | (have h := Hst.out; rw [hv.out] at h; exact h) | (have h := Hst.out; rw [hv.out] at h; simpa using h), Hbs.out _⟩
                      case measure => first | (simp [intOf]; done) | (simp [intOf]; omega)
              · have hkB2 : k = B + 1 := by omega
                subst hkB2
                rw [Hnext.out] at hBk
                have e1 : ((B + 1 : Nat) : Int) = (B : Int) + 1 := by omega
                rw [e1]
                clear e1
                go_wp2
                go_roundw
                case rel => exact ⟨i + 1, by omega, by go_num, hBk, hbk⟩
                case measure => simp [intOf]; omega
          · have hiA2 : i = A + 1 := by omega
            have cB := hBi.int (k := B) (by rw [Hlen.out]; omega)
            rw [Hget.out i 0 B (Nat.le_refl _), if_neg (by omega), if_neg (by omega), hiA2, Nat.add_sub_cancel] at cB
            have e1 : ((A + 1 : Nat) : Int) = (A : Int) + 1 := by omega
            rw [hiA2, e1]
            clear e1 hiA2 hi hBi hiA
            have f1 : (B : Int) < ((B + 1 : Nat) : Int) := by omega
            go_wp2
            go_ret2
            exact ⟨rfl, hbi⟩
end Go.Proofs.Ytbganjcnhnkakaa
