/- Contracts of PurseRow, both sides. Conditions: none. -/
import Derived.Test.YtajpieblbijciaaPowS
namespace Go.Proofs.Ytajpieblbijciaa
open Go.ChangeShapes Go.WideShapes Go.ChangeAt Go.RowKit

/-! ### the plain function, wraps and all -/
def prS (m : Nat) (p q : Int) (row nx : List Int) (k : Nat) : List Int :=
  if k = 0 ∨ k = m then nx.set k (wrap64 (nx.getD k 0 + wrap64 (q * row.getD k 0)))
  else (nx.set (k + 1) (wrap64 (nx.getD (k + 1) 0 + wrap64 (p * row.getD k 0)))).set (k - 1) (wrap64 (nx.getD (k - 1) 0 + wrap64 ((q - p) * row.getD k 0)))
def prIn (m : Nat) (p q : Int) (row : List Int) : Nat → List Int
  | 0 => List.replicate (m + 1) 0
  | k + 1 => prS m p q row (prIn m p q row k) k
theorem prIn_len (m : Nat) (p q : Int) (row : List Int) (k : Nat) : (prIn m p q row k).length = m + 1 := by
  induction k with
  | zero => simp [prIn]
  | succ k ih =>
    unfold prIn prS
    split <;> simp [ih]
def prRow (m u : Nat) (p q : Int) : Nat → List Int
  | 0 => (List.replicate (m + 1) 0).set u 1
  | t + 1 => prIn m p q (prRow m u p q t) (m + 1)
theorem prRow_len (m u : Nat) (p q : Int) (t : Nat) : (prRow m u p q t).length = m + 1 := by
  cases t with
  | zero => simp [prRow]
  | succ t => rw [prRow, prIn_len]
theorem prS_end {m k : Nat} {p q : Int} {row nx : List Int} (h : k = 0 ∨ k = m) : prS m p q row nx k = nx.set k (wrap64 (nx.getD k 0 + wrap64 (q * row.getD k 0))) := by rw [prS, if_pos h]
theorem prS_mid {m k : Nat} {p q : Int} {row nx : List Int} (h : ¬ (k = 0 ∨ k = m)) :
    prS m p q row nx k = (nx.set (k + 1) (wrap64 (nx.getD (k + 1) 0 + wrap64 (p * row.getD k 0)))).set (k - 1) (wrap64 (nx.getD (k - 1) 0 + wrap64 ((q - p) * row.getD k 0))) := by rw [prS, if_neg h]
def purseB (u m p q : Int) : Bool := inB m 1 10 && (inB u 0 m && (inB q 2 10 && inB p 1 (q - 1)))
theorem purseB_iff {u m p q : Int} : purseB u m p q = true ↔ (1 ≤ m ∧ m ≤ 10) ∧ (0 ≤ u ∧ u ≤ m) ∧ (2 ≤ q ∧ q ≤ 10) ∧ (1 ≤ p ∧ p ≤ q - 1) := by simp [purseB, inB_iff]
def pwN (q k : Nat) : Nat := q ^ k
def prOk (u m p q t : Int) : Bool := purseB u m p q && inB t 0 12
def RPurseRow (u m p q t : Int) : List Int × Int × Bool := if prOk u m p q t = true then (prRow m.toNat u.toNat p q t.toNat, ((pwN q.toNat t.toNat : Nat) : Int), true) else ([], 0, false)
theorem RPurseRow_len0 (u m p q t : Int) : (RPurseRow u m p q t).1.length ≤ 1048576 := by
  unfold RPurseRow
  split
  · rename_i h
    simp only [prOk, Bool.and_eq_true, purseB_iff] at h
    rw [prRow_len]
    omega
  · simp
theorem rep0 (n u : Nat) : (List.replicate n (0 : Int)).getD u 0 = 0 := by
  by_cases h : u < n <;> simp [List.getD, h]
theorem pow_le10 {s e : Nat} (hs : s ≤ 10) (he : e ≤ 12) : s ^ e ≤ 1000000000000 := by
  have h1 : s ^ e ≤ 10 ^ e := Nat.pow_le_pow_left hs e
  have h2 : (10 : Nat) ^ e ≤ 10 ^ 12 := Nat.pow_le_pow_right (by omega) he
  have h3 : (10 : Nat) ^ 12 = 1000000000000 := by decide
  omega

set_option maxHeartbeats 400000 in
theorem sPurse (u m p q : Int) (w : World) :
    Calls Try.prog 36 #[.int .i64 u, .int .i64 m, .int .i64 p, .int .i64 q] w fun e w' => e = .returned (.bool (purseB u m p q)) ∧ w = w' := by
  cases h1 : inB m 1 10 with
  | false =>
    rw [show purseB u m p q = false from by simp [purseB, h1]]
    go_enter Try.func36, Try.ntmps36
    go_wp2_with (go_at_call 32; refine (sIn _ _ _ _).mono ?_; rintro e w' ⟨rfl, rfl⟩)
    go_ret
    exact ⟨rfl, rfl⟩
  | true =>
    cases h2 : inB u 0 m with
    | false =>
      rw [show purseB u m p q = false from by simp [purseB, h2]]
      go_enter Try.func36, Try.ntmps36
      go_wp2_with (go_at_call 32; refine (sIn _ _ _ _).mono ?_; rintro e w' ⟨rfl, rfl⟩)
      go_ret
      exact ⟨rfl, rfl⟩
    | true =>
      cases h3 : inB q 2 10 with
      | false =>
        rw [show purseB u m p q = false from by simp [purseB, h3]]
        go_enter Try.func36, Try.ntmps36
        go_wp2_with (go_at_call 32; refine (sIn _ _ _ _).mono ?_; rintro e w' ⟨rfl, rfl⟩)
        go_ret
        exact ⟨rfl, rfl⟩
      | true =>
        rw [show purseB u m p q = inB p 1 (q - 1) from by simp [purseB, h1, h2, h3]]
        obtain ⟨b1, b2⟩ := inB_iff.1 h3
        go_enter Try.func36, Try.ntmps36
        go_wp2_with (go_at_call 32; refine (sIn _ _ _ _).mono ?_; rintro e w' ⟨rfl, rfl⟩)
        go_ret
        exact ⟨rfl, rfl⟩

set_option maxHeartbeats 400000 in
theorem iPurse (u m p q : Int) (w : World) :
    Calls Try.prog 38 #[.int .i64 u, .int .i64 m, .int .i64 p, .int .i64 q] w fun e w' => e = .returned (.bool (purseB u m p q)) ∧ w = w' := by
  cases h1 : inB m 1 10 with
  | false =>
    rw [show purseB u m p q = false from by simp [purseB, h1]]
    go_enter Try.func38, Try.ntmps38
    go_wp2_with (go_at_call 34; refine (iIn _ _ _ _).mono ?_; rintro e w' ⟨rfl, rfl⟩)
    go_ret
    exact ⟨rfl, rfl⟩
  | true =>
    cases h2 : inB u 0 m with
    | false =>
      rw [show purseB u m p q = false from by simp [purseB, h2]]
      go_enter Try.func38, Try.ntmps38
      go_wp2_with (go_at_call 34; refine (iIn _ _ _ _).mono ?_; rintro e w' ⟨rfl, rfl⟩)
      go_ret
      exact ⟨rfl, rfl⟩
    | true =>
      cases h3 : inB q 2 10 with
      | false =>
        rw [show purseB u m p q = false from by simp [purseB, h3]]
        go_enter Try.func38, Try.ntmps38
        go_wp2_with (go_at_call 34; refine (iIn _ _ _ _).mono ?_; rintro e w' ⟨rfl, rfl⟩)
        go_ret
        exact ⟨rfl, rfl⟩
      | true =>
        rw [show purseB u m p q = inB p 1 (q - 1) from by simp [purseB, h1, h2, h3]]
        obtain ⟨b1, b2⟩ := inB_iff.1 h3
        go_enter Try.func38, Try.ntmps38
        go_wp2_with (go_at_call 34; refine (iIn _ _ _ _).mono ?_; rintro e w' ⟨rfl, rfl⟩)
        go_ret
        exact ⟨rfl, rfl⟩

set_option maxHeartbeats 3200000 in
theorem iPurseRow (u m p q t : Int) (w : World) (_w0 : (Lit.int .i64 u).wf = true) (_w1 : (Lit.int .i64 m).wf = true) (_w2 : (Lit.int .i64 p).wf = true) (_w3 : (Lit.int .i64 q).wf = true) (_w4 : (Lit.int .i64 t).wf = true) :
    Calls Try.prog 21 #[.int .i64 u, .int .i64 m, .int .i64 p, .int .i64 q, .int .i64 t] w fun e w' => ∃ r, e = .returned (.tuple #[r, .int .i64 (RPurseRow u m p q t).2.1, .bool (RPurseRow u m p q t).2.2]) ∧ Own w' w.heap.size w'.heap.size r (RPurseRow u m p q t).1 ∧ Below w.heap.size w w' := by
  cases hA : purseB u m p q with
  | false =>
    rw [show RPurseRow u m p q t = ([], 0, false) from by rw [RPurseRow, if_neg (by simp [prOk, hA])]]
    go_enter Try.func21, Try.ntmps21
    go_wp2_with (first | (go_at_call 38; refine (iPurse _ _ _ _ _).mono ?_; rintro e w' ⟨rfl, rfl⟩))
    go_ret3
    exact ⟨_, rfl, Own.nil _ _ _, Below.refl _ _⟩
  | true =>
    cases hT : inB t 0 12 with
    | false =>
      rw [show RPurseRow u m p q t = ([], 0, false) from by rw [RPurseRow, if_neg (by simp [prOk, hT])]]
      go_enter Try.func21, Try.ntmps21
      go_wp2_with (first | (go_at_call 38; refine (iPurse _ _ _ _ _).mono ?_; rintro e w' ⟨rfl, rfl⟩) | (go_at_call 34; refine (iIn _ _ _ _).mono ?_; rintro e w' ⟨rfl, rfl⟩))
      go_ret3
      exact ⟨_, rfl, Own.nil _ _ _, Below.refl _ _⟩
    | true =>
      rw [show RPurseRow u m p q t = (prRow m.toNat u.toNat p q t.toNat, ((pwN q.toNat t.toNat : Nat) : Int), true) from by rw [RPurseRow, if_pos (by simp [prOk, hA, hT])]]
      obtain ⟨⟨h1, h2⟩, ⟨h3, h4⟩, ⟨h5, h6⟩, h7, h8⟩ := purseB_iff.1 hA
      obtain ⟨h9, h10⟩ := inB_iff.1 hT
      obtain ⟨m, rfl⟩ := Int.eq_ofNat_of_zero_le (show 0 ≤ m by omega)
      obtain ⟨u, rfl⟩ := Int.eq_ofNat_of_zero_le (show 0 ≤ u by omega)
      obtain ⟨q, rfl⟩ := Int.eq_ofNat_of_zero_le (show 0 ≤ q by omega)
      obtain ⟨t, rfl⟩ := Int.eq_ofNat_of_zero_le (show 0 ≤ t by omega)
      simp only [Int.toNat_natCast]
      go_enter Try.func21, Try.ntmps21
      go_wp2_with (first | (go_at_call 38; refine (iPurse _ _ _ _ _).mono ?_; rintro e w' ⟨rfl, rfl⟩) | (go_at_call 34; refine (iIn _ _ _ _).mono ?_; rintro e w' ⟨rfl, rfl⟩) | (at_make; refine mk1 (n := m + 1) (by omega) rfl rfl rfl rfl ?_; intro w1 hB1 hb1 hz1; have hc1 := hB1.int (k := u) (by simp; omega); rw [rep0] at hc1; have hf1 := hB1.free u))
      have hB2 := hB1.seti u 1
      have hb2 := hb1.setCell (p := ⟨w.heap.size, u, none⟩) (Nat.le_refl _) (.int .i64 1)
      clear hc1 hf1 hB1 hb1
      generalize w1.setCell ⟨w.heap.size, u, none⟩ (.int .i64 1) = w2 at *
      clear hz1
      go_loopw [13, 14, 36] (fun r al i wr => ∃ k g : Nat, k ≤ t ∧ i = .int .i64 k ∧ r = .slice (some ⟨g, 0, none⟩) (m + 1) (m + 1) ∧ al = .int .i64 ((pwN q k : Nat) : Int) ∧ Bk wr g 2 (iv (prRow m u p q k)) ∧ w.heap.size ≤ g ∧ Below w.heap.size w wr) (fun _ _ i _ => t - (intOf i).toNat)
      case atStart => exact ⟨0, w.heap.size, Nat.zero_le _, rfl, rfl, rfl, hB2, Nat.le_refl _, hb2⟩
      case round =>
        clear hB2 hb2
        obtain ⟨k, g, hk, rfl, rfl, rfl, hB, hg, hb⟩ := hrel
        have hlen := prRow_len m u p q k
        have Hlen := hide hlen
        clear hlen
        by_cases hlt : k < t
        · go_wp2_with (at_make; refine mk1 (n := m + 1) (by omega) rfl rfl rfl rfl ?_; intro w1 hB1 hb1 hz1)
          have hgw : g < wr.heap.size := hB.lt
          have hBr := hB.below hb1 hgw
          have hbw := hb.trans (hb1.mono hb.size)
          have hzw := hb.size
          generalize hR : prRow m u p q k = row at *
          have HR := hide hR
          rw [show List.replicate (m + 1) (0 : Int) = prIn m p q row 0 from rfl] at hB1
          clear hB hb1 hb hR
          generalize hG2 : wr.heap.size = g2 at *
          clear hG2 hz1
          go_loopw [43] (fun i wx => ∃ j : Nat, j ≤ m + 1 ∧ i = .int .i64 j ∧ Bk wx g 2 (iv row) ∧ Bk wx g2 2 (iv (prIn m p q row j)) ∧ Below w.heap.size w wx) (fun i _ => m + 1 - (intOf i).toNat)
          case atStart => exact ⟨0, Nat.zero_le _, rfl, hBr, hB1, hbw⟩
          case round =>
            clear hBr hB1 hbw
            obtain ⟨j, hj, rfl, hBr, hB1, hbw⟩ := hrel
            have hl2 := prIn_len m p q row j
            have Hl2 := hide hl2
            clear hl2
            by_cases hjt : j < m + 1
            · have hc1 := hBr.int (k := j) (by rw [Hlen.out]; exact hjt)
              by_cases hje : j = 0 ∨ j = m
              · have hst := prS_end (p := p) (q := q) (row := row) (nx := prIn m p q row j) hje
                have hc2 := hB1.int (k := j) (by rw [Hl2.out]; omega)
                have hf2 := hB1.free j
                have HB := hide (hB1.seti j (wrap64 ((prIn m p q row j).getD j 0 + wrap64 ((q : Int) * row.getD j 0))))
                rw [← hst] at HB
                have HBr := hide hBr
                have Hbw := hide hbw
                clear hst hBr hB1 hbw
                generalize row.getD j 0 = y at *
                generalize (prIn m p q row j).getD j 0 = x0 at *
                by_cases hj0 : j = 0
                · have hz0 : ((j : Int) == 0) = true := by simpa using hj0
                  have Hj0 := hide hj0
                  clear hj0 hje
                  go_wp2
                  go_roundw
                  case rel => exact ⟨j + 1, by omega, by go_num, HBr.out.far (by show g ≠ g2; omega) _, HB.out, (by first | exact (Hbw.out.setCell hzw _).drew | exact (Hbw.out.setCell hzw _))⟩
                  case measure => simp [intOf]; omega
                · have hz0 : ((j : Int) == 0) = false := by simpa using hj0
                  have hzm : ((j : Int) == (m : Int)) = true := by simp; omega
                  have Hjm : Hid (j = m) := hide (by omega)
                  clear hje
                  go_wp2
                  go_roundw
                  case rel => exact ⟨j + 1, by omega, by go_num, HBr.out.far (by show g ≠ g2; omega) _, HB.out, (by first | exact (Hbw.out.setCell hzw _).drew | exact (Hbw.out.setCell hzw _))⟩
                  case measure => simp [intOf]; omega
              · have hst := prS_mid (p := p) (q := q) (row := row) (nx := prIn m p q row j) hje
                have hc2 := hB1.int (k := j + 1) (by rw [Hl2.out]; omega)
                have hf2 := hB1.free (j + 1)
                have hc3 := hB1.int (k := j - 1) (by rw [Hl2.out]; omega)
                have hf3 := hB1.free (j - 1)
                have HB := hide ((hB1.seti (j + 1) (wrap64 ((prIn m p q row j).getD (j + 1) 0 + wrap64 (p * row.getD j 0)))).seti (j - 1) (wrap64 ((prIn m p q row j).getD (j - 1) 0 + wrap64 (((q : Int) - p) * row.getD j 0))))
                rw [← hst] at HB
                have HBr := hide hBr
                have Hbw := hide hbw
                have hz0 : ((j : Int) == 0) = false := by simp; omega
                have hzm : ((j : Int) == (m : Int)) = false := by simp; omega
                have hj1 : 1 ≤ j := by omega
                have hjm1 : j < m := by omega
                clear hst hBr hB1 hbw hje
                generalize row.getD j 0 = y at *
                generalize (prIn m p q row j).getD (j + 1) 0 = x0 at *
                generalize (prIn m p q row j).getD (j - 1) 0 = x1 at *
                go_wp2
                go_roundw
                case rel => exact ⟨j + 1, by omega, by go_num, (HBr.out.far (by show g ≠ g2; omega) _).far (by show g ≠ g2; omega) _, HB.out, (by first | exact ((Hbw.out.setCell hzw _).setCell hzw _).drew.drew | exact ((Hbw.out.setCell hzw _).setCell hzw _).drew | exact ((Hbw.out.setCell hzw _).setCell hzw _))⟩
                case measure => simp [intOf]; omega
            · have hjn : j = m + 1 := by omega
              have HB : Hid (Bk _ g2 2 (iv (prRow m u p q (k + 1)))) := hide (by rw [prRow, HR.out, ← hjn]; exact hB1)
              have Hbw := hide hbw
              have hjm : m < j := by omega
              clear hBr hB1 hbw hjn hj hjt
              obtain ⟨pb, pe⟩ := pow_step (x := q) (k := k) (n := t) (by omega) hlt (Nat.le_trans (pow_le10 (by omega) (by omega)) (by omega))
              have Pe : Hid (pwN q (k + 1) = pwN q k * q) := hide pe
              have pb' : pwN q k * q ≤ 4611686018427387904 := pb
              clear pe pb
              generalize pwN q k = pk at *
              have hb2 : (pk : Int) * (q : Int) ≤ 4611686018427387904 := by rw [← Int.natCast_mul]; omega
              have hb3 : (0 : Int) ≤ (pk : Int) * (q : Int) := by rw [← Int.natCast_mul]; omega
              go_wp2
              go_roundw
              case rel => exact ⟨k + 1, g2, by omega, by go_num, rfl, by rw [Pe.out, Int.natCast_mul], HB.out, by omega, Hbw.out⟩
              case measure => simp [intOf]; omega
        · have hkt : k = t := by omega
          subst hkt
          have Ho := hide (hB.owned hg (by rw [Hlen.out]; unfold maxLen; omega))
          rw [Hlen.out] at Ho
          have Hb := hide hb
          clear hb
          go_wp2
          go_ret3
          exact ⟨_, rfl, Ho.out, Hb.out⟩

set_option maxHeartbeats 3200000 in
theorem sPurseRow (u m p q t : Int) (w : World) (_w0 : (Lit.int .i64 u).wf = true) (_w1 : (Lit.int .i64 m).wf = true) (_w2 : (Lit.int .i64 p).wf = true) (_w3 : (Lit.int .i64 q).wf = true) (_w4 : (Lit.int .i64 t).wf = true) :
    Calls Try.prog 20 #[.int .i64 u, .int .i64 m, .int .i64 p, .int .i64 q, .int .i64 t] w fun e w' => ∃ r, e = .returned (.tuple #[r, .int .i64 (RPurseRow u m p q t).2.1, .bool (RPurseRow u m p q t).2.2]) ∧ Own w' w.heap.size w'.heap.size r (RPurseRow u m p q t).1 ∧ Below w.heap.size w w' := by
  cases hA : purseB u m p q with
  | false =>
    rw [show RPurseRow u m p q t = ([], 0, false) from by rw [RPurseRow, if_neg (by simp [prOk, hA])]]
    go_enter Try.func20, Try.ntmps20
    go_wp2_with (first | (go_at_call 36; refine (sPurse _ _ _ _ _).mono ?_; rintro e w' ⟨rfl, rfl⟩))
    go_ret3
    exact ⟨_, rfl, Own.nil _ _ _, Below.refl _ _⟩
  | true =>
    cases hT : inB t 0 12 with
    | false =>
      rw [show RPurseRow u m p q t = ([], 0, false) from by rw [RPurseRow, if_neg (by simp [prOk, hT])]]
      go_enter Try.func20, Try.ntmps20
      go_wp2_with (first | (go_at_call 36; refine (sPurse _ _ _ _ _).mono ?_; rintro e w' ⟨rfl, rfl⟩) | (go_at_call 32; refine (sIn _ _ _ _).mono ?_; rintro e w' ⟨rfl, rfl⟩))
      go_ret3
      exact ⟨_, rfl, Own.nil _ _ _, Below.refl _ _⟩
    | true =>
      rw [show RPurseRow u m p q t = (prRow m.toNat u.toNat p q t.toNat, ((pwN q.toNat t.toNat : Nat) : Int), true) from by rw [RPurseRow, if_pos (by simp [prOk, hA, hT])]]
      obtain ⟨⟨h1, h2⟩, ⟨h3, h4⟩, ⟨h5, h6⟩, h7, h8⟩ := purseB_iff.1 hA
      obtain ⟨h9, h10⟩ := inB_iff.1 hT
      obtain ⟨m, rfl⟩ := Int.eq_ofNat_of_zero_le (show 0 ≤ m by omega)
      obtain ⟨u, rfl⟩ := Int.eq_ofNat_of_zero_le (show 0 ≤ u by omega)
      obtain ⟨q, rfl⟩ := Int.eq_ofNat_of_zero_le (show 0 ≤ q by omega)
      obtain ⟨t, rfl⟩ := Int.eq_ofNat_of_zero_le (show 0 ≤ t by omega)
      simp only [Int.toNat_natCast]
      go_enter Try.func20, Try.ntmps20
      go_wp2_with (first | (go_at_call 36; refine (sPurse _ _ _ _ _).mono ?_; rintro e w' ⟨rfl, rfl⟩) | (go_at_call 32; refine (sIn _ _ _ _).mono ?_; rintro e w' ⟨rfl, rfl⟩) | (at_make; refine mk1 (n := m + 1) (by omega) rfl rfl rfl rfl ?_; intro w1 hB1 hb1 hz1; have hc1 := hB1.int (k := u) (by simp; omega); rw [rep0] at hc1; have hf1 := hB1.free u))
      have hB2 := hB1.seti u 1
      have hb2 := hb1.setCell (p := ⟨w.heap.size, u, none⟩) (Nat.le_refl _) (.int .i64 1)
      clear hc1 hf1 hB1 hb1
      generalize w1.setCell ⟨w.heap.size, u, none⟩ (.int .i64 1) = w2 at *
      clear hz1
      go_loopw [13, 14] (fun r i wr => ∃ k g : Nat, k ≤ t ∧ i = .int .i64 k ∧ r = .slice (some ⟨g, 0, none⟩) (m + 1) (m + 1) ∧ Bk wr g 2 (iv (prRow m u p q k)) ∧ w.heap.size ≤ g ∧ Below w.heap.size w wr) (fun _ i _ => t - (intOf i).toNat)
      case atStart => exact ⟨0, w.heap.size, Nat.zero_le _, rfl, rfl, hB2, Nat.le_refl _, hb2⟩
      case round =>
        clear hB2 hb2
        obtain ⟨k, g, hk, rfl, rfl, hB, hg, hb⟩ := hrel
        have hlen := prRow_len m u p q k
        have Hlen := hide hlen
        clear hlen
        by_cases hlt : k < t
        · go_wp2_with (at_make; refine mk1 (n := m + 1) (by omega) rfl rfl rfl rfl ?_; intro w1 hB1 hb1 hz1)
          have hgw : g < wr.heap.size := hB.lt
          have hBr := hB.below hb1 hgw
          have hbw := hb.trans (hb1.mono hb.size)
          have hzw := hb.size
          generalize hR : prRow m u p q k = row at *
          have HR := hide hR
          rw [show List.replicate (m + 1) (0 : Int) = prIn m p q row 0 from rfl] at hB1
          clear hB hb1 hb hR
          generalize hG2 : wr.heap.size = g2 at *
          clear hG2 hz1
          go_loopw [16] (fun i wx => ∃ j : Nat, j ≤ m + 1 ∧ i = .int .i64 j ∧ Bk wx g 2 (iv row) ∧ Bk wx g2 2 (iv (prIn m p q row j)) ∧ Below w.heap.size w wx) (fun i _ => m + 1 - (intOf i).toNat)
          case atStart => exact ⟨0, Nat.zero_le _, rfl, hBr, hB1, hbw⟩
          case round =>
            clear hBr hB1 hbw
            obtain ⟨j, hj, rfl, hBr, hB1, hbw⟩ := hrel
            have hl2 := prIn_len m p q row j
            have Hl2 := hide hl2
            clear hl2
            by_cases hjt : j < m + 1
            · have hc1 := hBr.int (k := j) (by rw [Hlen.out]; exact hjt)
              by_cases hje : j = 0 ∨ j = m
              · have hst := prS_end (p := p) (q := q) (row := row) (nx := prIn m p q row j) hje
                have hc2 := hB1.int (k := j) (by rw [Hl2.out]; omega)
                have hf2 := hB1.free j
                have HB := hide (hB1.seti j (wrap64 ((prIn m p q row j).getD j 0 + wrap64 ((q : Int) * row.getD j 0))))
                rw [← hst] at HB
                have HBr := hide hBr
                have Hbw := hide hbw
                clear hst hBr hB1 hbw
                generalize row.getD j 0 = y at *
                generalize (prIn m p q row j).getD j 0 = x0 at *
                by_cases hj0 : j = 0
                · have hz0 : ((j : Int) == 0) = true := by simpa using hj0
                  have Hj0 := hide hj0
                  clear hj0 hje
                  go_wp2
                  go_region
                  all_goals go_wp2
                  all_goals go_roundw
                  case rel => exact ⟨j + 1, by omega, by go_num, HBr.out.far (by show g ≠ g2; omega) _, HB.out, (by first | exact (Hbw.out.setCell hzw _).drew | exact (Hbw.out.setCell hzw _))⟩
                  case measure => simp [intOf]; omega
                · have hz0 : ((j : Int) == 0) = false := by simpa using hj0
                  have hzm : ((j : Int) == (m : Int)) = true := by simp; omega
                  have Hjm : Hid (j = m) := hide (by omega)
                  clear hje
                  go_wp2
                  go_region
                  all_goals go_wp2
                  all_goals go_roundw
                  case rel => exact ⟨j + 1, by omega, by go_num, HBr.out.far (by show g ≠ g2; omega) _, HB.out, (by first | exact (Hbw.out.setCell hzw _).drew | exact (Hbw.out.setCell hzw _))⟩
                  case measure => simp [intOf]; omega
              · have hst := prS_mid (p := p) (q := q) (row := row) (nx := prIn m p q row j) hje
                have hc2 := hB1.int (k := j + 1) (by rw [Hl2.out]; omega)
                have hf2 := hB1.free (j + 1)
                have hc3 := hB1.int (k := j - 1) (by rw [Hl2.out]; omega)
                have hf3 := hB1.free (j - 1)
                have HB := hide ((hB1.seti (j + 1) (wrap64 ((prIn m p q row j).getD (j + 1) 0 + wrap64 (p * row.getD j 0)))).seti (j - 1) (wrap64 ((prIn m p q row j).getD (j - 1) 0 + wrap64 (((q : Int) - p) * row.getD j 0))))
                rw [← hst] at HB
                have HBr := hide hBr
                have Hbw := hide hbw
                have hz0 : ((j : Int) == 0) = false := by simp; omega
                have hzm : ((j : Int) == (m : Int)) = false := by simp; omega
                have hj1 : 1 ≤ j := by omega
                have hjm1 : j < m := by omega
                clear hst hBr hB1 hbw hje
                generalize row.getD j 0 = y at *
                generalize (prIn m p q row j).getD (j + 1) 0 = x0 at *
                generalize (prIn m p q row j).getD (j - 1) 0 = x1 at *
                go_wp2
                go_region
                all_goals go_wp2
                all_goals go_region
                all_goals go_wp2
                all_goals go_roundw
                case rel => exact ⟨j + 1, by omega, by go_num, (HBr.out.far (by show g ≠ g2; omega) _).far (by show g ≠ g2; omega) _, HB.out, (by first | exact ((Hbw.out.setCell hzw _).setCell hzw _).drew.drew | exact ((Hbw.out.setCell hzw _).setCell hzw _).drew | exact ((Hbw.out.setCell hzw _).setCell hzw _))⟩
                case measure => simp [intOf]; omega
            · have hjn : j = m + 1 := by omega
              have HB : Hid (Bk _ g2 2 (iv (prRow m u p q (k + 1)))) := hide (by rw [prRow, HR.out, ← hjn]; exact hB1)
              have Hbw := hide hbw
              have hjm : m < j := by omega
              clear hBr hB1 hbw hjn hj hjt
              go_wp2
              go_roundw
              case rel => exact ⟨k + 1, g2, by omega, by go_num, rfl, HB.out, by omega, Hbw.out⟩
              case measure => simp [intOf]; omega
        · have hkt : k = t := by omega
          subst hkt
          have Ho := hide (hB.owned hg (by rw [Hlen.out]; unfold maxLen; omega))
          rw [Hlen.out] at Ho
          have Hb := hide hb
          clear hb
          have HP : Hid (∀ W, Calls Try.prog 37 #[.int .i64 q, .int .i64 k] W fun e w' => e = .returned (.int .i64 ((pwN q k : Nat) : Int)) ∧ W = w') := hide (fun W => sPow q k W (by omega) (by omega) (by omega) (Nat.le_trans (pow_le10 (by omega) (by omega)) (by omega)))
          generalize hpk : pwN q k = pk at *
          have Hpk := hide hpk
          clear hpk
          go_wp2_with (go_at_call 37; refine (HP.out _).mono ?_; rintro e w' ⟨rfl, rfl⟩)
          go_ret3
          refine ⟨_, ?_, Ho.out, Hb.out⟩
          rw [← Hpk.out]
          rfl
end Go.Proofs.Ytajpieblbijciaa
