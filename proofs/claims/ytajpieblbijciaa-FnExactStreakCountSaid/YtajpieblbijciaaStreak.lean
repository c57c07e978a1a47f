/- Contracts of the counts of words without streaks, both sides. Conditions: lengths at most 2^20. -/
import Derived.Test.YtajpieblbijciaaNum
namespace Go.Proofs.Ytajpieblbijciaa
open Go.ChangeShapes Go.WideShapes Go.ChangeAt Go.RowKit

/-! ### the plain functions, wraps and all -/
def bump (nx : List Int) (j : Nat) (x : Int) : List Int := nx.set j (wrap64 (nx.getD j 0 + x))
theorem bump_len (nx : List Int) (j : Nat) (x : Int) : (bump nx j x).length = nx.length := by simp [bump]
def stA (row nx : List Int) (k : Nat) : List Int := bump nx 0 (row.getD k 0)
def stB (row nx : List Int) (k : Nat) : List Int := if k + 1 < row.length then bump (stA row nx k) (k + 1) (row.getD k 0) else stA row nx k
def inTo (row : List Int) : Nat → List Int
  | 0 => List.replicate row.length 0
  | k + 1 => stB row (inTo row k) k
theorem stA_len (row nx : List Int) (k : Nat) : (stA row nx k).length = nx.length := bump_len _ _ _
theorem inTo_len (row : List Int) (k : Nat) : (inTo row k).length = row.length := by
  induction k with
  | zero => simp [inTo]
  | succ k ih =>
    unfold inTo stB
    split
    · rw [bump_len, stA_len, ih]
    · rw [stA_len, ih]
def rowTo (n : Nat) : Nat → List Int
  | 0 => (List.replicate n 0).set 0 1
  | t + 1 => inTo (rowTo n t) n
theorem rowTo_len (n t : Nat) : (rowTo n t).length = n := by
  cases t with
  | zero => simp [rowTo]
  | succ t =>
    rw [rowTo, inTo_len]
    induction t with
    | zero => simp [rowTo]
    | succ t ih => rw [rowTo, inTo_len, ih]
def sumTo (row : List Int) : Nat → Int
  | 0 => 0
  | k + 1 => wrap64 (sumTo row k + row.getD k 0)
/-- how many words of bits have fewer than so many ones on end -/
def without (t n : Nat) : Int := sumTo (rowTo n t) n

theorem Bk.bump {w : World} {g : Nat} {t : TypeId} {xs : List Int} (h : Bk w g t (iv xs)) (j : Nat) (x y : Int) (e : y = wrap64 (xs.getD j 0 + x)) : Bk (w.setCell ⟨g, j, none⟩ (.int .i64 y)) g t (iv (bump xs j x)) := by
  subst e
  exact h.seti j _

theorem stB_yes {row nx : List Int} {j : Nat} (h : j + 1 < row.length) :
    stB row nx j = (nx.set 0 (wrap64 (nx.getD 0 0 + row.getD j 0))).set (j + 1) (wrap64 (nx.getD (j + 1) 0 + row.getD j 0)) := by
  rw [stB, if_pos h, bump, stA, bump]
  congr 3
  simp [List.getD, List.getElem?_set]
theorem stB_no {row nx : List Int} {j : Nat} (h : ¬ j + 1 < row.length) : stB row nx j = nx.set 0 (wrap64 (nx.getD 0 0 + row.getD j 0)) := by
  rw [stB, if_neg h, stA, bump]
theorem sumTo_row {xs : List Int} {k : Nat} : sumTo xs (k + 1) = wrap64 (sumTo xs k + xs.getD k 0) := rfl
theorem one_row (n : Nat) : (List.replicate n (0 : Int)).set 0 1 = rowTo n 0 := rfl

set_option maxHeartbeats 1600000 in
theorem iStreakless (t n : Nat) (w : World) (ht : t ≤ 1048575) (hn : n ≤ 1048576) :
    Calls Try.prog 35 #[.int .i64 t, .int .i64 n] w fun e w' => e = .returned (.int .i64 (without t n)) ∧ Below w.heap.size w w' := by
  by_cases h0 : n = 0
  · subst h0
    rw [show without t 0 = 0 from rfl]
    go_enter Try.func35, Try.ntmps35
    go_wp2_with (at_make; refine mk1 (n := 0) (by omega) rfl rfl rfl rfl ?_; intro w1 hB1 hb1 hz1)
    go_ret
    exact ⟨rfl, hb1⟩
  · have hnz : ((n : Int) == 0) = false := by simpa using h0
    have hpos : 0 < n := by omega
    go_enter Try.func35, Try.ntmps35
    go_wp2_with (at_make; refine mk1 (n := n) (by omega) rfl rfl rfl rfl ?_; intro w1 hB1 hb1 hz1; have hc1 := hB1.int (k := 0) (by simpa using hpos); have hf1 := hB1.free 0)
    have hB2 := hB1.seti 0 1
    have hb2 := hb1.setCell (p := ⟨w.heap.size, 0, none⟩) (Nat.le_refl _) (.int .i64 1)
    have hs2 := set_size w1 ⟨w.heap.size, 0, none⟩ (.int .i64 1)
    have hz2 : w.heap.size < (w1.setCell ⟨w.heap.size, 0, none⟩ (.int .i64 1)).heap.size := by omega
    clear hs2 hc1 hf1 hB1 hb1
    generalize w1.setCell ⟨w.heap.size, 0, none⟩ (.int .i64 1) = w2 at *
    clear hz1
    go_loopw [5, 19] (fun r i wr => ∃ k g : Nat, k ≤ t ∧ i = .int .i64 k ∧ r = .slice (some ⟨g, 0, none⟩) n n ∧ Bk wr g 2 (iv (rowTo n k)) ∧ w.heap.size ≤ g ∧ Below w.heap.size w wr) (fun _ i _ => t - (intOf i).toNat)
    case atStart => exact ⟨0, w.heap.size, Nat.zero_le _, rfl, rfl, hB2, Nat.le_refl _, hb2⟩
    case round =>
      clear hB2 hb2 hz2
      obtain ⟨k, g, hk, rfl, rfl, hB, hg, hb⟩ := hrel
      have hlen := rowTo_len n k
      have Hlen := hide hlen
      clear hlen
      by_cases hlt : k < t
      · go_wp2_with (at_make; refine mk1 (n := n) (by omega) rfl rfl rfl rfl ?_; intro w1 hB1 hb1 hz1)
        have hgw : g < wr.heap.size := hB.lt
        have hBr := hB.below hb1 hgw
        have hbw := hb.trans (hb1.mono hb.size)
        have hzw := hb.size
        have hl2 := inTo_len (rowTo n k)
        rw [Hlen.out] at hl2
        have Hl2 := hide hl2
        generalize hR : rowTo n k = row at *
        have HR := hide hR
        rw [show List.replicate n (0 : Int) = inTo row 0 from by rw [inTo, Hlen.out]] at hB1
        clear hB hb1 hb hR hl2
        generalize hG2 : wr.heap.size = g2 at *
        clear hG2 hz1
        go_loopw [25] (fun i wx => ∃ j : Nat, j ≤ n ∧ i = .int .i64 j ∧ Bk wx g 2 (iv row) ∧ Bk wx g2 2 (iv (inTo row j)) ∧ Below w.heap.size w wx) (fun i _ => n - (intOf i).toNat)
        case atStart => exact ⟨0, Nat.zero_le _, rfl, hBr, hB1, hbw⟩
        case round =>
          clear hBr hB1 hbw
          obtain ⟨j, hj, rfl, hBr, hB1, hbw⟩ := hrel
          by_cases hjt : j < n
          · have hc1 := hBr.int (k := j) (by rw [Hlen.out]; exact hjt)
            have hc2 := hB1.int (k := 0) (by rw [Hl2.out]; omega)
            have hf2 := hB1.free 0
            by_cases hjn : j + 1 < n
            · have hst := stB_yes (row := row) (nx := inTo row j) (j := j) (by rw [Hlen.out]; exact hjn)
              have hc3 := hB1.int (k := j + 1) (by rw [Hl2.out]; omega)
              have hf3 := hB1.free (j + 1)
              have HB := hide ((hB1.seti 0 (wrap64 ((inTo row j).getD 0 0 + row.getD j 0))).seti (j + 1) (wrap64 ((inTo row j).getD (j + 1) 0 + row.getD j 0)))
              rw [← hst] at HB
              have HBr := hide hBr
              have Hbw := hide hbw
              clear hst hBr hB1 hbw
              generalize row.getD j 0 = y at *
              generalize (inTo row j).getD 0 0 = x0 at *
              generalize (inTo row j).getD (j + 1) 0 = x1 at *
              go_wp2
              go_roundw
              case rel => exact ⟨j + 1, by omega, by go_num, (HBr.out.far (by show g ≠ g2; omega) _).far (by show g ≠ g2; omega) _, HB.out, (Hbw.out.setCell hzw _).setCell hzw _⟩
              case measure => simp [intOf]; omega
            · have hst := stB_no (row := row) (nx := inTo row j) (j := j) (by rw [Hlen.out]; exact hjn)
              have HB := hide (hB1.seti 0 (wrap64 ((inTo row j).getD 0 0 + row.getD j 0)))
              rw [← hst] at HB
              have HBr := hide hBr
              have Hbw := hide hbw
              clear hst hBr hB1 hbw
              generalize row.getD j 0 = y at *
              generalize (inTo row j).getD 0 0 = x0 at *
              go_wp2
              go_roundw
              case rel => exact ⟨j + 1, by omega, by go_num, HBr.out.far (by show g ≠ g2; omega) _, HB.out, Hbw.out.setCell hzw _⟩
              case measure => simp [intOf]; omega
          · have hjn : j = n := by omega
            subst hjn
            have HB : Hid (Bk _ g2 2 (iv (rowTo j (k + 1)))) := hide (by rw [rowTo, HR.out]; exact hB1)
            have Hbw := hide hbw
            clear hBr hB1 hbw
            go_wp2
            go_roundw
            case rel => exact ⟨k + 1, g2, by omega, by go_num, rfl, HB.out, by omega, Hbw.out⟩
            case measure => simp [intOf]; omega
      · have hkt : k = t := by omega
        subst hkt
        have Hb := hide hb
        clear hb
        generalize hR : rowTo n k = row at *
        have HR := hide hR
        clear hR
        go_wp2
        go_loop [9, 53] (fun r i => ∃ j : Nat, j ≤ n ∧ i = .int .i64 j ∧ r = .int .i64 (sumTo row j)) (fun _ i => n - (intOf i).toNat)
        case atStart => exact ⟨0, Nat.zero_le _, rfl, rfl⟩
        case round =>
          obtain ⟨j, hj, rfl, rfl⟩ := hrel
          by_cases hjt : j < n
          · have hc1 := hB.int (k := j) (by rw [Hlen.out]; exact hjt)
            have Hs := hide (sumTo_row (xs := row) (k := j))
            generalize row.getD j 0 = y at *
            generalize sumTo row j = z at *
            go_wp2
            go_round
            case rel => exact ⟨j + 1, by omega, by go_num, by rw [Hs.out]⟩
            case measure => simp [intOf]; omega
          · have hjn : j = n := by omega
            subst hjn
            go_wp2
            go_ret
            exact ⟨ret_int (by rw [without, HR.out]), Hb.out⟩
set_option maxHeartbeats 1600000 in
theorem sWithout (t n : Nat) (w : World) (ht : t ≤ 1048575) (hn : n ≤ 1048576) (hpos : 0 < n) :
    Calls Try.prog 33 #[.int .i64 t, .int .i64 n] w fun e w' => e = .returned (.int .i64 (without t n)) ∧ Below w.heap.size w w' := by
  go_enter Try.func33, Try.ntmps33
  go_wp2_with (at_make; refine mk1 (n := n) (by omega) rfl rfl rfl rfl ?_; intro w1 hB1 hb1 hz1; have hc1 := hB1.int (k := 0) (by simpa using hpos); have hf1 := hB1.free 0)
  have hB2 := hB1.seti 0 1
  have hb2 := hb1.setCell (p := ⟨w.heap.size, 0, none⟩) (Nat.le_refl _) (.int .i64 1)
  have hs2 := set_size w1 ⟨w.heap.size, 0, none⟩ (.int .i64 1)
  have hz2 : w.heap.size < (w1.setCell ⟨w.heap.size, 0, none⟩ (.int .i64 1)).heap.size := by omega
  clear hs2 hc1 hf1 hB1 hb1
  generalize w1.setCell ⟨w.heap.size, 0, none⟩ (.int .i64 1) = w2 at *
  clear hz1
  go_loopw [5, 6] (fun r i wr => ∃ k g : Nat, k ≤ t ∧ i = .int .i64 k ∧ r = .slice (some ⟨g, 0, none⟩) n n ∧ Bk wr g 2 (iv (rowTo n k)) ∧ w.heap.size ≤ g ∧ Below w.heap.size w wr) (fun _ i _ => t - (intOf i).toNat)
  case atStart => exact ⟨0, w.heap.size, Nat.zero_le _, rfl, rfl, hB2, Nat.le_refl _, hb2⟩
  case round =>
    clear hB2 hb2 hz2
    obtain ⟨k, g, hk, rfl, rfl, hB, hg, hb⟩ := hrel
    have hlen := rowTo_len n k
    have Hlen := hide hlen
    clear hlen
    by_cases hlt : k < t
    · go_wp2_with (at_make; refine mk1 (n := n) (by omega) rfl rfl rfl rfl ?_; intro w1 hB1 hb1 hz1)
      have hgw : g < wr.heap.size := hB.lt
      have hBr := hB.below hb1 hgw
      have hbw := hb.trans (hb1.mono hb.size)
      have hzw := hb.size
      have hl2 := inTo_len (rowTo n k)
      rw [Hlen.out] at hl2
      have Hl2 := hide hl2
      generalize hR : rowTo n k = row at *
      have HR := hide hR
      rw [show List.replicate n (0 : Int) = inTo row 0 from by rw [inTo, Hlen.out]] at hB1
      clear hB hb1 hb hR hl2
      generalize hG2 : wr.heap.size = g2 at *
      clear hG2 hz1
      go_loopw [8] (fun i wx => ∃ j : Nat, j ≤ n ∧ i = .int .i64 j ∧ Bk wx g 2 (iv row) ∧ Bk wx g2 2 (iv (inTo row j)) ∧ Below w.heap.size w wx) (fun i _ => n - (intOf i).toNat)
      case atStart => exact ⟨0, Nat.zero_le _, rfl, hBr, hB1, hbw⟩
      case round =>
        clear hBr hB1 hbw
        obtain ⟨j, hj, rfl, hBr, hB1, hbw⟩ := hrel
        by_cases hjt : j < n
        · have hc1 := hBr.int (k := j) (by rw [Hlen.out]; exact hjt)
          have hc2 := hB1.int (k := 0) (by rw [Hl2.out]; omega)
          have hf2 := hB1.free 0
          by_cases hjn : j + 1 < n
          · have hst := stB_yes (row := row) (nx := inTo row j) (j := j) (by rw [Hlen.out]; exact hjn)
            have hc3 := hB1.int (k := j + 1) (by rw [Hl2.out]; omega)
            have hf3 := hB1.free (j + 1)
            have HB := hide ((hB1.seti 0 (wrap64 ((inTo row j).getD 0 0 + row.getD j 0))).seti (j + 1) (wrap64 ((inTo row j).getD (j + 1) 0 + row.getD j 0)))
            rw [← hst] at HB
            have HBr := hide hBr
            have Hbw := hide hbw
            clear hst hBr hB1 hbw
            generalize row.getD j 0 = y at *
            generalize (inTo row j).getD 0 0 = x0 at *
            generalize (inTo row j).getD (j + 1) 0 = x1 at *
            go_wp2
            go_region
            all_goals go_wp2
            all_goals go_region
            all_goals go_wp2
            all_goals go_roundw
            case rel => exact ⟨j + 1, by omega, by go_num, (HBr.out.far (by show g ≠ g2; omega) _).far (by show g ≠ g2; omega) _, HB.out, (by first | exact ((Hbw.out.setCell hzw _).setCell hzw _).drew.drew | exact ((Hbw.out.setCell hzw _).setCell hzw _).drew)⟩
            case measure => simp [intOf]; omega
          · have hst := stB_no (row := row) (nx := inTo row j) (j := j) (by rw [Hlen.out]; exact hjn)
            have HB := hide (hB1.seti 0 (wrap64 ((inTo row j).getD 0 0 + row.getD j 0)))
            rw [← hst] at HB
            have HBr := hide hBr
            have Hbw := hide hbw
            clear hst hBr hB1 hbw
            generalize row.getD j 0 = y at *
            generalize (inTo row j).getD 0 0 = x0 at *
            go_wp2
            go_region
            all_goals go_wp2
            all_goals go_roundw
            case rel => exact ⟨j + 1, by omega, by go_num, HBr.out.far (by show g ≠ g2; omega) _, HB.out, (Hbw.out.setCell hzw _).drew⟩
            case measure => simp [intOf]; omega
        · have hjn : j = n := by omega
          subst hjn
          have HB : Hid (Bk _ g2 2 (iv (rowTo j (k + 1)))) := hide (by rw [rowTo, HR.out]; exact hB1)
          have Hbw := hide hbw
          clear hBr hB1 hbw
          go_wp2
          go_roundw
          case rel => exact ⟨k + 1, g2, by omega, by go_num, rfl, HB.out, by omega, Hbw.out⟩
          case measure => simp [intOf]; omega
    · have hkt : k = t := by omega
      subst hkt
      have Hb := hide hb
      clear hb
      generalize hR : rowTo n k = row at *
      have HR := hide hR
      clear hR
      go_wp2
      go_loop [9, 10] (fun r i => ∃ j : Nat, j ≤ n ∧ i = .int .i64 j ∧ r = .int .i64 (sumTo row j)) (fun _ i => n - (intOf i).toNat)
      case atStart => exact ⟨0, Nat.zero_le _, rfl, rfl⟩
      case round =>
        obtain ⟨j, hj, rfl, rfl⟩ := hrel
        by_cases hjt : j < n
        · have hc1 := hB.int (k := j) (by rw [Hlen.out]; exact hjt)
          have Hs := hide (sumTo_row (xs := row) (k := j))
          generalize row.getD j 0 = y at *
          generalize sumTo row j = z at *
          go_wp2
          go_round
          case rel => exact ⟨j + 1, by omega, by go_num, by rw [Hs.out]⟩
          case measure => simp [intOf]; omega
        · have hjn : j = n := by omega
          subst hjn
          go_wp2
          go_ret
          exact ⟨ret_int (by rw [without, HR.out]), Hb.out⟩
end Go.Proofs.Ytajpieblbijciaa
