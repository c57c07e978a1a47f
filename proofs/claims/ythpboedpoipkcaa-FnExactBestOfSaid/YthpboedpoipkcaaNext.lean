/- Contracts of l05First and l05NextList. Conditions: lengths. -/
import Derived.Test.YthpboedpoipkcaaEachP
namespace Go.Proofs.Ythpboedpoipkcaa
open Go.ChangeShapes Go.WideShapes Go.ChangeAt Go.RowKit

/-- a list whose numbers from i to j are x -/
def fillL (xs : List Int) (i j : Nat) (x : Int) : List Int := xs.take i ++ List.replicate (j - i) x ++ xs.drop j
theorem fill_len {xs : List Int} {i j n : Nat} {x : Int} (hl : xs.length = n) (hij : i ≤ j) (hj : j ≤ n) : (fillL xs i j x).length = n := by
  simp [fillL]; omega
theorem fill_set {xs : List Int} {i j n : Nat} {x : Int} (hl : xs.length = n) (hij : i ≤ j) (hj : j < n) : (fillL xs i j x).set j x = fillL xs i (j + 1) x := by
  unfold fillL
  have e : xs.drop j = xs.getD j 0 :: xs.drop (j + 1) := by
    rw [List.drop_eq_getElem_cons (by omega)]
    simp [List.getD, hl, hj]
  rw [List.set_append, if_neg (by simp; omega)]
  have e2 : j - (xs.take i ++ List.replicate (j - i) x).length = 0 := by simp; omega
  rw [e2, e, List.set_cons_zero, show j + 1 - i = (j - i) + 1 by omega, List.replicate_succ']
  simp
theorem fill_same (xs : List Int) (i : Nat) (x : Int) : fillL xs i i x = xs := by simp [fillL]
theorem fill_all {xs : List Int} {i n : Nat} {x : Int} (hl : xs.length = n) : fillL xs i n x = xs.take i ++ List.replicate (n - i) x := by
  simp [fillL, List.drop_eq_nil_of_le (show xs.length ≤ n by omega)]
theorem npos_yes {xs : List Int} {m : Int} {k : Nat} (h : xs.getD k 0 < m) : npos xs m (k + 1) = k + 1 := by simp only [npos]; rw [if_pos h]
theorem npos_no {xs : List Int} {m : Int} {k : Nat} (h : ¬ xs.getD k 0 < m) : npos xs m (k + 1) = npos xs m k := by simp only [npos]; rw [if_neg h]
theorem next_yes {xs : List Int} {m : Int} {k n : Nat} (hl : xs.length = n) (h : npos xs m n = k + 1) : nextB xs m = true ∧ nextL xs m = fillL xs k n (xs.getD k 0 + 1) := by
  rw [fill_all hl]; unfold nextB nextL; rw [hl, h]; exact ⟨rfl, rfl⟩
theorem next_no {xs : List Int} {m : Int} {n : Nat} (hl : xs.length = n) (h : npos xs m n = 0) : nextB xs m = false ∧ nextL xs m = xs := by
  unfold nextB nextL; rw [hl, h]; exact ⟨rfl, rfl⟩

set_option maxHeartbeats 800000 in
theorem sNext (lo g n c : Nat) (m : Nat) (xs : List Int) (w : World) (ho : w.ownsRow lo 2 1 (.slice (some ⟨g, 0, none⟩) n c) n (iv xs)) (hl : xs.length = n) (hn : n ≤ 6) (hm : m ≤ 20) (hx0 : ∀ i, i < n → 0 ≤ xs.getD i 0) :
    Calls Try.prog 70 #[.slice (some ⟨g, 0, none⟩) n c, .int .i64 (m : Int)] w fun e w' => e = .returned (.bool (nextB xs (m : Int))) ∧ w'.ownsRow lo 2 1 (.slice (some ⟨g, 0, none⟩) n c) n (iv (nextL xs (m : Int))) ∧ w.grownBy w' (some g) := by
  have Hy := Lib.hid (fun k (h : npos xs (m : Int) n = k + 1) => next_yes hl h)
  have Hz := Lib.hid (fun (h : npos xs (m : Int) n = 0) => next_no hl h)
  have Hny := Lib.hid (fun k (h : xs.getD k 0 < (m : Int)) => npos_yes h)
  have Hnn := Lib.hid (fun k (h : (m : Int) ≤ xs.getD k 0) => npos_no (by omega : ¬ xs.getD k 0 < (m : Int)))
  have H0 := Lib.hid hx0
  have HO := hide ho
  have Hn0 : Hid (npos xs (m : Int) 0 = 0) := hide rfl
  have Hl := hide hl
  generalize nextL xs (m : Int) = L at *
  generalize nextB xs (m : Int) = B at *
  generalize npos xs (m : Int) = P at *
  clear ho hl hx0
  go_enter Try.func70, Try.ntmps70
  go_wp2
  go_loopw [5] (fun i wr => ∃ k : Nat, k ≤ n ∧ i = .int .i64 ((k : Int) - 1) ∧ Hid (P n = P k) ∧ wr = w) (fun i _ => (intOf i + 1).toNat)
  case atStart => exact ⟨n, Nat.le_refl _, rfl, hide rfl, rfl⟩
  case round =>
    obtain ⟨k, hk, rfl, hP, rfl⟩ := hrel
    by_cases h0 : k = 0
    · subst h0
      obtain ⟨hB, hL⟩ := Hz.out (by rw [hP.out]; exact Hn0.out)
      have HB := hide hB
      have HL := hide hL
      clear hB hL
      go_wp2
      go_ret
      exact ⟨ret_bool HB.out.symm, by rw [HL.out]; exact HO.out, World.grownBy.refl _ _⟩
    · obtain ⟨i, rfl⟩ : ∃ i, k = i + 1 := ⟨k - 1, by omega⟩
      have hc := HO.out.cellAt i (by omega)
      rw [iv_get (by rw [Hl.out]; omega)] at hc
      have ei : (((i + 1 : Nat) : Int) - 1) = (i : Int) := by omega
      rw [ei]
      have hx0 := H0.out i (by omega)
      have hny := Hny.out i
      have hnn := Hnn.out i
      generalize hx : xs.getD i 0 = x at *
      have Hx := hide hx
      clear hx
      by_cases hlt : x < (m : Int)
      · obtain ⟨hB, hL⟩ := Hy.out i (hP.out.trans (hny hlt))
        rw [Hx.out] at hL
        have HB := hide hB
        have HL := hide hL
        clear hB hL hny hnn
        go_wp2
        obtain ⟨w1, rfl⟩ : ∃ w1 : World, w1 = wr := ⟨_, rfl⟩
        go_loopw [7] (fun j wr => ∃ k : Nat, i ≤ k ∧ k ≤ n ∧ j = .int .i64 (k : Int) ∧ Hid (wr.ownsRow lo 2 1 (.slice (some ⟨g, 0, none⟩) n c) n (iv (fillL xs i k (x + 1)))) ∧ Hid (w1.grownBy wr (some g))) (fun j _ => n - (intOf j).toNat)
        case atStart => exact ⟨i, Nat.le_refl _, by omega, rfl, hide (by rw [fill_same]; exact HO.out), hide (World.grownBy.refl _ _)⟩
        case round =>
          obtain ⟨k, hik, hkn, rfl, hR, hg⟩ := hrel
          by_cases hlk : k < n
          · have hf := hR.out.frozenAt k
            have hs := hR.out.stored k (.int .i64 (x + 1))
            have hcc := hR.out.cellAt k (by omega)
            rw [iv_get (by rw [fill_len Hl.out hik (by omega)]; omega)] at hcc
            have HS := hide hs
            clear hs
            go_wp2
            go_roundw
            case rel =>
              refine ⟨k + 1, by omega, by omega, by go_num, hide ?_, hide (hg.out.trans HS.out.2)⟩
              have h := HS.out.1
              have e : (iv (fillL xs i k (x + 1))).set k (.int .i64 (x + 1)) = iv (fillL xs i (k + 1) (x + 1)) := by
                rw [← List.map_set, fill_set Hl.out hik hlk]
              rw [e] at h
              exact h
            case measure => simp [intOf]; omega
          · have hkn2 : k = n := by omega
            subst hkn2
            go_wp2
            go_ret
            exact ⟨ret_bool HB.out.symm, by rw [HL.out]; exact hR.out, hg.out⟩
      · have HP2 := hide (hP.out.trans (hnn (by omega)))
        clear hny hnn
        go_wp2
        go_roundw
        case rel => exact ⟨i, by omega, by go_num, HP2, trivial⟩
        case measure => simp [intOf]

set_option maxHeartbeats 400000 in
theorem sFirst (n : Nat) (w : World) (hn : n ≤ 6) :
    Calls Try.prog 69 #[.int .i64 (n : Int)] w fun e w' => ∃ r, e = .returned r ∧ Own w' w.heap.size w'.heap.size r (List.replicate n 1) ∧ Below w.heap.size w w' := by
  have Hr := Lib.hid (fun k => (List.replicate_succ' (n := k) (a := (1 : Int))))
  have Hl := Lib.hid (fun k => (List.length_replicate (n := k) (a := (1 : Int))))
  have H0 : Hid (List.replicate 0 (1 : Int) = []) := hide rfl
  obtain ⟨R, hR⟩ : ∃ R : Nat → List Int, ∀ k, List.replicate k (1 : Int) = R k := ⟨_, fun _ => rfl⟩
  simp only [hR] at Hr Hl H0 ⊢
  clear hR
  go_enter Try.func69, Try.ntmps69
  go_wp2
  go_loopw [0, 3] (fun m r wr => ∃ k l : Nat, k + l = n ∧ m = .int .i64 (l : Int) ∧ OwnL wr w.heap.size r (R k) ∧ Below w.heap.size w wr) (fun m _ _ => (intOf m).toNat)
  case atStart => exact ⟨0, n, by omega, rfl, by rw [H0.out]; exact OwnL.empty _ _ rfl (Nat.le_refl _), (Below.refl _ _).alloc (Nat.le_refl _) _⟩
  case round =>
    obtain ⟨k, l, hkl, rfl, ho, hb⟩ := hrel
    have hz := hb.size
    by_cases h0 : 0 < l
    · have hro := hide (Hr.out k)
      have hlen : (R k).length ≤ 1048576 := by rw [Hl.out]; omega
      go_wp2_with (at_builtin; refine app1 ho hlen hz rfl rfl rfl rfl ?_; intro v4 w4 ho4 hg4)
      go_roundw
      case rel => exact ⟨k + 1, l - 1, by omega, by go_num, by rw [hro.out]; exact ho4, hb.grown hg4 hz (fun g e => by have := (ho.lt g e).1; omega)⟩
      case measure => simp [intOf]; omega
    · obtain rfl : k = n := by omega
      go_wp2
      go_ret
      exact ⟨_, rfl, ho.own, hb⟩
end Go.Proofs.Ythpboedpoipkcaa
