/- BestOf's inner function: the sum of the best faces. Conditions: 1 to 6 faces from 0 to 20. -/
import Derived.Test.YthpboedpoipkcaaSort
import Derived.Test.YthpboedpoipkcaaFindS
import Derived.Test.YthpboedpoipkcaaClone
namespace Go.Proofs.Ythpboedpoipkcaa
open Go.ChangeShapes Go.WideShapes Go.ChangeAt Go.RowKit

theorem list_getD_mem {ys : List Int} {y : Int} (h : y ∈ ys) : ∃ i, i < ys.length ∧ ys.getD i 0 = y := by
  obtain ⟨i, hi, e⟩ := List.mem_iff_getElem.1 h
  exact ⟨i, hi, by simp [List.getD, hi, e]⟩
theorem InsI.best {xs ys : List Int} {n : Nat} (h : InsI xs ys n n n) {k : Nat} (hk : k ≤ n) : sumL (ys.drop (n - k)) = (bestN k xs : Int) := by
  have hp : ys.Pairwise (· ≤ ·) := by
    rw [List.pairwise_iff_getElem]
    intro i j hi hj hij
    have := h.ord i j hij (by rw [h.len] at hj; omega) (by rw [h.len] at hj; omega)
    simpa [List.getD, hi, hj] using this
  have hr : ∀ y ∈ ys, 0 ≤ y ∧ y ≤ 20 := fun y hy => by
    obtain ⟨i, hi, e⟩ := list_getD_mem hy
    have := h.rng i (by rw [← h.len]; exact hi)
    rw [e] at this
    exact this
  have := bestN_sorted k ys hp hr (by rw [h.len]; exact hk)
  rw [h.len] at this
  rw [this]
  congr 1
  unfold bestN
  exact sN_congr fun i _ => by rw [h.cg]
theorem sumTo_bd {ys : List Int} {n : Nat} (hl : ys.length = n) (h : ∀ p, p < n → 0 ≤ ys.getD p 0 ∧ ys.getD p 0 ≤ 20) : ∀ k, 0 ≤ sumTo ys k ∧ sumTo ys k ≤ 20 * (k : Int) := by
  intro k
  induction k with
  | zero => simp [sumTo]
  | succ k ih =>
    have e : sumTo ys (k + 1) = sumTo ys k + ys.getD k 0 := rfl
    rw [e]
    by_cases hk : k < n
    · have := h k hk
      omega
    · have : ys.getD k 0 = 0 := by simp [List.getD, show ys.length ≤ k by omega]
      rw [this]
      omega

set_option maxRecDepth 100000 in
set_option maxHeartbeats 1600000 in
theorem iBest (g k n : Nat) (v : Value) (xs : List Int) (w : World) (hb : Bk w g 2 [.int .i64 (k : Int)]) (hv : RV w v xs) (hl : xs.length = n) (hk1 : 1 ≤ k) (hkn : k ≤ n) (hn : n ≤ 6) (hx : ∀ p, p < n → 0 ≤ xs.getD p 0 ∧ xs.getD p 0 ≤ 20) :
    Calls Try.prog 88 #[v, .pointer (some ⟨g, 0, none⟩)] w fun e w' => e = .returned (.int .i64 (bestN k xs : Int)) ∧ Below w.heap.size w w' := by
  have HC := Lib.hid (libClone v xs w hv (by omega))
  have Hb := hide hb
  have HX := hide hx
  have Hl := hide hl
  obtain ⟨d, hd⟩ : ∃ d, d + k = n := ⟨n - k, by omega⟩
  have HD := hide hd
  have hgl := hb.lt
  clear hv hb hx hl hd
  go_enter Try.func88, Try.ntmps88
  go_upto_region 2 with (go_at_call 73; refine HC.out.mono ?_; rintro e w1 ⟨r, rfl, ho1, hb1⟩; obtain ⟨g1, c, rfl, hg1, hg2, hc1, hrow⟩ := owns_form ho1 Hl.out (by omega); have HO := hide hrow; have HB := hide hb1; have Hg := hide hg1; clear ho1 hrow hb1)
  have HS := Lib.hid (libSort _ g1 n c xs w1 HO.out Hl.out (by omega) hn HX.out)
  go_upto_region 4 with (go_at_call 89; refine HS.out.mono ?_; rintro e w2 ⟨rfl, ys, hI, hrow, hK⟩; have HI := hide hI; have HO2 := hide hrow; have HB2 := hide (hK.to_below HB.out Hg.out HB.out.size); clear hI hrow hK)
  clear HC HS HO HB
  have ck := (Hb.out.below HB2.out hgl).cell 0
  have e1 : wrap64 ((n : Int) - (k : Int)) = (d : Int) := by rw [IntWalk.wrap64_in _ (by omega)]; have := HD.out; omega
  go_wp2
  rw [show n - (n - k) = k by omega, show n - k = d by have := HD.out; omega]
  have Hcell : Hid (∀ j, j < k → w2.cell? ⟨g1, d + j, none⟩ = some (.int .i64 ((ys.drop d).getD j 0))) := hide fun j hj => by
    have hI := HI.out
    have h := HO2.out.cellAt (d + j) (by have := HD.out; omega)
    rw [iv_get (by rw [hI.len]; have := HD.out; omega)] at h
    rw [h]
    simp [List.getD, List.getElem?_drop]
  have Hbd := hide (sumTo_bd (ys := ys.drop d) (n := k) (by rw [List.length_drop, HI.out.len]; have := HD.out; omega) fun p hp => by
    have := HI.out.rng (d + p) (by have := HD.out; omega)
    simpa [List.getD, List.getElem?_drop] using this)
  have Hst : Hid (∀ j, sumTo (ys.drop d) (j + 1) = sumTo (ys.drop d) j + (ys.drop d).getD j 0) := hide fun _ => rfl
  have Hend : Hid (sumTo (ys.drop d) k = (bestN k xs : Int)) := hide (by
    have h := HI.out.best hkn
    rw [show n - k = d by have := HD.out; omega] at h
    rw [← h, ← sumTo_all, List.length_drop, HI.out.len, show n - d = k by have := HD.out; omega])
  clear HI HO2
  generalize ys.drop d = zs at *
  go_loop [5, 7, 19] (fun s _ i => ∃ j : Nat, j ≤ k ∧ i = .int .i64 j ∧ s = .int .i64 (sumTo zs j)) (fun _ _ i => k - (intOf i).toNat)
  case atStart => exact ⟨0, Nat.zero_le _, rfl, rfl⟩
  case round =>
    obtain ⟨j, hj, rfl, rfl⟩ := hrel
    by_cases hlt : j < k
    · have hc := Hcell.out j hlt
      have Hs := hide (Hst.out j)
      have b1 := Hbd.out j
      have b2 := Hbd.out (j + 1)
      rw [Hs.out] at b2
      generalize sumTo zs j = s at *
      generalize zs.getD j 0 = x at *
      go_wp2
      go_round
      case rel => exact ⟨j + 1, by omega, by go_num, by rw [Hs.out]⟩
      case measure => simp [intOf]; omega
    · have hkn : j = k := by omega
      subst hkn
      rw [Hend.out]
      go_wp2
      go_ret
      exact ⟨rfl, HB2.out⟩
end Go.Proofs.Ythpboedpoipkcaa
