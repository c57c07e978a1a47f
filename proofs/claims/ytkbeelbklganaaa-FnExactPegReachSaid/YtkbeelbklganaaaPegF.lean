/- Contract of the search for the least number of pegs, the reference's: a function that calls itself and keeps what it knows in a table. Conditions: at most 14 places. -/
import Derived.Test.YtkbeelbklganaaaPegR
namespace Go.Proofs.Ytkbeelbklganaaa
open Go.ChangeShapes Go.WideShapes Go.ChangeAt Go.RowKit Go.Maps

def FewPost (n G x : Nat) (w : World) (e : Ending) (w' : World) : Prop :=
  ∃ tl : List Int, e = .returned (.int .i64 (Lst n x : Int)) ∧ TInv n tl ∧ Bk w' G 2 (iv tl) ∧ w.grownBy w' (some G)

set_option maxRecDepth 100000 in
set_option maxHeartbeats 3200000 in
theorem sFewest (n G : Nat) (h14 : n ≤ 14) : ∀ (k x : Nat) (w : World) (tl : List Int), ones n x < k → x < 2 ^ n → TInv n tl → Bk w G 2 (iv tl) →
    Calls Try.prog 61 #[.int .i64 x, .int .i64 n, .slice (some ⟨G, 0, none⟩) (2 ^ n) (2 ^ n)] w (FewPost n G x w)
  | 0, x, w, tl, h, _, _, _ => absurd h (by omega)
  | k + 1, x, w, tl, hk, hx2, hT, hB => by
    have hpow : 2 ^ n ≤ 16384 := by
      have : 2 ^ n ≤ 2 ^ 14 := Nat.pow_le_pow_right (by omega) h14
      omega
    have hx14 : x < 16384 := by omega
    have IH := Lib.hid (sFewest n G h14 k)
    have hcx := hB.int (k := x) (by rw [hT.1]; exact hx2)
    have hlt := hB.lt
    have hon : ones n x ≤ 14 := Nat.le_trans (cntT_le _ _) h14
    have hLo : Lst n x ≤ ones n x := Lst_le n x
    have HT := hide hT
    have HBk := hide hB
    have hTx := hT.2 x hx2
    have Hx2 := hide hx2
    by_cases hpos : 0 < tl.getD x 0
    · have e1 : tl.getD x 0 = (Lst n x : Int) := by omega
      rw [e1] at hcx hpos
      clear hTx hT hB e1 hx2 IH
      generalize 2 ^ n = N at *
      have hxN : x < N := Hx2.out
      have HLst : Hid (∃ y, y = Lst n x) := hide ⟨_, rfl⟩
      go_enter Try.func61, Try.ntmps61
      go_wp2
      go_ret
      exact ⟨tl, rfl, HT.out, HBk.out, World.grownBy.refl _ _⟩
    · have e1 : tl.getD x 0 = 0 := by omega
      rw [e1] at hcx
      clear hTx hT hB e1 hx2 hpos
      have HO := Lib.hid (fun W => sOnes x n W Hx2.out h14)
      have HM := Lib.hid (fun W => sMoves x.testBit x n W (by omega) h14 (fun i => rfl))
      rw [mvN_flat n x.testBit n] at HM
      have hj : ∀ j, j < (nxP n x).length → ∃ f t : Nat, (flatP (nxP n x)).getD (2 * j) 0 = (f : Int) ∧ (flatP (nxP n x)).getD (2 * j + 1) 0 = (t : Int) ∧ f < n ∧ t < n ∧ mvd x f t = (nx n x).getD j 0 := fun j hj => by
        have hp := mvP_ok (Nat.le_refl n) ((nxP n x).getD j (0, 0)) (by show _ ∈ nxP n x; simp [List.getD, hj])
        obtain ⟨g1, g2⟩ := flatP_get hj
        exact ⟨_, _, g1, g2, hp.1, hp.2.1, (nx_get hj).symm⟩
      have HV := Lib.hid (fun W f t hf ht => sMoved x f t W hx14 (Nat.lt_of_lt_of_le hf h14) (Nat.lt_of_lt_of_le ht h14))
      have HMin := Lib.hid (fun W a b ha hb => sMinN a b W ha hb)
      have hML := flatP_len (nxP n x)
      have hNL := nx_len n x
      have hnl : (nxP n x).length ≤ 56 := by
        have := mvN_len n x.testBit n
        rw [mvN_flat, flatP_len] at this
        show (mvP n x.testBit n).length ≤ 56
        omega
      have HPS := Lib.hid (fun j (h : j < (nx n x).length) => Lpt_succ h)
      have HPA := hide (Lpt_all n x)
      have HP0 := hide (Lpt_zero n x)
      have HPL := Lib.hid (fun j => Lpt_le n x j)
      have HLL := Lib.hid (fun y => Lst_le n y)
      have HOL : Hid (∀ y, ones n y ≤ 14) := hide fun y => Nat.le_trans (cntT_le _ _) h14
      have Hj := Lib.hid hj
      rw [hNL] at HPS HPA
      have HNL := hide hNL
      have HP2 : Hid (2 ^ n = 2 ^ n) := hide rfl
      have HxN := hide (show x < 2 ^ n from Hx2.out)
      clear hj hNL
      change Hid (∀ W, Calls Try.prog 55 #[.int .i64 x, .int .i64 n] W fun e w' => ∃ r, e = .returned r ∧ Own w' W.heap.size w'.heap.size r (flatP (nxP n x)) ∧ Below W.heap.size W w') at HM
      generalize hfp : flatP (nxP n x) = F at *
      clear hfp
      generalize (nxP n x).length = M at *
      obtain ⟨N, hN⟩ : ∃ N, N = 2 ^ n := ⟨_, rfl⟩
      have HN := hide hN
      rw [← hN] at IH HxN hpow ⊢
      clear hN
      have hxN := HxN.out
      go_enter Try.func61, Try.ntmps61
      go_wp2_with fail
      refine (HO.out _).mono ?_
      rintro e w' ⟨rfl, rfl⟩
      go_wp2_with fail
      refine (HM.out _).mono ?_
      rintro e w2 ⟨r, rfl, ho, hb2⟩
      have z2 := hb2.size
      have HB2 := hide (HBk.out.below hb2 hlt)
      obtain ⟨m2, hm2⟩ : ∃ m2, m2 = 2 * M := ⟨_, rfl⟩
      rw [← hm2] at hML
      have hF : Hid (∃ A g cap, r = .slice A m2 cap ∧ (0 < m2 → A = some ⟨g, 0, none⟩ ∧ w.heap.size ≤ g ∧ g < w2.heap.size ∧ ∀ j, j < m2 → w2.cell? ⟨g, j, none⟩ = some (.int .i64 (F.getD j 0)))) := hide (by
        obtain ⟨A, cc, e, _, _, hr3, hf3⟩ := ho.form
        rw [hML] at e hr3
        by_cases h0 : 0 < m2
        · obtain ⟨g, cc, e, _, h1, h2, h3⟩ := formN ho hML h0
          exact ⟨_, g, cc, e, fun _ => ⟨rfl, h1, h2, h3⟩⟩
        · exact ⟨A, 0, cc, e, fun h => absurd h h0⟩)
      obtain ⟨A, g, cap, rfl, hFm⟩ := hF.out
      have HFm := hide hFm
      have Hb2 := hide hb2
      have Hm2 := hide hm2
      have hm112 : m2 ≤ 112 := by omega
      clear hFm hF ho hb2 hML hm2
      go_wp2
      go_loopw [7, 9] (fun r i wr => ∃ j q : Nat, j ≤ M ∧ Hid (q = 2 * j) ∧ i = .int .i64 (q : Int) ∧ r = .int .i64 ((Lpt n x j : Nat) : Int) ∧ Hid (∃ tl, TInv n tl ∧ Bk wr G 2 (iv tl) ∧ w2.grownBy wr (some G))) (fun _ i _ => m2 + 1 - (intOf i).toNat)
      case atStart => exact ⟨0, 0, Nat.zero_le _, hide rfl, rfl, by rw [HP0.out], hide ⟨tl, HT.out, HB2.out, World.grownBy.refl _ _⟩⟩
      case round =>
        obtain ⟨j, q, hjM, Hq, rfl, rfl, hP⟩ := hrel
        have hpl := HPL.out j
        by_cases hjl : j < M
        · have hq2 := Hq.out
          have hm2 := Hm2.out
          have f0 : (0 : Int) ≤ (q : Int) := by omega
          have f1 : (q : Int) < (m2 : Int) := by omega
          have f2 : (0 : Int) ≤ (q : Int) + 1 := by omega
          have f3 : (q : Int) + 1 < (m2 : Int) := by omega
          have f4 : IntKind.i64.wrap ((q : Int) + 1) = (q : Int) + 1 := IntWalk.i64_in _ (by omega)
          have e2 : ((q : Int) + 1).toNat = q + 1 := by omega
          obtain ⟨rfl, hg1, hg2, hcell⟩ := HFm.out (by omega)
          obtain ⟨f, t, hf1, ht1, hfn, htn, hmv⟩ := Hj.out j hjl
          have c1 := hcell q (by omega)
          have c2 := hcell (q + 1) (by omega)
          rw [hq2, hf1, ← hq2] at c1
          rw [hq2, ht1, ← hq2] at c2
          obtain ⟨tl1, k1, k2, k3⟩ := hP.out
          have hgB : g ≠ G := by omega
          have d1 := cell_kept k3 c1 hg2 hgB
          have d2 := cell_kept k3 c2 hg2 hgB
          have hg3 : g < wr.heap.size := Nat.lt_of_lt_of_le hg2 k3.size
          have hs := HPS.out j hjl
          have hLm := HLL.out (mvd x f t)
          have hLo2 := HOL.out (mvd x f t)
          have hok : ones n (mvd x f t) < k ∧ mvd x f t < 2 ^ n := by
            have h1 : mvd x f t ∈ nx n x := by rw [hmv]; have := HNL.out; simp [List.getD, show j < (nx n x).length by omega]
            have := nx_ones h1
            exact ⟨by omega, nx_lt Hx2.out h1⟩
          have HJx := hide hok
          rw [← hmv] at hs
          have Hs := hide hs
          clear hs hmv hf1 ht1 hok c1 c2 hcell hk hq2 hm2
          generalize Lpt n x j = lj at *
          go_wp2
          go_region_held3 (fun w' => w'.cell? ⟨g, q, none⟩ = some (.int .i64 (f : Int)) ∧ w'.cell? ⟨g, q + 1, none⟩ = some (.int .i64 (t : Int)))
            (first
              | exact ⟨d1, d2⟩
              | exact ⟨cell_kept p5 d1 hg3 hgB, cell_kept p5 d2 hg3 hgB⟩
              | go_keep)
            ((first
              | (go_at_call 59; refine (HV.out _ f t hfn htn).mono ?_; rintro e wj ⟨rfl, rfl⟩)
              | (go_at_call 74; refine (HMin.out _ lj (Lst n (mvd x f t)) (by omega) (by omega)).mono ?_; rintro e wj ⟨rfl, rfl⟩)
              | (go_at_call 61; refine (IH.out (mvd x f t) _ tl1 HJx.out.1 (by rw [HN.out]; exact HJx.out.2) k1 ?_).mono ?_; exact k2; rintro e w4 hpost; obtain ⟨tl2, rfl, p1, p2, p5⟩ := hpost)))
          go_wp2
          go_roundw
          case rel =>
            refine ⟨j + 1, q + 2, by omega, hide (by have := Hq.out; omega), by go_num, by rw [Hs.out], hide ⟨tl2, p1, p2, ?_⟩⟩
            exact (k3.trans (show wr.grownBy wr.drew (some G) from ⟨rfl, rfl, rfl, Nat.le_refl _, fun _ _ _ => rfl⟩)).trans p5
          case measure => simp [intOf]; omega
        · have hjM2 : j = M := by omega
          have hq2 := Hq.out
          have hm2 := Hm2.out
          have e0 : q = m2 := by omega
          clear hq2 hm2 Hq Hm2
          subst e0 hjM2
          obtain ⟨tl1, k1, k2, k3⟩ := hP.out
          have hpa := HPA.out
          rw [hpa]
          clear hpa
          have c3 := k2.int (k := x) (by rw [k1.1]; exact Hx2.out)
          have f3 := k2.free x
          have hs3 := hide (k2.seti x (Lst n x : Int))
          have hg5 := hide (grown_set wr ⟨G, x, none⟩ (.int .i64 (Lst n x : Int)))
          have K3 := hide k3
          clear k2 k3
          go_wp2
          go_ret
          exact ⟨_, rfl, k1.set (x := x), hs3.out, ((grown_of_below Hb2.out (some G)).trans K3.out).trans hg5.out⟩
end Go.Proofs.Ytkbeelbklganaaa
