/- Contracts of slices.Max at sorted faces, of the sums of dice on both sides. Conditions: what is stated. -/
import Derived.Test.YtjeaiihgedennaaSumPM
namespace Go.Proofs.Ytjeaiihgedennaa
open Go.ChangeShapes Go.WideShapes Go.ChangeAt Go.RowKit

set_option maxHeartbeats 800000 in
theorem iMax (A : Option Addr) (n c : Nat) (xs : List Int) (w : World) (hr : Rd w A n (iv xs)) (h1 : 1 ≤ n) (hn : n ≤ 12) (hs : ∀ i, i + 1 < n → xs.getD i 0 ≤ xs.getD (i + 1) 0) :
    Calls Try.prog 45 #[.slice A n c] w fun e w' => e = .returned (.int .i64 (xs.getD (n - 1) 0)) ∧ w = w' := by
  have HS := hide hs
  clear hs
  obtain ⟨ad0, rfl, hbl0, hc0⟩ := hr.int (k := 0) (by omega)
  have hc00 : w.cell? ad0 = some (.int .i64 (xs.getD 0 0)) := hc0
  have d1 : decide ((n : Int) < 1) = false := decide_eq_false (by omega)
  have f0 : (0 : Int) < (n : Int) := by omega
  obtain ⟨x0, Hx0⟩ : ∃ x0, Hid (xs.getD 0 0 = x0) := ⟨_, hide rfl⟩
  rw [Hx0.out] at hc0 hc00
  obtain ⟨R, HR⟩ : ∃ R, Hid (xs.getD (n - 1) 0 = R) := ⟨_, hide rfl⟩
  rw [HR.out]
  go_enter Try.func45, Try.ntmps45
  go_wp2
  go_loop [3, 4] (fun m i => ∃ k : Nat, 1 ≤ k ∧ k ≤ n ∧ i = .int .i64 k ∧ Hid (m = .int .i64 (xs.getD (k - 1) 0))) (fun _ i => n - (intOf i).toNat)
  case atStart => exact ⟨1, Nat.le_refl _, h1, rfl, hide (by rw [show 1 - 1 = 0 from rfl, Hx0.out])⟩
  case round =>
    obtain ⟨k, hk1, hk, rfl, hm⟩ := hrel
    have hm2 := hm.out
    clear hm
    by_cases hlt : k < n
    · obtain ⟨ad', e', hbl, hc⟩ := hr.int hlt
      cases e'
      have hle := HS.out (k - 1) (by omega)
      rw [show k - 1 + 1 = k from by omega] at hle
      have Hst : Hid (xs.getD (k + 1 - 1) 0 = xs.getD k 0) := hide (by rw [Nat.add_sub_cancel])
      generalize xs.getD (k - 1) 0 = y at *
      generalize xs.getD k 0 = z at *
      subst hm2
      have e1 : max y z = z := by omega
      have f1 : (0 : Int) ≤ (k : Int) := by omega
      have f2 : (k : Int) < (n : Int) := by omega
      go_wp2
      go_round
      case rel => exact ⟨k + 1, by omega, by omega, by go_num, hide (by rw [Hst.out]; congr 1; split <;> omega)⟩
      case measure => simp [intOf]; omega
    · have hkn : k = n := by omega
      subst hkn
      subst hm2
      rw [HR.out]
      go_wp2
      go_ret
      exact ⟨rfl, rfl⟩

set_option maxHeartbeats 800000 in
theorem sSum (A : Option Addr) (n c : Nat) (xs : List Int) (T : Int) (w : World) (hr : Rd w A n (iv xs)) (hn : n ≤ 1048576) (hg : Gd n T xs) (hT : T ≤ 4000000000) :
    Calls Try.prog 53 #[.slice A n c] w fun e w' => e = .returned (.int .i64 T) ∧ w = w' := by
  have Hbd := hide (fun k (hk : k ≤ n) => hg.to k hk)
  have Hend : Hid (sumTo xs n = T) := hide (by rw [← hg.len, sumTo_all, hg.sum])
  have Hst : Hid (∀ k, sumTo xs (k + 1) = sumTo xs k + xs.getD k 0) := hide fun k => rfl
  have H0 : Hid (sumTo xs 0 = 0) := hide rfl
  clear hg
  go_enter Try.func53, Try.ntmps53
  go_wp2
  go_loop [3, 4, 7] (fun s _ i => ∃ k : Nat, k ≤ n ∧ i = .int .i64 k ∧ s = .int .i64 (sumTo xs k)) (fun _ _ i => n - (intOf i).toNat)
  case atStart => exact ⟨0, Nat.zero_le _, rfl, by rw [H0.out]⟩
  case round =>
    obtain ⟨k, hk, rfl, rfl⟩ := hrel
    by_cases hlt : k < n
    · obtain ⟨ad, rfl, hbl, hc⟩ := hr.int hlt
      have Hs := hide (Hst.out k)
      have b1 := Hbd.out k hk
      have b2 := Hbd.out (k + 1) (by omega)
      rw [Hs.out] at b2
      generalize sumTo xs k = s at *
      generalize xs.getD k 0 = x at *
      go_wp2
      go_round
      case rel => exact ⟨k + 1, by omega, by go_num, by rw [Hs.out]⟩
      case measure => simp [intOf]; omega
    · have hkn : k = n := by omega
      subst hkn
      rw [Hend.out]
      go_wp2
      go_ret
      exact ⟨rfl, rfl⟩

set_option maxRecDepth 100000 in
set_option maxHeartbeats 3200000 in
theorem sCounts (A : Option Addr) (n c : Nat) (xss : List (List Int)) (w : World) (hr : RdR w A n xss) (hn : n ≤ 6) (hd : ∀ k, k < n → dieB (xss.getD k []) = true) :
    Calls Try.prog 38 #[.slice A n c] w fun e w' => ∃ r, e = .returned r ∧ Own w' w.heap.size w'.heap.size r (cnD xss n) ∧ Below w.heap.size w w' := by
  have hl := hr.len
  have Hgd := hide (fun k (hk : k ≤ n) => cnD_gd (xss := xss) (fun k hk => hd k (by omega)) k (by omega))
  have Hd := hide hd
  have Hst : Hid (∀ k, cnD xss (k + 1) = cnK (cnD xss k) (xss.getD k []) (List.replicate ((cnD xss k).length + lastF (xss.getD k [])) 0) (cnD xss k).length) := hide fun k => rfl
  have Hpr : Hid (∀ k, prD xss (k + 1) = prD xss k * ((xss.getD k []).length : Int)) := hide fun k => rfl
  have H0 : Hid (cnD xss 0 = [1] ∧ prD xss 0 = 1) := hide ⟨rfl, rfl⟩
  generalize cnD xss = CN at *
  generalize prD xss = PR at *
  clear hd hl
  go_enter Try.func38, Try.ntmps38
  go_wp2
  go_loopw [3, 12] (fun v i wr => ∃ k g : Nat, k ≤ n ∧ i = .int .i64 k ∧ v = .slice (some ⟨g, 0, none⟩) (CN k).length (CN k).length ∧ Bk wr g 2 (iv (CN k)) ∧ w.heap.size ≤ g ∧ Below w.heap.size w wr) (fun _ i _ => n - (intOf i).toNat)
  case atStart =>
    refine ⟨0, w.heap.size, Nat.zero_le _, rfl, by rw [H0.out.1]; rfl, ?_, Nat.le_refl _, (Below.refl _ _).alloc (Nat.le_refl _) _⟩
    rw [H0.out.1]
    exact Bk.new w 2 [.int .i64 1]
  case round =>
    obtain ⟨k, g, hk, rfl, rfl, hB, hg, hb⟩ := hrel
    obtain ⟨hgd, l1, l2, p1, p2⟩ := Hgd.out k hk
    have p3 : ((12 ^ k : Nat) : Int) ≤ 2985984 := by
      have : 12 ^ k ≤ 12 ^ 6 := Nat.pow_le_pow_right (by omega) (by omega)
      omega
    have p4 : PR k ≤ 2985984 := Int.le_trans p2 p3
    clear p2 p3
    have hl121 : (CN k).length ≤ 121 := by omega
    by_cases hlt : k < n
    · obtain ⟨ad, B, d, rfl, hbl, hc, hrr, hdd⟩ := (hr.below hb).at hlt
      obtain ⟨w3, rfl⟩ : ∃ w3 : World, w3 = wr := ⟨_, rfl⟩
      have hdk := Hd.out k hlt
      have hlf := dieB_len hdk
      have hmono := fun i j (h1 : i ≤ j) (h2 : j < (xss.getD k []).length) => die_mono hdk h1 h2
      have hin := fun j (h2 : j < (xss.getD k []).length) => die_in hdk h2
      have Hs := hide (Hst.out k)
      have Hp := hide (Hpr.out k)
      have hlast : Hid ((xss.getD k []).getD ((xss.getD k []).length - 1) 0 = ((lastF (xss.getD k []) : Nat) : Int)) := hide (by
        have := hin ((xss.getD k []).length - 1) (by omega)
        unfold lastF
        omega)
      have hlf20 : lastF (xss.getD k []) ≤ 20 := by
        have := hin ((xss.getD k []).length - 1) (by omega)
        unfold lastF
        omega
      generalize xss.getD k [] = fs at *
      have Hsort := hide (fun i (h : i + 1 < fs.length) => hmono i (i + 1) (by omega) h)
      have Hfl := hide (fun j (h : j < fs.length) => show ∃ f : Nat, fs.getD j 0 = (f : Int) ∧ f ≤ lastF fs from by
        have h1 := hmono j (fs.length - 1) (by omega) (by omega)
        have h2 := hin j h
        rw [hlast.out] at h1
        exact ⟨(fs.getD j 0).toNat, by omega, by omega⟩)
      have Hcf := hide (fun k' (hk' : k' < (CN k).length) j (hj : j ≤ fs.length) => cnF_gd (cnK_gd (Gd.zero ((CN k).length + lastF fs)) hgd (fs := fs) (fun k'' hk'' j' hj' => by
          obtain ⟨f, e, hf⟩ := Hfl.out j' hj'
          rw [e]; omega) k' (by omega)) (hgd.nn k') (k := k') (fun j' hj' => by
          obtain ⟨f, e, hf⟩ := Hfl.out j' hj'
          rw [e]; omega) j hj)
      have HLK := hide (cnK_gd (Gd.zero ((CN k).length + lastF fs)) hgd (fs := fs) (fun k'' hk'' j' hj' => by
          obtain ⟨f, e, hf⟩ := Hfl.out j' hj'
          rw [e]; omega) (CN k).length (Nat.le_refl _)).len
      have Hck := hide (fun k' (hk' : k' ≤ (CN k).length) => hgd.to k' hk')
      have Hcs := hide (fun k' => hgd.at k')
      clear hmono hin hgd hdk
      have hlen12 : fs.length ≤ 12 := hlf.2
      have hlen1 : 1 ≤ fs.length := hlf.1
      clear hlf
      generalize hlfe : lastF fs = lf at *
      clear hlfe
      generalize hcs : CN k = cs at *
      generalize PR k = pr at *
      obtain ⟨bd, rfl, hbb, hcl⟩ := hrr.int (k := fs.length - 1) (by omega)
      rw [hlast.out] at hcl
      have hgl := hB.lt
      obtain ⟨nf, Hnf⟩ : ∃ nf, Hid (fs.length = nf) := ⟨_, hide rfl⟩
      obtain ⟨m, Hm⟩ : ∃ m, Hid (cs.length = m) := ⟨_, hide rfl⟩
      rw [Hnf.out] at hlen12 hlen1 hrr hdd Hp hc hcl
      rw [Hm.out] at hl121 l1 ⊢
      have e1 : IntKind.i64.wrap ((nf : Int) - 1) = ((nf - 1 : Nat) : Int) := by rw [show (nf : Int) - 1 = ((nf - 1 : Nat) : Int) from by omega]; exact IntWalk.i64_in _ (by omega)
      have e1' : (nf : Int) - 1 = ((nf - 1 : Nat) : Int) := by omega
      have hb0 : Below w3.heap.size w3 w3 := Below.refl _ _
      have hr0 := hrr
      have hB0 := hB
      go_wp2_with (at_make; refine mk1 (n := m + lf) (by omega) rfl rfl rfl rfl ?_; intro w1 hB1 hb1 hz1)
      obtain ⟨wA, rfl⟩ : ∃ wA : World, wA = w3 := ⟨_, rfl⟩
      have hszG : wA.heap.size = wA.heap.size := rfl
      have hgG : g < wA.heap.size := by omega
      have hwG : w.heap.size ≤ wA.heap.size := by have := hb.size; omega
      have hbA := hb.trans (hb0.mono hb.size)
      generalize hG : wA.heap.size = G at *
      have Hcks : Hid (∀ k', cnK cs fs (List.replicate (m + lf) 0) (k' + 1) = cnF fs k' (cs.getD k' 0) (cnK cs fs (List.replicate (m + lf) 0) k') nf) := hide fun k' => by rw [cnK, Hnf.out]
      have HsF : Hid (CN (k + 1) = cnK cs fs (List.replicate (m + lf) 0) m) := hide (by rw [Hs.out, Hm.out])
      have HZ : Hid (Bk w1 G 2 (iv (cnK cs fs (List.replicate (m + lf) 0) 0))) := hide hB1
      simp only [Hm.out] at Hcf HLK Hck
      clear hB1 Hs
      generalize cnK cs fs (List.replicate (m + lf) 0) = CK at *
      go_wp2
      go_loopw [7, 32] (fun _ i wr => ∃ k' : Nat, k' ≤ m ∧ i = .int .i64 k' ∧ Hid (Bk wr G 2 (iv (CK k'))) ∧ Below G wA wr) (fun _ i _ => m - (intOf i).toNat)
      case atStart => exact ⟨0, Nat.zero_le _, rfl, HZ, hb1⟩
      case round =>
        clear HZ
        obtain ⟨k', hk', rfl, hBk, hbG⟩ := hrel
        have hBc := hB0.below hbG hgG
        by_cases hlk : k' < m
        · have hcc := hBc.int (k := k') (by rw [Hm.out]; exact hlk)
          have hcb := Hcs.out k'
          have Hk2 := hide (Hcks.out k')
          have Hcf2 := hide (Hcf.out k' hlk)
          have HF0 : Hid (cnF fs k' (cs.getD k' 0) (CK k') 0 = CK k') := hide rfl
          have HFs : Hid (∀ j, cnF fs k' (cs.getD k' 0) (CK k') (j + 1) = bmp (cnF fs k' (cs.getD k' 0) (CK k') j) (k' + (fs.getD j 0).toNat) (cs.getD k' 0)) := hide fun _ => rfl
          generalize cnF fs k' (cs.getD k' 0) (CK k') = CF at *
          generalize hcv : cs.getD k' 0 = cv at *
          have Hcv := hide hcv
          clear hcv
          have HBc := hide hBc
          clear hBc
          obtain ⟨w4, rfl⟩ : ∃ w4 : World, w4 = wr := ⟨_, rfl⟩
          go_wp2
          go_loopw [8, 37] (fun _ i wr => ∃ j : Nat, j ≤ nf ∧ i = .int .i64 j ∧ Hid (Bk wr G 2 (iv (CF j))) ∧ Below G wA wr) (fun _ i _ => nf - (intOf i).toNat)
          case atStart => exact ⟨0, Nat.zero_le _, rfl, hide (by rw [HF0.out]; exact hBk.out), hbG⟩
          case round =>
            clear hbG
            obtain ⟨j, hj, rfl, hBf, hbG⟩ := hrel
            by_cases hlj : j < nf
            · obtain ⟨f, hf, hflf⟩ := Hfl.out j (by rw [Hnf.out]; exact hlj)
              obtain ⟨fd, ef, hbf, hcfa⟩ := (hr0.below (by first | (rw [hsz0]; exact hbG) | (rw [hG]; exact hbG))).int hlj
              cases ef
              have Hst2 := hide (HFs.out j)
              rw [hf] at hcfa
              rw [hf, Int.toNat_natCast] at Hst2
              have hgdF := Hcf2.out j (by rw [Hnf.out]; exact hj)
              have hxb := hgdF.at (k' + f)
              have hkb := Hck.out k' hk'
              have q1 : (fs.length : Int) * sumTo cs k' ≤ 12 * 2985984 := Int.mul_le_mul (by rw [Hnf.out]; omega) (by omega) hkb.1 (by omega)
              have q2 : (j : Int) * cv ≤ 12 * 2985984 := Int.mul_le_mul (by omega) (by omega) hcb.1 (by omega)
              have hx0 := hxb.1
              have hx1 : (CF j).getD (k' + f) 0 ≤ 100000000 := by omega
              have hcx := hBf.out.int (k := k' + f) (by rw [hgdF.len]; omega)
              have hfx := hBf.out.free (k' + f)
              have HB2 := hide (hBf.out.seti (k' + f) ((CF j).getD (k' + f) 0 + cv))
              have HST : Hid (CF (j + 1) = (CF j).set (k' + f) ((CF j).getD (k' + f) 0 + cv)) := hide (by rw [Hst2.out]; rfl)
              have hcv0 := hcb.1
              have hcv1 : cv ≤ 100000000 := by omega
              clear hgdF hxb q1 q2 hcb hkb
              generalize (CF j).getD (k' + f) 0 = x at *
              have e3 : IntKind.i64.wrap ((k' : Int) + (f : Int)) = (k' : Int) + (f : Int) := IntWalk.i64_in _ (by omega)
              have e4 : IntKind.i64.wrap (x + cv) = x + cv := IntWalk.i64_in _ (by omega)
              have e5 : ((k' : Int) + (f : Int)).toNat = k' + f := by omega
              have f1 : (0 : Int) ≤ (k' : Int) + (f : Int) := by omega
              have f2 : (k' : Int) + (f : Int) < ((m + lf : Nat) : Int) := by omega
              have f3 : (k' : Int) + (f : Int) < (m : Int) + (lf : Int) := by omega
              have g1 : (0 : Int) ≤ (j : Int) := by omega
              have g2 : (j : Int) < (nf : Int) := by omega
              have g3 : (0 : Int) ≤ (k' : Int) := by omega
              have g4 : (k' : Int) < (m : Int) := by omega
              have hcc2 := (hB0.below hbG hgG).int (k := k') (by rw [Hm.out]; exact hlk)
              rw [Hcv.out] at hcc2
              have HbG := hide hbG
              clear hbG
              go_wp2
              go_region
              all_goals go_wp2
              all_goals go_roundw
              case rel => exact ⟨j + 1, by omega, by go_num, hide (by rw [HST.out]; exact HB2.out), (HbG.out.setCell (p := ⟨G, k' + f, none⟩) (Nat.le_refl _) _).drew⟩
              case measure => simp [intOf]; omega
            · have hjn : j = nf := by omega
              subst hjn
              go_wp2
              go_roundw
              case rel => exact ⟨k' + 1, by omega, by go_num, hide (by rw [Hk2.out]; exact hBf.out), hbG⟩
              case measure => simp [intOf]; omega
        · have hkm : k' = m := by omega
          subst hkm
          have hbw3 : Below w.heap.size w wr := hbA.trans (hbG.mono hwG)
          clear hbG
          go_wp2
          go_roundw
          case rel => exact ⟨k + 1, G, by omega, by go_num, by rw [HsF.out, HLK.out], by rw [HsF.out]; exact hBk.out, hwG, hbw3⟩
          case measure => simp [intOf]; omega
    · have hkn : k = n := by omega
      subst hkn
      have HBk := hide hB
      clear hB
      go_wp2
      go_ret
      exact ⟨_, rfl, HBk.out.owned hg (by unfold maxLen; omega), hb⟩
end Go.Proofs.Ytjeaiihgedennaa
