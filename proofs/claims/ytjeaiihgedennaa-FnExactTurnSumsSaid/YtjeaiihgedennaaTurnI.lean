/- impl.TurnSums. Conditions: what is stated. -/
import Derived.Test.YtjeaiihgedennaaTurnP
import Derived.Deep.RegionHeld3
namespace Go.Proofs.Ytjeaiihgedennaa
open Go.ChangeShapes Go.WideShapes Go.ChangeAt Go.RowKit

theorem iAtD (xss : List (List Int)) (m j i : Nat) (hj : j < m) (hm : m ≤ 121) (hd : dieB (xss.getD i []) = true) (A : Option Addr) (cc : Nat) (W : World) (hr : Rd W A (xss.getD i []).length (iv (xss.getD i []))) :
    Calls Try.prog 47 #[.agg #[.slice A (xss.getD i []).length cc], .complex .f32 (phRe (dvB j m)) (phIm (dvB j m))] W fun e w' => e = .returned (.complex .f32 (sD xss m j i).1 (sD xss m j i).2) ∧ Below W.heap.size W w' := by
  obtain ⟨fa, hF⟩ := at_facts (good_turn hj hm) hd
  exact iAt0 A _ cc _ _ (xss.getD i []) (pw _ _) (sm _ _ _) fa W hr hF

set_option maxRecDepth 20000 in
set_option maxHeartbeats 3200000 in
theorem iTurnT (A : Option Addr) (n c : Nat) (xss : List (List Int)) (w : World) (hr : RdR w A n xss) (hD : diceB xss = true) :
    Calls Try.prog 18 #[.slice A n c] w fun e w' => ∃ r, e = .returned (.tuple #[r, .bool true]) ∧ OwnC w' w.heap.size w'.heap.size r (turnsL xss (mT xss n) n) ∧ Below w.heap.size w w' := by
  have hl := hr.len
  obtain ⟨hn1, hn6, hdie⟩ := diceB_of hD
  have hn16 : n ≤ 6 := by omega
  have H := Lib.hid (iDice A n c xss w hr (by omega) (fun i hi => by have := dieB_len (hdie i (by omega)); omega))
  have Hm := hide (fun k (hk : k ≤ n) => mT_rng hdie hn6 k (by omega))
  have Hms := hide (mT_step xss)
  have Hm0 := hide (mT_zero xss)
  have Hd := hide (fun k (hk : k < n) => hdie k (by omega))
  obtain ⟨hm1, hm121⟩ := mT_rng hdie hn6 n (by omega)
  have HA := hide (fun j i (hj : j < mT xss n) (hi : i < n) => iAtD xss (mT xss n) j i hj hm121 (hdie i (by omega)))
  have HM := hide (fun j i (hj : j < mT xss n) (hi : i < n) => iMul _ _ _ _ (pr_mul hj hm121 hdie hn6 (i := i) (by omega)))
  have HM' : Hid (∀ j i, j < mT xss n → i < n → ∀ W, Calls Try.prog 46 #[.complex .f32 (prB xss (mT xss n) j i).1 (prB xss (mT xss n) j i).2, .complex .f32 (sD xss (mT xss n) j i).1 (sD xss (mT xss n) j i).2] W fun e w' => e = .returned (.complex .f32 (prB xss (mT xss n) j (i + 1)).1 (prB xss (mT xss n) j (i + 1)).2) ∧ W = w') := HM
  have HP := hide (fun j (hj : j < mT xss n) => iPhasor _ (dv_bd hj hm121).2 (dv_pos hj hm121))
  have Hq := hide (fun j (hj : j < mT xss n) => (dv_bd hj hm121).1)
  have HL := hide (turnsL_step xss (mT xss n) n)
  have HLn := hide (turnsL_len xss (mT xss n) n)
  have Hp0 : Hid (∀ j, prB xss (mT xss n) j 0 = (1065353216, 0)) := hide fun _ => rfl
  have Hr := hide hr
  rw [hD] at H
  clear hr hD hdie hn1 hn6 HM
  generalize turnsL xss (mT xss n) n = TL at *
  generalize prB xss (mT xss n) = PB at *
  generalize sD xss (mT xss n) = SD at *
  generalize mT xss = MT at *
  go_enter Try.func18, Try.ntmps18
  go_wp2_with (go_at_call 44; refine H.out.mono ?_; rintro e w2 ⟨rfl, hb2⟩)
  have HB2 := hide hb2
  clear hb2
  go_loopw [4, 17] (fun t4 t17 wr => ∃ i : Nat, i ≤ n ∧ t17 = .int .i64 (i : Int) ∧ t4 = .int .i64 ((MT i : Nat) : Int) ∧ Hid (Below w.heap.size w wr)) (fun _ t17 _ => n - (intOf t17).toNat)
  case atStart => exact ⟨0, Nat.zero_le _, rfl, by rw [Hm0.out]; rfl, HB2⟩
  case round =>
    clear HB2
    obtain ⟨i, hi, rfl, rfl, hb⟩ := hrel
    by_cases hin : i < n
    · obtain ⟨ad, B, d, rfl, hbl, hc, hrr, hdd⟩ := (Hr.out.below hb.out).at hin
      have hdi := Hd.out i hin
      have hlen := dieB_len hdi
      have hlast : Hid ((xss.getD i []).getD ((xss.getD i []).length - 1) 0 = ((lastF (xss.getD i []) : Nat) : Int)) := hide (by
        have := die_in hdi (j := (xss.getD i []).length - 1) (by omega)
        unfold lastF
        omega)
      have hlf20 : lastF (xss.getD i []) ≤ 20 := by
        have := die_in hdi (j := (xss.getD i []).length - 1) (by omega)
        unfold lastF
        omega
      have Hsort := hide (fun i' (h : i' + 1 < (xss.getD i []).length) => die_mono hdi (i := i') (j := i' + 1) (by omega) h)
      have Hst := hide (Hms.out i)
      have hmi := (Hm.out i hi).2
      have hlen12 := hlen.2
      have hlen1 := hlen.1
      clear hlen hdi
      generalize xss.getD i [] = fs at *
      generalize lastF fs = lf at *
      generalize hMi : MT i = mi at *
      clear hMi
      have HMx := Lib.hid (fun W h => iMax B fs.length d fs W h hlen1 hlen12 Hsort.out)
      rw [hlast.out] at HMx
      have hb0 : Below wr.heap.size wr (wr.alloc (.cells #[.slice B fs.length d] 62)) := (Below.refl _ _).alloc (Nat.le_refl _) _
      have hcD := dcell wr (.slice B fs.length d) 62
      have hr0 := hrr.below hb0
      have HBn := hide (hb.out.trans (hb0.mono hb.out.size))
      have e1 : wrap64 ((mi : Int) + (lf : Int)) = ((mi + lf : Nat) : Int) := (IntWalk.wrap64_in _ (by omega)).trans (by simp)
      clear hb0 hrr
      generalize fs.length = nf at *
      generalize hml : ((mi + lf : Nat) : Int) = ml at *
      have Hml := hide hml
      clear hml
      have f1 : (0 : Int) ≤ (i : Int) := by omega
      have f2 : (i : Int) < (n : Int) := by omega
      go_wp2_with (go_at_call 45; refine (HMx.out _ hr0).mono ?_; rintro e w' ⟨rfl, rfl⟩)
      exact ⟨⟨i + 1, hin, rfl, by rw [Hst.out]; rfl, HBn⟩, Nat.sub_lt_sub_left hin (Nat.lt_succ_self i)⟩
    · obtain rfl : i = n := by omega
      have HE := hide (OwnLC.empty wr #[] rfl (lo := w.heap.size) hb.out.size)
      have HB := hide (hb.out.alloc hb.out.size (.cells #[] 57))
      clear hb Hm Hms Hm0 Hd
      generalize MT i = m at *
      go_wp2
      generalize wr.alloc (.cells #[] 57) = w7 at *
      go_loopw [7, 29] (fun t7 t29 wr => ∃ k : Nat, k ≤ m ∧ t29 = .int .i64 (k : Int) ∧ Hid (OwnLC wr w.heap.size t7 (TL.take k)) ∧ Hid (Below w.heap.size w wr)) (fun _ t29 _ => m - (intOf t29).toNat)
      case atStart => exact ⟨0, Nat.zero_le _, rfl, HE, HB⟩
      case round =>
        clear HE HB
        obtain ⟨k, hk, rfl, ho, hb⟩ := hrel
        by_cases hlt : k < m
        · have Hs := hide (HL.out k hlt)
          have Hl1 : Hid ((TL.take k).length ≤ 1048576) := hide (by rw [List.length_take, HLn.out]; omega)
          have HPk := Lib.hid (HP.out k hlt)
          have rq := fr (Hq.out k hlt)
          have HAk := hide (fun i' (hi : i' < i) => HA.out k i' hlt hi)
          have HMk := hide (fun i' (hi : i' < i) => HM'.out k i' hlt hi)
          have Hpk := hide (Hp0.out k)
          generalize TL.take k = LL at *
          generalize PB k = Pk at *
          generalize SD k = Sk at *
          generalize phRe (dvB k m) = zr at *
          generalize phIm (dvB k m) = zi at *
          generalize dvB k m = t at *
          have g1 : (k : Int) < (m : Int) := by omega
          obtain ⟨w8, rfl⟩ : ∃ w8 : World, w8 = wr := ⟨_, rfl⟩
          go_wp2
          go_loopw [9, 34] (fun t9 t34 w2 => ∃ j : Nat, j ≤ i ∧ t34 = .int .i64 (j : Int) ∧ t9 = .complex .f32 (Pk j).1 (Pk j).2 ∧ Hid (Below w8.heap.size w8 w2)) (fun _ t34 _ => i - (intOf t34).toNat)
          case atStart => exact ⟨0, Nat.zero_le _, rfl, by rw [Hpk.out], hide (Below.refl _ _)⟩
          case round =>
            obtain ⟨j, hj, rfl, rfl, hbi⟩ := hrel
            by_cases hjn : j < i
            · obtain ⟨ad, B, d, rfl, hbl, hc, hrr, hd⟩ := (Hr.out.below (hb.out.trans (hbi.out.mono hb.out.size))).at hjn
              have HAi := hide (fun W h => HAk.out j hjn B d W h)
              have HMi := Lib.hid (HMk.out j hjn)
              have f1 : (0 : Int) ≤ (j : Int) := by omega
              have f2 : (j : Int) < (i : Int) := by omega
              have hcD := dcell wr (.slice B (xss.getD j []).length d) 62
              have hb0 : Below wr.heap.size wr (wr.alloc (.cells #[.slice B (xss.getD j []).length d] 62)) := (Below.refl _ _).alloc (Nat.le_refl _) _
              have hlt0 : wr.heap.size < (wr.alloc (.cells #[.slice B (xss.getD j []).length d] 62)).heap.size := by simp
              have Hrr := hide (hrr.below hb0)
              have Hbi := hide (hbi.out.trans (hb0.mono hbi.out.size))
              clear hrr hb0 hbi
              generalize (xss.getD j []).length = len at *
              go_upto_region 17 with fail
              change Code.wp _ _ _ _ (wr.alloc (.cells #[.slice B len d] 62))
              generalize wr.alloc (.cells #[.slice B len d] 62) = W5 at *
              generalize wr.heap.size = G at *
              go_region_held3 (fun w' => w'.cell? ⟨G, 0, none⟩ = some (.slice B len d))
                (first | exact hcD | go_keep | (rw [hbk.cell (by exact hlt0)]; assumption))
                ((first
                  | (go_at_call 48; refine (HPk.out _).mono ?_; rintro e w' ⟨rfl, rfl⟩)
                  | (go_at_call 47; refine (HAi.out _ (by first | exact Hrr.out | exact Hrr.out.drewN _)).mono ?_; rintro e w' ⟨rfl, hbk⟩)
                  | (go_at_call 46; refine (HMi.out _).mono ?_; rintro e w' ⟨rfl, rfl⟩)))
              have HBB := hide ((below_drewN Hbi.out _).trans (hbk.mono Hbi.out.size))
              go_wp2
              exact ⟨⟨j + 1, hjn, rfl, rfl, HBB⟩, Nat.sub_lt_sub_left hjn (Nat.lt_succ_self j)⟩
            · obtain rfl : j = i := by omega
              have Hb2 := hide (hb.out.trans (hbi.out.mono hb.out.size))
              have Ho2 := hide (ho.out.below hbi.out)
              go_wp2_with (at_builtin; refine app1C Ho2.out Hl1.out Hb2.out.size rfl rfl rfl rfl ?_; intro v' w4 ho4 hg4)
              exact ⟨⟨k + 1, hlt, rfl, by rw [Hs.out]; exact hide ho4, hide (Hb2.out.grown hg4 Hb2.out.size (fun g hg => (Ho2.out.lt g hg).1))⟩, Nat.sub_lt_sub_left hlt (Nat.lt_succ_self k)⟩
        · obtain rfl : k = m := by omega
          have HTk : Hid (TL.take k = TL) := hide (List.take_of_length_le (by rw [HLn.out]; exact Nat.le_refl _))
          rw [HTk.out] at ho
          obtain ⟨A5, c5, rfl, -, -, -, -⟩ := ho.out.own.form
          generalize hN : TL.length = N at *
          clear hN
          go_wp2
          go_ret2
          exact ⟨_, rfl, ho.out.own, hb.out⟩
theorem iTurnF (A : Option Addr) (n c : Nat) (xss : List (List Int)) (w : World) (hr : RdR w A n xss) (hn : n ≤ 1048576) (hrow : ∀ k, k < n → (xss.getD k []).length ≤ 1048576) (hD : diceB xss = false) :
    Calls Try.prog 18 #[.slice A n c] w fun e w' => e = .returned (.tuple #[.slice none 0 0, .bool false]) ∧ Below w.heap.size w w' := by
  have H := Lib.hid (iDice A n c xss w hr hn hrow)
  rw [hD] at H
  clear hr hrow hD
  go_enter Try.func18, Try.ntmps18
  go_wp2_with (go_at_call 44; refine H.out.mono ?_; rintro e w2 ⟨rfl, hb2⟩)
  go_ret2
  exact ⟨rfl, hb2⟩
theorem iTurnSums (v : Value) (xss : List (List Int)) (w : World) (hv : RVR w v xss) (ht : tot xss ≤ 1048576) :
    Calls Try.prog 18 #[v] w fun e w' => ∃ r, e = .returned (.tuple #[r, .bool (RTurnSums xss).2]) ∧ OwnC w' w.heap.size w'.heap.size r (RTurnSums xss).1 ∧ Below w.heap.size w w' := by
  obtain ⟨A, c, rfl, hr, _⟩ := hv
  cases hD : diceB xss with
  | true =>
    have e : RTurnSums xss = (turnsL xss (mT xss xss.length) xss.length, true) := by unfold RTurnSums; rw [if_pos hD]
    rw [e]
    exact iTurnT A _ c xss w hr hD
  | false =>
    have e : RTurnSums xss = ([], false) := by unfold RTurnSums; rw [hD]; rfl
    rw [e]
    exact (iTurnF A _ c xss w hr (Nat.le_trans (tot_len xss) ht) (fun k hk => Nat.le_trans (tot_row hk) ht) hD).mono fun e w' ⟨h1, h2⟩ => ⟨_, h1, OwnC.nil _ _ _, h2⟩
end Go.Proofs.Ytjeaiihgedennaa
