/- spec.TurnSums. Conditions: what is stated. -/
import Derived.Test.YtjeaiihgedennaaTurnP
namespace Go.Proofs.Ytjeaiihgedennaa
open Go.ChangeShapes Go.WideShapes Go.ChangeAt Go.RowKit

theorem sAtD (xss : List (List Int)) (m j i : Nat) (hj : j < m) (hm : m ≤ 121) (hd : dieB (xss.getD i []) = true) (p : Addr) (A : Option Addr) (cc : Nat) (W : World) (hp : W.cell? p = some (.slice A (xss.getD i []).length cc)) (hr : Rd W A (xss.getD i []).length (iv (xss.getD i []))) :
    Calls Try.prog 41 #[.pointer (some p), .complex .f32 (phRe (dvB j m)) (phIm (dvB j m))] W fun e w' => e = .returned (.complex .f32 (sD xss m j i).1 (sD xss m j i).2) ∧ W = w' := by
  obtain ⟨fa, hF⟩ := at_facts (good_turn hj hm) hd
  exact sAt0 p A _ cc _ _ (xss.getD i []) (pw _ _) (sm _ _ _) fa W hp hr hF

set_option maxRecDepth 20000 in
set_option maxHeartbeats 1600000 in
theorem sTurnT (A : Option Addr) (n c : Nat) (xss : List (List Int)) (w : World) (hr : RdR w A n xss) (hD : diceB xss = true) :
    Calls Try.prog 16 #[.slice A n c] w fun e w' => ∃ r, e = .returned (.tuple #[r, .bool true]) ∧ OwnC w' w.heap.size w'.heap.size r (turnsL xss (mT xss n) n) ∧ Below w.heap.size w w' := by
  have hl := hr.len
  obtain ⟨hn1, hn6, hdie⟩ := diceB_of hD
  have hn16 : n ≤ 6 := by omega
  have H := Lib.hid (sDice A n c xss w hr (by omega) (fun i hi => by have := dieB_len (hdie i (by omega)); omega))
  have HC := Lib.hid (fun W (h : RdR W A n xss) => sCounts A n c xss W h (by omega) (fun k hk => hdie k (by omega)))
  obtain ⟨hm1, hm121⟩ := mT_rng hdie hn6 n (by omega)
  have HmT : Hid (mT xss n = (cnD xss n).length) := hide rfl
  have hfin := turnsL_fin hm121 hdie hn6
  rw [hl] at hfin
  have HFin := hide hfin
  have HA := hide (fun j i (hj : j < mT xss n) (hi : i < n) => sAtD xss (mT xss n) j i hj hm121 (hdie i (by omega)))
  have HM := hide (fun j i (hj : j < mT xss n) (hi : i < n) => sMul _ _ _ _ (pr_mul hj hm121 hdie hn6 (i := i) (by omega)))
  have HM' : Hid (∀ j i, j < mT xss n → i < n → ∀ W, Calls Try.prog 40 #[.complex .f32 (prB xss (mT xss n) j i).1 (prB xss (mT xss n) j i).2, .complex .f32 (sD xss (mT xss n) j i).1 (sD xss (mT xss n) j i).2] W fun e w' => e = .returned (.complex .f32 (prB xss (mT xss n) j (i + 1)).1 (prB xss (mT xss n) j (i + 1)).2) ∧ W = w') := HM
  have HP := hide (fun j (hj : j < mT xss n) => sPhasor _ (dv_bd hj hm121).2)
  have Hq := hide (fun j (hj : j < mT xss n) => (dv_bd hj hm121).1)
  have HL := hide (turnsL_step xss (mT xss n) n)
  have HLn := hide (turnsL_len xss (mT xss n) n)
  have Hp0 : Hid (∀ j, prB xss (mT xss n) j 0 = (1065353216, 0)) := hide fun _ => rfl
  have Hr := hide hr
  rw [hD] at H
  clear hr hD hfin hdie hn1 hn6 HM
  generalize turnsL xss (mT xss n) n = TL at *
  generalize prB xss (mT xss n) = PB at *
  generalize sD xss (mT xss n) = SD at *
  generalize mT xss n = m at *
  go_enter Try.func16, Try.ntmps16
  go_upto_region 4 with (first | (go_at_call 37; refine H.out.mono ?_; rintro e w2 ⟨rfl, q, rfl⟩) | (go_at_call 38; refine (HC.out _ (Hr.out.drewN q)).mono ?_; rintro e w6 ⟨r, rfl, ho6, hb6⟩; obtain ⟨A2, c2, rfl, -, -, -, -⟩ := ho6.form; rw [← HmT.out]))
  have hb7 : Below w.heap.size w w6 := (below_drewN (Below.refl _ _) q).trans (hb6.mono (Nat.le_refl _))
  clear hb6
  have HE := hide (OwnLC.empty w6 #[] rfl (lo := w.heap.size) hb7.size)
  have HB := hide (hb7.alloc hb7.size (.cells #[] 57))
  clear hb7
  go_wp2
  generalize w6.alloc (.cells #[] 57) = w7 at *
  go_loopw [5, 6] (fun t5 t6 wr => ∃ k : Nat, k ≤ m ∧ t6 = .int .i64 (k : Int) ∧ Hid (OwnLC wr w.heap.size t5 (TL.take k)) ∧ Hid (Below w.heap.size w wr)) (fun _ t6 _ => m - (intOf t6).toNat)
  case atStart => exact ⟨0, Nat.zero_le _, rfl, HE, HB⟩
  case round =>
    clear HE HB
    obtain ⟨k, hk, rfl, ho, hb⟩ := hrel
    by_cases hlt : k < m
    · have Hs := hide (HL.out k hlt)
      have Hl1 : Hid ((TL.take k).length ≤ 1048576) := hide (by rw [List.length_take, HLn.out]; omega)
      have HPk := Lib.hid (HP.out k hlt)
      have rq := fr (Hq.out k hlt)
      have HAk := hide (fun i (hi : i < n) => HA.out k i hlt hi)
      have HMk := hide (fun i (hi : i < n) => HM'.out k i hlt hi)
      have Hpk := hide (Hp0.out k)
      generalize TL.take k = LL at *
      generalize PB k = Pk at *
      generalize SD k = Sk at *
      generalize phRe (dvB k m) = zr at *
      generalize phIm (dvB k m) = zi at *
      generalize dvB k m = t at *
      have g1 : (k : Int) < (m : Int) := by omega
      go_wp2_with (go_at_call 39; refine (HPk.out _).mono ?_; rintro e w' ⟨rfl, rfl⟩)
      go_loopw [8, 30] (fun t8 t30 w2 => ∃ i : Nat, i ≤ n ∧ t30 = .int .i64 (i : Int) ∧ t8 = .complex .f32 (Pk i).1 (Pk i).2 ∧ w2 = wr) (fun _ t30 _ => n - (intOf t30).toNat)
      case atStart => exact ⟨0, Nat.zero_le _, rfl, by rw [Hpk.out], rfl⟩
      case round =>
        obtain ⟨i, hi, rfl, rfl, rfl⟩ := hrel
        by_cases hin : i < n
        · obtain ⟨ad, B, d, rfl, hbl, hc, hrr, hd⟩ := (Hr.out.below hb.out).at hin
          have HAi := hide (HAk.out i hin _ B d _ hc hrr)
          have HMi := Lib.hid (HMk.out i hin)
          have f1 : (0 : Int) ≤ (i : Int) := by omega
          have f2 : (i : Int) < (n : Int) := by omega
          clear hrr
          go_wp2_with (first | (go_at_call 41; refine (HAi.out).mono ?_; rintro e w' ⟨rfl, rfl⟩) | (go_at_call 40; refine (HMi.out _).mono ?_; rintro e w' ⟨rfl, rfl⟩))
          exact ⟨⟨i + 1, hin, rfl, rfl, trivial⟩, Nat.sub_lt_sub_left hin (Nat.lt_succ_self i)⟩
        · obtain rfl : i = n := by omega
          go_wp2_with (at_builtin; refine app1C ho.out Hl1.out hb.out.size rfl rfl rfl rfl ?_; intro v' w4 ho4 hg4)
          exact ⟨⟨k + 1, hlt, rfl, by rw [Hs.out]; exact hide ho4, hide (hb.out.grown hg4 hb.out.size (fun g hg => (ho.out.lt g hg).1))⟩, Nat.sub_lt_sub_left hlt (Nat.lt_succ_self k)⟩
    · obtain rfl : k = m := by omega
      have HTk : Hid (TL.take k = TL) := hide (List.take_of_length_le (by rw [HLn.out]; exact Nat.le_refl _))
      rw [HTk.out] at ho
      obtain ⟨A5, c5, rfl, -, -, hrd5, -⟩ := ho.out.own.form
      have HS := hide (sFinC A5 TL.length c5 TL wr hrd5 (by rw [HLn.out]; omega) rfl HFin.out)
      clear hrd5
      generalize hN : TL.length = N at *
      clear hN
      go_wp2_with (go_at_call 42; refine HS.out.mono ?_; rintro e w' ⟨rfl, rfl⟩)
      go_ret2
      exact ⟨_, rfl, ho.out.own, hb.out⟩
theorem sTurnF (A : Option Addr) (n c : Nat) (xss : List (List Int)) (w : World) (hr : RdR w A n xss) (hn : n ≤ 1048576) (hrow : ∀ k, k < n → (xss.getD k []).length ≤ 1048576) (hD : diceB xss = false) :
    Calls Try.prog 16 #[.slice A n c] w fun e w' => e = .returned (.tuple #[.slice none 0 0, .bool false]) ∧ Below w.heap.size w w' := by
  have H := Lib.hid (sDice A n c xss w hr hn hrow)
  rw [hD] at H
  clear hr hrow hD
  go_enter Try.func16, Try.ntmps16
  go_wp2_with (go_at_call 37; refine H.out.mono ?_; rintro e w2 ⟨rfl, q, rfl⟩)
  go_ret2
  exact ⟨rfl, below_drewN (Below.refl _ _) _⟩
theorem sTurnSums (v : Value) (xss : List (List Int)) (w : World) (hv : RVR w v xss) (ht : tot xss ≤ 1048576) :
    Calls Try.prog 16 #[v] w fun e w' => ∃ r, e = .returned (.tuple #[r, .bool (RTurnSums xss).2]) ∧ OwnC w' w.heap.size w'.heap.size r (RTurnSums xss).1 ∧ Below w.heap.size w w' := by
  obtain ⟨A, c, rfl, hr, _⟩ := hv
  cases hD : diceB xss with
  | true =>
    have e : RTurnSums xss = (turnsL xss (mT xss xss.length) xss.length, true) := by unfold RTurnSums; rw [if_pos hD]
    rw [e]
    exact sTurnT A _ c xss w hr hD
  | false =>
    have e : RTurnSums xss = ([], false) := by unfold RTurnSums; rw [hD]; rfl
    rw [e]
    exact (sTurnF A _ c xss w hr (Nat.le_trans (tot_len xss) ht) (fun k hk => Nat.le_trans (tot_row hk) ht) hD).mono fun e w' ⟨h1, h2⟩ => ⟨_, h1, OwnC.nil _ _ _, h2⟩
end Go.Proofs.Ytjeaiihgedennaa
