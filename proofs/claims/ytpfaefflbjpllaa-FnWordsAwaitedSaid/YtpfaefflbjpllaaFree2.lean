/- Contract of the program's WordFree. Conditions: lengths at most 2^20. -/
import Derived.Test.YtpfaefflbjpllaaFreeP
import Derived.Test.YtpfaefflbjpllaaClone
namespace Go.Proofs.Ytpfaefflbjpllaa
open Go.ChangeShapes Go.WideShapes Go.ChangeAt Go.RowKit

set_option maxHeartbeats 800000 in
theorem iPowAt (S T : Nat) (w : World) (hs1 : 2 ≤ S) (hs2 : S ≤ 6) (hT : T ≤ 60) :
    Calls Try.prog 53 #[.int .i64 S, .int .i64 T] w fun e w' => (∃ X : Int, e = .returned (.tuple #[.int .i64 X, .bool (powOk (S : Int) T)])) ∧ w = w' := by
  obtain ⟨Q, hQ⟩ : ∃ Q : Int, 4000000000000000000 / (S : Int) = Q := ⟨_, rfl⟩
  have Hsucc : Hid (∀ k, powOk (S : Int) k = true → powOk (S : Int) (k + 1) = decide (pwI (S : Int) k ≤ Q)) := hide fun k h => by rw [powOk_succ h, hQ]
  have Hpw := hide (fun k => pwI_succ (S : Int) k)
  have Hpos := hide (fun k => pwI_pos (s := (S : Int)) (by omega) k)
  have Hle : Hid (∀ k, pwI (S : Int) k ≤ Q → pwI (S : Int) k * (S : Int) ≤ 4000000000000000000) := hide fun k h => pwI_le (by omega) (by rw [hQ]; exact h)
  have Hmore := hide (fun k m h => powOk_more (s := (S : Int)) (k := k) m h)
  have H0 : Hid (pwI (S : Int) 0 = 1 ∧ powOk (S : Int) 0 = true) := hide ⟨by unfold pwI; simp, rfl⟩
  have q0 : 0 ≤ Q ∧ Q ≤ 4000000000000000000 := by
    rw [← hQ]
    exact ⟨Int.ediv_nonneg (by omega) (by omega), Int.ediv_le_self _ (by omega)⟩
  have q1 : Int.tdiv 4000000000000000000 (S : Int) = Q := by rw [Int.tdiv_eq_ediv_of_nonneg (by omega)]; exact hQ
  obtain ⟨q0, q00⟩ := q0
  generalize pwI (S : Int) = PW at *
  generalize hOK : powOk (S : Int) = OK at *
  clear hOK
  go_enter Try.func53, Try.ntmps53
  go_wp2
  go_loop [6, 8] (fun a i => ∃ k : Nat, k ≤ T ∧ i = .int .i64 k ∧ a = .int .i64 (PW k) ∧ Hid (OK k = true)) (fun _ i => T - (intOf i).toNat)
  case atStart => exact ⟨0, Nat.zero_le _, rfl, by rw [H0.out.1], hide H0.out.2⟩
  case round =>
    obtain ⟨k, hk, rfl, rfl, hok⟩ := hrel
    by_cases hlt : k < T
    · have p1 := Hpos.out k
      by_cases hc : PW k ≤ Q
      · have p2 := Hle.out k hc
        have hs := hide (Hsucc.out k hok.out)
        have hp := hide (Hpw.out k)
        have HC := hide hc
        generalize PW k = p at *
        obtain ⟨m, hm⟩ : ∃ m, p * (S : Int) = m := ⟨_, rfl⟩
        have p3 : 0 ≤ p * (S : Int) := Int.mul_nonneg (by omega) (by omega)
        go_wp2
        go_round
        case rel => exact ⟨k + 1, by omega, by go_num, by rw [hp.out, hm], hide (by rw [hs.out]; exact decide_eq_true HC.out)⟩
        case measure => simp [intOf]; omega
      · have hs := Hsucc.out k hok.out
        rw [decide_eq_false hc] at hs
        have hno := Hmore.out (k + 1) (T - (k + 1)) hs
        rw [show k + 1 + (T - (k + 1)) = T by omega] at hno
        have HNo := hide hno
        clear hs hno
        generalize PW k = p at *
        go_wp2
        go_ret2
        exact ⟨⟨_, by rw [HNo.out]; rfl⟩, rfl⟩
    · have hkT : T = k := by omega
      subst hkT
      go_wp2
      go_ret2
      exact ⟨⟨_, by rw [hok.out]; rfl⟩, rfl⟩

set_option maxRecDepth 100000 in
set_option maxHeartbeats 3200000 in
theorem iWordFree (v : Value) (xs : List Int) (s t : Int) (w : World) (hv : RV w v xs) (hn : xs.length ≤ 1048576) (_w1 : (Lit.int .i64 s).wf = true) (_w2 : (Lit.int .i64 t).wf = true) :
    Calls Try.prog 24 #[v, .int .i64 s, .int .i64 t] w fun e w' => e = .returned (.tuple #[.int .i64 (RWordFree xs s t).1, .bool (RWordFree xs s t).2]) ∧ Below w.heap.size w w' := by
  have HW := Lib.hid (iWordV v xs s w hv hn)
  have HT := Lib.hid (fun W => iIn t 0 60 W)
  cases hq : wordB xs s with
  | false =>
    rw [show RWordFree xs s t = (0, false) from by rw [RWordFree, if_neg (by rw [hq]; simp)]]
    rw [hq] at HW
    clear hq
    go_enter Try.func24, Try.ntmps24
    go_wp2_with (go_at_call 13; refine HW.out.mono ?_; rintro e w' ⟨rfl, hb1⟩)
    go_ret2
    exact ⟨rfl, hb1⟩
  | true =>
    obtain ⟨⟨hs1, hs2⟩, h3, h4⟩ := wordB_facts hq
    cases hq2 : inB t 0 60 with
    | false =>
      rw [show RWordFree xs s t = (0, false) from by rw [RWordFree, if_neg (by rw [hq2]; simp)]]
      rw [hq] at HW
      rw [hq2] at HT
      clear hq hq2
      go_enter Try.func24, Try.ntmps24
      go_wp2_with (first | (go_at_call 13; refine HW.out.mono ?_; rintro e w' ⟨rfl, hb1⟩) | (go_at_call 40; refine (HT.out _).mono ?_; rintro e w' ⟨rfl, rfl⟩))
      go_ret2
      exact ⟨rfl, hb1⟩
    | true =>
      have ht := inB_iff.1 hq2
      have HR : Hid (RWordFree xs s t = if powOk s t.toNat = true then (sumW (frT xs.length s.toNat (toE xs) t.toNat) xs.length, true) else (0, false)) := hide (by rw [RWordFree, hq, hq2]; rfl)
      rw [hq] at HW
      rw [hq2] at HT
      clear hq hq2
      have HOv := Lib.hid (fun u es W (h1 : RV W v xs) (h2 : RV W u es) (h : es.length ≤ 1048576) => iOver v u xs es W h1 h2 hn h)
      have HV := hide hv
      obtain ⟨A, c, rfl, hr, hc⟩ := hv
      obtain ⟨S, rfl⟩ := Int.eq_ofNat_of_zero_le (show 0 ≤ s by omega)
      obtain ⟨T, rfl⟩ := Int.eq_ofNat_of_zero_le (show 0 ≤ t by omega)
      simp only [Int.toNat_natCast] at HR
      have hT : T ≤ 60 := by omega
      have HP := Lib.hid (fun W => iPowAt S T W (by omega) (by omega) hT)
      cases hok : powOk (S : Int) T with
      | false =>
        rw [hok] at HP
        have HRR : Hid (RWordFree xs (S : Int) (T : Int) = (0, false)) := hide (by rw [HR.out, if_neg (by rw [hok]; simp)])
        clear hok HR
        go_enter Try.func24, Try.ntmps24
        go_wp2_with (first | (go_at_call 13; refine HW.out.mono ?_; rintro e w1 ⟨rfl, hb1⟩) | (go_at_call 40; refine (HT.out _).mono ?_; rintro e w' ⟨rfl, rfl⟩) | (go_at_call 53; refine (HP.out _).mono ?_; rintro e w' ⟨⟨X, rfl⟩, rfl⟩))
        go_ret2
        exact ⟨by rw [HRR.out]; rfl, hb1⟩
      | true =>
      rw [hok] at HP
      have HRR0 : Hid (RWordFree xs (S : Int) (T : Int) = (sumW (frT xs.length S (toE xs) T) xs.length, true)) := hide (by rw [HR.out, if_pos hok])
      clear hok HR
      have HF0 : Hid (frT xs.length S (toE xs) 0 = (List.replicate xs.length 0).set 0 1) := hide rfl
      have HFs : Hid (∀ k, frT xs.length S (toE xs) (k + 1) = frK xs.length S (toE xs) (frT xs.length S (toE xs) k) xs.length) := hide fun k => rfl
      have HK0 : Hid (∀ row, frK xs.length S (toE xs) row 0 = List.replicate xs.length 0) := hide fun row => rfl
      have HKs : Hid (∀ row k, frK xs.length S (toE xs) row (k + 1) = frX xs.length (toE xs k) (row.getD k 0) (frK xs.length S (toE xs) row k) S) := hide fun row k => rfl
      have HX0 : Hid (∀ Z v r, frX xs.length Z v r 0 = r) := hide fun _ _ _ => rfl
      have HXs : Hid (∀ Z v r x, frX xs.length Z v r (x + 1) = bump xs.length (Z x) v (frX xs.length Z v r x)) := hide fun _ _ _ _ => rfl
      have HLF := hide (fun k => frT_len xs.length S (toE xs) k)
      have HLK := hide (fun row k => frK_len xs.length S (toE xs) row k)
      have HLX := hide (fun Z v r x => frX_len xs.length Z v r x)
      have HTo : Hid (∀ k x, toE xs k x = lastE (xs.take k ++ [(x : Int)]) xs (k + 1)) := hide fun _ _ => rfl
      have HS0 : Hid (∀ r, sumW r 0 = 0) := hide fun _ => rfl
      have HSs : Hid (∀ r k, sumW r (k + 1) = wrap64 (sumW r k + r.getD k 0)) := hide fun _ _ => rfl
      have HBy : Hid (∀ d v r, d < xs.length → bump xs.length d v r = r.set d (wrap64 (r.getD d 0 + v))) := hide fun d v r h => by rw [bump, if_pos h]
      have HBn : Hid (∀ d v r, ¬ d < xs.length → bump xs.length d v r = r) := hide fun d v r h => by rw [bump, if_neg h]
      generalize frT xs.length S (toE xs) = F at *
      generalize frK xs.length S (toE xs) = FK at *
      generalize frX xs.length = FX at *
      generalize bump xs.length = BU at *
      generalize toE xs = TT at *
      generalize hSW : sumW = SW at *
      clear hSW
      generalize hN : xs.length = n at *
      have HN := hide hN
      clear hN
      have HRR : Hid (RWordFree xs (S : Int) (T : Int) = (SW (F T) n, true)) := HRR0
      clear HRR0
      go_enter Try.func24, Try.ntmps24
      go_wp2_with (first | (go_at_call 13; refine HW.out.mono ?_; rintro e w1 ⟨rfl, hb1⟩; have HB1 := hide hb1; clear hb1) | (go_at_call 40; refine (HT.out _).mono ?_; rintro e w' ⟨rfl, rfl⟩) | (go_at_call 53; refine (HP.out _).mono ?_; rintro e w' ⟨⟨X, rfl⟩, rfl⟩) | (at_make; refine mk1 (by omega) rfl rfl rfl rfl ?_; intro w0 hB0 hb0 hw0; have hc0 := hB0.int (k := 0) (by simp; omega); have hf0 := hB0.free 0))
      have hz1 := HB1.out.size
      have hB1 := hB0.seti 0 1
      have hb1 : Below w.heap.size w (w0.setCell ⟨w1.heap.size, 0, none⟩ (.int .i64 1)) := HB1.out.trans ((hb0.setCell (p := ⟨w1.heap.size, 0, none⟩) (Nat.le_refl _) (.int .i64 1)).mono hz1)
      go_loopw [11, 46] (fun r i wr => ∃ k g : Nat, k ≤ T ∧ i = .int .i64 k ∧ r = .slice (some ⟨g, 0, none⟩) n n ∧ Bk wr g 2 (iv (F k)) ∧ w.heap.size ≤ g ∧ Below w.heap.size w wr) (fun _ i _ => T - (intOf i).toNat)
      case atStart => exact ⟨0, _, Nat.zero_le _, rfl, rfl, by rw [HF0.out]; exact hB1, hz1, hb1⟩
      case round =>
        obtain ⟨k, g, hk, rfl, rfl, hB, hg, hb⟩ := hrel
        clear hB0 hb0 hw0 hc0 hf0 hB1 hb1
        by_cases hlt : k < T
        · obtain ⟨w3, rfl⟩ : ∃ w3 : World, w3 = wr := ⟨_, rfl⟩
          have Hb3 := hide hb
          have hgl := hB.lt
          have hz3 := hb.size
          clear hb
          go_wp2_with (at_make; refine mk1 (by omega) rfl rfl rfl rfl ?_; intro w4 hB4 hb4 hw4)
          go_loopw [52] (fun i wr => ∃ j : Nat, j ≤ n ∧ i = .int .i64 j ∧ Hid (Bk wr w3.heap.size 2 (iv (FK (F k) j))) ∧ Below w3.heap.size w3 wr ∧ w3.heap.size < wr.heap.size) (fun i _ => n - (intOf i).toNat)
          case atStart => exact ⟨0, Nat.zero_le _, rfl, hide (by rw [HK0.out]; exact hB4), hb4, hw4⟩
          case round =>
            obtain ⟨j, hj, rfl, hBj, hbj, hwj⟩ := hrel
            clear hB4 hb4 hw4
            by_cases hlj : j < n
            · have c2 := (hB.below hbj hgl).int (k := j) (by rw [HLF.out]; exact hlj)
              generalize hy2 : (F k).getD j 0 = y2 at *
              have HY2 := hide hy2
              clear hy2
              go_wp2
              go_loopw [58] (fun i wr => ∃ x : Nat, x ≤ S ∧ i = .int .i64 x ∧ Hid (Bk wr w3.heap.size 2 (iv (FX (TT j) ((F k).getD j 0) (FK (F k) j) x))) ∧ Below w3.heap.size w3 wr ∧ w3.heap.size < wr.heap.size) (fun i _ => S - (intOf i).toNat)
              case atStart => exact ⟨0, Nat.zero_le _, rfl, hide (by rw [HX0.out]; exact hBj.out), hbj, hwj⟩
              case round =>
                obtain ⟨x, hx, rfl, hBx, hbx, hwx⟩ := hrel
                obtain ⟨wx, rfl⟩ : ∃ wx : World, wx = wr := ⟨_, rfl⟩
                clear hBj hbj hwj c2
                by_cases hlx : x < S
                · have hrx := (hr.below Hb3.out).below hbx
                  have htk := hrx.upto (k := j) (by omega)
                  have hjc : j ≤ c := by omega
                  have hvt : RV wx (.slice A j c) (xs.take j) := RV.mk htk hjc
                  have hvx : RV wx (.slice A n c) xs := RV.mk hrx hc
                  have Hys : Hid (∃ ys : List Int, ys = xs.take j ++ [(x : Int)] ∧ ys.length = j + 1) := hide ⟨_, rfl, by simp; have := HN.out; omega⟩
                  obtain ⟨ys, hys, hyl⟩ := Hys.out
                  have HTx : Hid (TT j x = lastE ys xs n) := hide (by
                    have e : n = j + 1 + (n - (j + 1)) := by omega
                    rw [HTo.out, ← hys, e, lastE_more (k := j + 1) (n - (j + 1)) (.inl (by rw [hyl]; exact Nat.le_refl _))])
                  have HY := hide hys
                  have HYL := hide hyl
                  have hjt : (xs.take j).length ≤ 12 := by simp; omega
                  clear hys hyl Hys htk hrx
                  go_wp2_with (first
                    | (go_at_call 54; refine (libClone _ (xs.take j) _ hvt (by omega)).mono ?_; rintro e w5 ⟨v5, rfl, ho5, hb5⟩)
                    | (at_builtin; refine app1 ho5.l (by omega) hb5.size rfl rfl rfl rfl ?_; intro v6 w6 ho6 hg6; have hb6 := hb5.grown hg6 hb5.size (fun k hk => (ho5.l.lt k hk).1); rw [← HY.out] at ho6; have hv6 := ho6.own.rv))
                  refine (HOv.out _ ys _ (hvx.below hb6) hv6 (by rw [HYL.out]; omega)).mono ?_
                  rintro e w8 ⟨r8, rfl, ho8, hb8⟩
                  have hb6 := hb6.trans (hb8.mono hb6.size)
                  obtain ⟨B8, d8, e8, hcd8, -, hr8, -⟩ := ho8.form
                  have hlast := ov_last ys xs n
                  have hlen8 : (ov ys xs n).length ≤ 12 := Nat.le_trans (ov_len ys xs n) h4
                  clear hb8 ho8 hv6 ho6 hg6 hb5 ho5 hvt hvx
                  generalize ov ys xs n = ls at *
                  rcases hlast with ⟨h1, h2⟩ | ⟨h1, h2⟩
                  · subst h1
                    rw [show ([] : List Int).length = 0 from rfl] at e8
                    subst e8
                    have HTm : Hid (TT j x = 0) := hide (HTx.out.trans h2)
                    clear h2 hr8
                    clear hcd8 hlen8
                    have hz6 := hb6.size
                    have hbA : Below w3.heap.size w3 w8 := hbx.trans (hb6.mono hbx.size)
                    have hB7 := hBx.out.below hb6 hwx
                    have hwA : w3.heap.size < w8.heap.size := by omega
                    by_cases hmn : 0 < n
                    · have c1 := hB7.int (k := 0) (by rw [HLX.out, HLK.out]; exact hmn)
                      have fr := hB7.free 0
                      have hST := hide (HBy.out 0 y2 (FX (TT j) ((F k).getD j 0) (FK (F k) j) x) hmn)
                      have hB8 := hide (hB7.seti 0 (wrap64 ((FX (TT j) ((F k).getD j 0) (FK (F k) j) x).getD 0 0 + y2)))
                      have HbA := hide hbA
                      have g1 : (0 : Int) ≤ (0 : Int) := by omega
                      have g2 : (0 : Int) < (n : Int) := by omega
                      have HB7 := hide hB7
                      clear hbA hB7 hb6
                      generalize (FX (TT j) ((F k).getD j 0) (FK (F k) j) x).getD 0 0 = y1 at *
                      go_wp2
                      go_roundw
                      case rel => exact ⟨x + 1, by omega, by go_num, hide (by rw [HXs.out, HTm.out, HY2.out]; rw [HY2.out] at hST; rw [hST.out]; first | exact hB8.out | (have h9 := hB8.out; rw [HY2.out] at h9; exact h9)), HbA.out.setCell (p := ⟨w3.heap.size, 0, none⟩) (Nat.le_refl _) _, Nat.lt_of_lt_of_eq hwA (set_size _ _ _).symm⟩
                      case measure => simp [intOf]; omega
                    · have hST := hide (HBn.out 0 ((F k).getD j 0) (FX (TT j) ((F k).getD j 0) (FK (F k) j) x) hmn)
                      have hmn' : n ≤ 0 := by omega
                      go_wp2
                      go_roundw
                      case rel => exact ⟨x + 1, by omega, by go_num, hide (by rw [HXs.out, HTm.out, hST.out]; exact hB7), hbA, hwA⟩
                      case measure => simp [intOf]; omega
                  · generalize hL : ls.length = L at *
                    subst e8
                    obtain ⟨ad8, rfl, hbl8, hc8⟩ := hr8.int (k := L - 1) (by omega)
                    rw [h2] at hc8
                    generalize hm : lastE ys xs n = m at *
                    have HTm : Hid (TT j x = m) := HTx
                    have q1 : ((L : Int) - 1).toNat = L - 1 := by omega
                    have q2 : (0 : Int) ≤ (L : Int) - 1 := by omega
                    have q3 : (L : Int) - 1 < (L : Int) := by omega
                    clear h2 hr8 hm hL hcd8 HTx
                    have hz6 := hb6.size
                    have hbA : Below w3.heap.size w3 w8 := hbx.trans (hb6.mono hbx.size)
                    have hB7 := hBx.out.below hb6 hwx
                    have hwA : w3.heap.size < w8.heap.size := by omega
                    by_cases hmn : m < n
                    · have c1 := hB7.int (k := m) (by rw [HLX.out, HLK.out]; exact hmn)
                      have fr := hB7.free m
                      have hST := hide (HBy.out m y2 (FX (TT j) ((F k).getD j 0) (FK (F k) j) x) hmn)
                      have hB8 := hide (hB7.seti m (wrap64 ((FX (TT j) ((F k).getD j 0) (FK (F k) j) x).getD m 0 + y2)))
                      have HbA := hide hbA
                      have g1 : (0 : Int) ≤ (m : Int) := by omega
                      have g2 : (m : Int) < (n : Int) := by omega
                      have HB7 := hide hB7
                      clear hbA hB7 hb6
                      generalize (FX (TT j) ((F k).getD j 0) (FK (F k) j) x).getD m 0 = y1 at *
                      go_wp2
                      go_roundw
                      case rel => exact ⟨x + 1, by omega, by go_num, hide (by rw [HXs.out, HTm.out, HY2.out]; rw [HY2.out] at hST; rw [hST.out]; first | exact hB8.out | (have h9 := hB8.out; rw [HY2.out] at h9; exact h9)), HbA.out.setCell (p := ⟨w3.heap.size, m, none⟩) (Nat.le_refl _) _, Nat.lt_of_lt_of_eq hwA (set_size _ _ _).symm⟩
                      case measure => simp [intOf]; omega
                    · have hST := hide (HBn.out m ((F k).getD j 0) (FX (TT j) ((F k).getD j 0) (FK (F k) j) x) hmn)
                      have hmn' : n ≤ m := by omega
                      go_wp2
                      go_roundw
                      case rel => exact ⟨x + 1, by omega, by go_num, hide (by rw [HXs.out, HTm.out, hST.out]; exact hB7), hbA, hwA⟩
                      case measure => simp [intOf]; omega
                · have hxS : S = x := by omega
                  subst hxS
                  go_wp2
                  go_roundw
                  case rel => exact ⟨j + 1, by omega, by go_num, hide (by rw [HKs.out]; exact hBx.out), hbx, hwx⟩
                  case measure => simp [intOf]; omega
            · have hjn : n = j := by omega
              subst hjn
              go_wp2
              go_roundw
              case rel => exact ⟨k + 1, _, by omega, by go_num, rfl, by rw [HFs.out]; exact hBj.out, by omega, Hb3.out.trans (hbj.mono hz3)⟩
              case measure => simp [intOf]; omega
        · have hkT : T = k := by omega
          subst hkT
          have HB := hide hB
          have Hb := hide hb
          clear hB hb
          go_wp2
          go_loop [19, 96] (fun a i => ∃ j : Nat, j ≤ n ∧ i = .int .i64 j ∧ a = .int .i64 (SW (F T) j)) (fun _ i => n - (intOf i).toNat)
          case atStart => exact ⟨0, Nat.zero_le _, rfl, by rw [HS0.out]⟩
          case round =>
            obtain ⟨j, hj, rfl, rfl⟩ := hrel
            by_cases hlj : j < n
            · have hcc := HB.out.int (k := j) (by rw [HLF.out]; exact hlj)
              have Hs := hide (HSs.out (F T) j)
              generalize SW (F T) j = y1 at *
              generalize (F T).getD j 0 = y2 at *
              go_wp2
              go_round
              case rel => exact ⟨j + 1, by omega, by go_num, by rw [Hs.out]⟩
              case measure => simp [intOf]; omega
            · have hjn : n = j := by omega
              subst hjn
              go_wp2
              go_ret2
              exact ⟨by rw [HRR.out]; rfl, Hb.out⟩
end Go.Proofs.Ytpfaefflbjpllaa
