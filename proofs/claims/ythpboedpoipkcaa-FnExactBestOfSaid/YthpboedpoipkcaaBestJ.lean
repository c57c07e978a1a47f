/- impl.BestOf where the dice and the number are allowed. Conditions: those. -/
import Derived.Test.YthpboedpoipkcaaBestI
import Derived.Laws.EntriesVeiled
namespace Go.Proofs.Ythpboedpoipkcaa
open Go.ChangeShapes Go.WideShapes Go.ChangeAt Go.RowKit

set_option maxRecDepth 100000 in
set_option maxHeartbeats 1600000 in
theorem iBestT (A : Option Addr) (n c k : Nat) (xss : List (List Int)) (w : World) (hr : RdR w A n xss) (hD : diceB xss = true) (hK : inB (k : Int) 1 (n : Int) = true) :
    Calls Try.prog 53 #[.slice A n c, .int .i64 (k : Int)] w fun e w' => ∃ r, e = .returned (.tuple #[r, .int .i64 (RBestOf xss (k : Int)).2.1, .bool (RBestOf xss (k : Int)).2.2]) ∧ Own w' w.heap.size w'.heap.size r (RBestOf xss (k : Int)).1 ∧ Below w.heap.size w w' := by
  have hl := hr.len
  obtain ⟨hn1, hn6, hdie⟩ := diceB_of hD
  have hrow : ∀ i, i < n → (xss.getD i []).length ≤ 1048576 := fun i hi => by have := dieB_len (hdie i (by omega)); omega
  obtain ⟨W, hW, b1, b2, hb0⟩ := best_boxes A n c (k : Int) w
  have H := Lib.hid (iDice A n c xss _ (hr.below hb0) (by omega) hrow)
  have HK := Lib.hid (fun V => iIn (k : Int) 1 (n : Int) V)
  rw [hD] at H
  rw [hK] at HK
  have hk := hK
  rw [inB_iff] at hk
  have hk1 : 1 ≤ k := by omega
  have hkn : k ≤ n := by omega
  have hn16 : n ≤ 6 := by omega
  have c1 := b1.cell 0
  have c2 := b2.cell 0
  have l1 := b1.lt
  have l2 := b2.lt
  have HB0 := hide hb0
  have HW := hide hW
  have HR := hide (hr.below hb0)
  have Hr0 := hide hr
  have Hdie : Hid (∀ i, i < n → dieB (xss.getD i []) = true) := hide fun i hi => hdie i (by omega)
  have Hdie2 := hide hdie
  have Hl := hide hl
  have Hrow := hide hrow
  have Hwst : Hid (∀ i, i < n → waysL (xss.take (i + 1)) = waysL (xss.take i) * (xss.getD i []).length) := hide fun i hi => waysL_step xss (by omega)
  have Hwbd : Hid (∀ i, i ≤ n → waysL (xss.take i) ≤ 2985984) := hide fun i hi => waysL_big (fun j hj => (dieB_len (hdie j hj)).2) (by omega) i (by omega)
  have Hlst : Hid (∀ i, i < n → (lastL xss).take (i + 1) = (lastL xss).take i ++ [(xss.getD i []).getD ((xss.getD i []).length - 1) 0]) := hide fun i hi => lastL_step xss (by omega)
  have Hll : Hid (∀ i, i ≤ n → ((lastL xss).take i).length = i) := hide fun i hi => by rw [List.length_take, lastL_len]; omega
  have HRes : Hid (RBestOf xss (k : Int) = if waysL xss ≤ 100000 then (boRow xss k, (waysL xss : Int), true) else ([], 0, false)) := hide (by
    unfold RBestOf boOk
    rw [hD, hl, hK]
    simp)
  have Hbk1 : Hid (Bk W w.heap.size 42 [.slice A n c]) := hide b1
  have Hbk2 : Hid (Bk W (w.heap.size + 1) 2 [.int .i64 (k : Int)]) := hide b2
  have HWf : Hid (waysL (xss.take n) = waysL xss) := hide (by rw [List.take_of_length_le (by omega)])
  have HLf : Hid ((lastL xss).take n = lastL xss) := hide (by rw [List.take_of_length_le (by rw [lastL_len]; omega)])
  clear hr hrow b1 b2 hW hb0 hdie hn1 hn6 hl hK hk
  generalize RBestOf xss (k : Int) = RR at *
  go_enter Try.func53, Try.ntmps53
  go_upto_region 1 with fail
  rw [← HW.out]
  go_upto_region 3 with (first | (go_at_call 67; refine H.out.mono ?_; rintro e w2 ⟨rfl, hb2⟩; have k1 := (hb2.cell (p := ⟨w.heap.size, 0, none⟩) l1).trans c1; have k2 := (hb2.cell (p := ⟨w.heap.size + 1, 0, none⟩) l2).trans c2; clear c1 c2) | (go_at_call 57; with_reducible refine (HK.out _).mono ?_; rintro e w' ⟨rfl, rfl⟩))
  have HB2 : Hid (Below W.heap.size W w2) := hide hb2
  have hs2 := hb2.size
  clear hb2
  go_upto_region 4 with fail
  have hE0 : OwnL (w2.alloc (.cells #[] 2)) (w.heap.size + 2) (.slice (some ⟨w2.heap.size, 0, none⟩) 0 0) [] := OwnL.empty _ _ rfl (by omega)
  have hB3 : Below (w.heap.size + 2) W (w2.alloc (.cells #[] 2)) := (HB2.out.mono (by omega)).alloc (by omega) _
  have HE := hide hE0
  have HB3 := hide hB3
  clear hE0 hB3
  generalize w2.alloc (.cells #[] 2) = w3 at *
  generalize w2.heap.size = G at *
  have k3 := (Hbk1.out.below HB3.out (by omega)).cell 0
  clear k1 k2 HB2 hs2
  go_wp2
  go_loopw [7, 8, 28] (fun wy mo i wr => ∃ j : Nat, j ≤ n ∧ i = .int .i64 j ∧ wy = .int .i64 ((waysL (xss.take j) : Nat) : Int) ∧ Hid (OwnL wr (w.heap.size + 2) mo ((lastL xss).take j)) ∧ Hid (Below (w.heap.size + 2) W wr)) (fun _ _ i _ => n - (intOf i).toNat)
  case atStart => exact ⟨0, Nat.zero_le _, rfl, rfl, HE, HB3⟩
  case round =>
    clear HE HB3 k3 H HK
    obtain ⟨j, hj, rfl, rfl, ho, hb⟩ := hrel
    by_cases hlt : j < n
    · obtain ⟨ad, B, d, rfl, hbl, hc, hrr, hdd⟩ := (Hr0.out.below (HB0.out.trans (hb.out.mono (by omega)))).at hlt
      have hdi := Hdie.out j hlt
      have hlen := dieB_len hdi
      have HM := Lib.hid (fun W h => iMax B (xss.getD j []).length d (xss.getD j []) W h hlen.1 hlen.2 (fun i hi => die_sorted hdi (by omega)))
      have hb1 := Hwbd.out j hj
      have hb2 := Hwbd.out (j + 1) (by omega)
      have Hs1 := hide (Hwst.out j hlt)
      have Hs2 := hide (Hlst.out j hlt)
      have Hs3 := hide (Hll.out j hj)
      rw [Hs1.out] at hb2
      have hb0 : Below (w.heap.size + 2) wr (wr.alloc (.cells #[.slice B (xss.getD j []).length d] 27)) := (Below.refl _ _).alloc (by have := hb.out.size; omega) _
      have hr0 := hrr.below ((Below.refl wr.heap.size wr).alloc (Nat.le_refl _) (.cells #[.slice B (xss.getD j []).length d] 27))
      have hcD := dcell wr (.slice B (xss.getD j []).length d) 27
      have ho1 : Hid (OwnL (wr.alloc (.cells #[.slice B (xss.getD j []).length d] 27)) (w.heap.size + 2) u8 ((lastL xss).take j)) := hide (World.ownsRow.alloc ho.out _)
      generalize (xss.getD j []).getD ((xss.getD j []).length - 1) 0 = z at *
      generalize (xss.getD j []).length = m at *
      generalize waysL (xss.take j) = y at *
      have HLt := hide (rfl : (lastL xss).take j = (lastL xss).take j)
      go_upto_region 7 with fail
      have hbA := hide (hb.out.trans hb0)
      have hlA : w.heap.size + 2 ≤ (wr.alloc (.cells #[.slice B m d] 27)).heap.size := Nat.le_trans (by omega) hbA.out.size
      clear hb0 hb ho hrr
      generalize wr.alloc (.cells #[.slice B m d] 27) = wA at *
      generalize wr.heap.size = G2 at *
      have hM2 := Lib.hid (HM.out wA hr0)
      clear HM hr0
      obtain ⟨L, HL⟩ : ∃ L, Hid ((lastL xss).take j = L) := ⟨_, hide rfl⟩
      rw [HL.out] at ho1 Hs2 Hs3
      have Hm := hide (Int.natCast_mul y m)
      have e1 : wrap64 ((y : Int) * (m : Int)) = ((y * m : Nat) : Int) := (IntWalk.wrap64_in _ (by rw [← Hm.out]; omega)).trans Hm.out.symm
      go_wp2_with (first | (go_at_call 81; refine hM2.out.mono ?_; rintro e w' ⟨rfl, rfl⟩) | (at_builtin; refine app1d ho1.out (by rw [Hs3.out]; omega) hlA rfl rfl rfl rfl ?_; intro v2 w4 ho2 hg2 hd2))
      refine ⟨⟨j + 1, by omega, by go_num, by rw [Hs1.out, Hm.out], hide (by rw [Hs2.out]; exact ho2), hide (hbA.out.grown hg2 hlA (fun g hg => (World.ownsRow.lt ho1.out g hg).1))⟩, by simp [intOf]; omega⟩
    · obtain rfl : j = n := by omega
      rw [HWf.out]
      rw [HLf.out] at ho
      clear Hwst Hwbd Hlst Hll HWf HLf
      by_cases hbig : waysL xss ≤ 100000
      · rw [if_pos hbig] at HRes
        obtain ⟨g, c', rfl, hg1, hg2, hc', hrow⟩ := owns_form (n := j) ho.out.own (by rw [lastL_len, Hl.out]) (by omega)
        have Hrow2 := hide hrow
        have Hl2 : Hid ((lastL xss).length = j) := hide (by rw [lastL_len, Hl.out])
        have Hfit := hide (fit_start Hdie2.out hbig k)
        have Hbst := hide (bestN_le k (lastL xss))
        have Hlr := hide (fun i (hi : i < j) => last_rng Hdie2.out (i := i) (by rw [Hl.out]; exact hi))
        clear hrow ho
        generalize hyy : waysL xss = y at *
        clear hyy
        have d1 : decide (100000 < (y : Int)) = false := decide_eq_false (by omega)
        go_upto_region 13 with fail
        have hS := Bk.new wr 79 [.func (.func 88) #[] #[.pointer (some ⟨w.heap.size + 1, 0, none⟩)]]
        have hlr : w.heap.size + 2 ≤ wr.heap.size := Nat.le_trans (by omega) hb.out.size
        have hB3 := hb.out.alloc hlr (.cells #[.func (.func 88) #[] #[.pointer (some ⟨w.heap.size + 1, 0, none⟩)]] 79)
        have hrow3 := World.ownsRow.alloc Hrow2.out (.cells #[.func (.func 88) #[] #[.pointer (some ⟨w.heap.size + 1, 0, none⟩)]] 79)
        have hg3 : g < wr.heap.size := hg2
        generalize hW3 : wr.alloc (.cells #[.func (.func 88) #[] #[.pointer (some ⟨w.heap.size + 1, 0, none⟩)]] 79) = w4 at *
        clear hW3 Hrow2 hb hg2 hg3 Hdie Hdie2
        have hs4 : w.heap.size + 2 ≤ w4.heap.size := Nat.le_trans (by omega) hB3.size
        have hke := Hbk2.out.below hB3 (by omega)
        have hdi := Hbk1.out.below hB3 (by omega)
        have hown : OwnL w4 (w.heap.size + 2) (.slice (some ⟨g, 0, none⟩) j c') (lastL xss) := by unfold OwnL; rw [Hl2.out]; exact hrow3
        have HBest := Lib.hid (iBest (w.heap.size + 1) k j _ (lastL xss) w4 hke hown.own.rv Hl2.out hk1 hkn hn16 Hlr.out)
        have cS := hS.cell 0
        have HB4 := hide hB3
        have HS := hide hS
        have HKe := hide hke
        have HDi := hide hdi
        clear hB3 hS hke hdi hown hrow3
        generalize hM : bestN k (lastL xss) = M at *
        have HM := hide hM
        have hMb : M ≤ 120 := by have := Hbst.out; omega
        clear hM Hbst
        generalize hS3 : wr.heap.size = S3 at *
        have hS32 : w.heap.size + 2 ≤ S3 := by omega
        clear hS3
        go_upto_region 14 with (first | (go_at_call 88; refine HBest.out.mono ?_; rintro e w5 ⟨rfl, hb5⟩) | (at_make; refine mk1 (n := M + 1) (by omega) rfl rfl rfl rfl ?_; intro w6 hB6 hb6 hs6))
        have hco := Bk.new w6 22 [.slice (some ⟨w5.heap.size, 0, none⟩) (M + 1) (M + 1)]
        have hcn := hB6.alloc (.cells #[.slice (some ⟨w5.heap.size, 0, none⟩) (M + 1) (M + 1)] 22)
        have hb57 := (hb5.trans (hb6.mono hb5.size)).alloc (by have := hb5.size; omega) (.cells #[.slice (some ⟨w5.heap.size, 0, none⟩) (M + 1) (M + 1)] 22)
        have h45 := hb5.size
        clear hB6 hb6 hb5 cS
        generalize w6.alloc (.cells #[.slice (some ⟨w5.heap.size, 0, none⟩) (M + 1) (M + 1)] 22) = w7 at *
        generalize w6.heap.size = S6 at *
        generalize w5.heap.size = S5 at *
        have hSe := HS.out.below hb57 HS.out.lt
        have hKe := HKe.out.below hb57 HKe.out.lt
        have hDi := HDi.out.below hb57 HDi.out.lt
        have hS4 := HS.out.lt
        have hB7 := hide (HB4.out.trans (hb57.mono hs4))
        have HCo := hide hco
        have HCn := hide hcn
        have HSe := hide hSe
        have HKe := hide hKe
        have HDi := hide hDi
        clear hco hcn hSe hKe hDi hb57
        go_upto_region 17 with fail
        have hBG := BG.start (w0 := w) (cs := List.replicate (M + 1) 0) HDi.out (by rw [List.length_replicate]; exact HCo.out) HCn.out HSe.out HKe.out (HB0.out.trans (hB7.out.mono (by omega))) (by omega) (by omega) (by omega) (by omega) (by omega)
        generalize ((w7.alloc (.cells #[] 2)).alloc (.cells #[.slice (some ⟨w7.heap.size, 0, none⟩) 0 0] 22)).alloc (.cells #[.func (.func 90) #[] #[.pointer (some ⟨w7.heap.size + 1, 0, none⟩), .pointer (some ⟨w.heap.size, 0, none⟩), .pointer (some ⟨S6, 0, none⟩), .pointer (some ⟨S3, 0, none⟩), .pointer (some ⟨w7.heap.size + 1 + 1, 0, none⟩)]] 1) = w8 at *
        have HC := recB _ w k j c A xss Hr0.out Hrow.out hk1 hkn hn16 j [] _ (List.replicate (M + 1) 0) w8 (by rw [Hl.out]; simp) (by rw [List.length_nil, List.drop_zero, thrL_empty]; exact Hfit.out) hBG
        rw [List.length_nil, List.drop_zero, thrL_empty] at HC
        have kth := hBG.th.cell 0
        have hHC := Lib.hid HC
        have hrl := runC_len (bestN k) (prodL xss) (List.replicate (M + 1) 0)
        rw [List.length_replicate] at hrl
        have HRl := hide hrl
        have HRs : Hid (RR = (runC (bestN k) (prodL xss) (List.replicate (M + 1) 0), (y : Int), true)) := hide (by rw [HRes.out, boRow, HM.out])
        clear HC hBG hrl Hfit
        generalize runC (bestN k) (prodL xss) (List.replicate (M + 1) 0) = CS at *
        generalize w7.heap.size = S7 at *
        go_wp2_with (go_at_call 90; refine hHC.out.mono ?_; rintro e w9 ⟨rfl, v9, hE⟩; have m1 := hE.co.cell 0; have HE := hide hE; clear hE kth)
        go_ret3
        rw [HRs.out]
        exact ⟨_, rfl, HE.out.cn.owned (show w.heap.size ≤ S5 by omega) (by rw [HRl.out]; unfold maxLen; omega), HE.out.base⟩
      · rw [if_neg hbig] at HRes
        have d1 : decide (100000 < ((waysL xss : Nat) : Int)) = true := decide_eq_true (by omega)
        go_wp2
        go_ret3
        rw [HRes.out]
        exact ⟨_, rfl, Own.nil _ _ _, HB0.out.trans (hb.out.mono (by omega))⟩

theorem iBestOf (v : Value) (xss : List (List Int)) (kp : Int) (w : World) (hv : RVR w v xss) (ht : tot xss ≤ 1048576) (_ : (Lit.int .i64 kp).wf = true) :
    Calls Try.prog 53 #[v, .int .i64 kp] w fun e w' => ∃ r, e = .returned (.tuple #[r, .int .i64 (RBestOf xss kp).2.1, .bool (RBestOf xss kp).2.2]) ∧ Own w' w.heap.size w'.heap.size r (RBestOf xss kp).1 ∧ Below w.heap.size w w' := by
  obtain ⟨A, c, rfl, hr, _⟩ := hv
  cases hq : (diceB xss && inB kp 1 (xss.length : Int)) with
  | true =>
    rw [Bool.and_eq_true] at hq
    have hk := hq.2
    rw [inB_iff] at hk
    obtain ⟨k, rfl⟩ : ∃ k : Nat, kp = (k : Int) := ⟨kp.toNat, by omega⟩
    exact iBestT A _ c k xss w hr hq.1 hq.2
  | false =>
    have e : RBestOf xss kp = ([], 0, false) := by
      unfold RBestOf boOk
      rw [hq]
      rfl
    rw [e]
    exact (iBestF A _ c xss kp w hr (Nat.le_trans (tot_len xss) ht) (fun k hk => Nat.le_trans (tot_row hk) ht) hq).mono fun e w' ⟨h1, h2⟩ => ⟨_, h1, Own.nil _ _ _, h2⟩
end Go.Proofs.Ythpboedpoipkcaa
