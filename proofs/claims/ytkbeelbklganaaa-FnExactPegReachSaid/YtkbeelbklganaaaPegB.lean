/- Contract of PegReach, the reference's: a list of boards that grows, a table of what was seen. Conditions: lengths at most 2^20. -/
import Derived.Test.YtkbeelbklganaaaPegT
namespace Go.Proofs.Ytkbeelbklganaaa
open Go.ChangeShapes Go.WideShapes Go.ChangeAt Go.RowKit Go.Maps

def ni (ys : List Nat) : List Int := ys.map fun (y : Nat) => (y : Int)
theorem ni_len (ys : List Nat) : (ni ys).length = ys.length := by simp [ni]
theorem ni_get {ys : List Nat} {k : Nat} (h : k < ys.length) : (ni ys).getD k 0 = ((ys.getD k 0 : Nat) : Int) := by simp [ni, List.getD, h]
theorem ni_app (ys : List Nat) (z : Nat) : ni (ys ++ [z]) = ni ys ++ [(z : Int)] := by simp [ni]
/-- the list and the table, in memory -/
def BMem (n x G lo : Nat) (w wr : World) (v : Value) (S : Nat → Bool) (ys : List Nat) : Prop :=
  OwnL wr lo v (ni ys) ∧ Bk wr G 2 (iv (seenL n S)) ∧ BInv n x S ys ∧ Below w.heap.size w wr ∧ lo ≤ wr.heap.size
theorem BMem.drewN {n x G lo : Nat} {w wr : World} {v : Value} {S : Nat → Bool} {ys : List Nat} (h : BMem n x G lo w wr v S ys) (q : Nat) : BMem n x G lo w (wr.drewN q) v S ys := ⟨h.1, h.2.1.drewN q, h.2.2.1, below_drewN h.2.2.2.1 q, h.2.2.2.2⟩
theorem BMem.below {n x G lo : Nat} {w wr w' : World} {v : Value} {S : Nat → Bool} {ys : List Nat} (h : BMem n x G lo w wr v S ys) (hw : w.heap.size ≤ wr.heap.size) (hb : Below wr.heap.size wr w') : BMem n x G lo w w' v S ys :=
  ⟨h.1.below hb, h.2.1.below hb h.2.1.lt, h.2.2.1, h.2.2.2.1.trans (hb.mono hw), Nat.le_trans h.2.2.2.2 hb.size⟩
/-- where the list's numbers lie -/
theorem own_at {w : World} {lo : Nat} {v : Value} {xs : List Int} (h : OwnL w lo v xs) {k : Nat} (hk : k < xs.length) : ∃ g c, v = .slice (some ⟨g, 0, none⟩) xs.length c ∧ lo ≤ g ∧ g < w.heap.size ∧ w.cell? ⟨g, k, none⟩ = some (.int .i64 (xs.getD k 0)) := by
  obtain ⟨g, c, e, _, h1, h2, h3⟩ := formN h.own rfl (show 0 < xs.length by omega)
  exact ⟨g, c, e, h1, h2, h3 k hk⟩
/-- 'append(out, y)', and where the new slice lies -/
theorem app1at {w : World} {ops : Array Oper} {rest : List Oper} {o : Oper} {a : Act} {Q : Exit → Act → World → Prop} {lo B : Nat} {v : Value} {xs : List Int} {y : Int}
    (hB0 : w.heap.size = B) (hown : OwnL w lo v xs) (hn : xs.length ≤ 1048576) (hlo : lo ≤ w.heap.size) (hgd : o.guard = none) {s x : Operand}
    (ho : o.op = .call { callee := .builtin .append, args := #[s, x], argTypes := #[22, 22] })
    (hs : a.eval s = v) (hx : a.eval x = .slice (some ⟨B, 0, none⟩) 1 1)
    (h : ∀ v' w', OwnL w' lo v' (xs ++ [y]) → w.grownBy w' v.ownBlock → (v'.ownBlock = v.ownBlock ∨ ∀ k, v'.ownBlock = some k → w.heap.size ≤ k) → wpList Try.prog ops Q rest (a.put o.dst v') w') :
    wpList Try.prog ops Q (o :: rest) a (w.alloc (.cells #[.int .i64 y] 2)) := by
  subst hB0
  have hB : Bk (w.alloc (.cells #[.int .i64 y] 2)) w.heap.size 2 (iv [y]) := Bk.new w 2 _
  have hz := ((Below.refl w.heap.size w).alloc (Nat.le_refl _) (.cells #[.int .i64 y] 2)).size
  refine appR (hown.below ((Below.refl _ _).alloc (Nat.le_refl _) _)) (hB.rdi (n := 1) rfl) (by omega) (Nat.le_trans hlo hz) hgd ho hs hx ?_
  intro v' w' h1 h2 h3
  refine h v' w' h1 ((World.grownBy_alloc w _ _).trans h2) ?_
  rcases h3 with h3 | h3
  · exact .inl h3
  · refine .inr fun k hk => ?_
    rw [h3] at hk
    injection hk with hk
    omega
theorem reach_set (n x : Nat) : ∃ S : Nat → Bool, ∀ y, S y = true ↔ Reach n x y :=
  ⟨fun y => @decide (Reach n x y) (Classical.propDecidable _), fun y => by simp⟩

set_option maxRecDepth 100000 in
set_option maxHeartbeats 3200000 in
theorem sPegReach (A : Option Addr) (n c : Nat) (b : List Bool) (S0 : Nat → Bool) (w : World) (hr : Rd w A n (bv b)) (hn : n ≤ 1048576) (hS : ∀ y, S0 y = true ↔ Reach b.length (toNk b b.length) y) :
    Calls Try.prog 33 #[.slice A n c] w fun e w' => e = .returned (.tuple #[.int .i64 (pegI b (cntT S0 (2 ^ b.length))), .bool (boardB b.length)]) ∧ Below w.heap.size w w' := by
  have HB := Lib.hid (fun W h => sBoard A n c b W h hn)
  have hl := hr.blen
  subst hl
  unfold pegI
  cases hq : boardB b.length with
  | false =>
    rw [hq] at HB
    generalize (if b.length ≤ 14 then toNk b b.length else 0) = x at HB
    rw [if_neg (by simp)]
    clear hq hS
    go_enter Try.func33, Try.ntmps33
    go_wp2_with (go_at_call 54; refine (HB.out _ hr).mono ?_; rintro e w' ⟨rfl, rfl⟩)
    go_ret2
    exact ⟨rfl, Below.refl _ _⟩
  | true =>
    obtain ⟨h1, h14⟩ := board_of hq
    rw [hq, if_pos h14] at HB
    rw [if_pos rfl]
    have hx2 : toNk b b.length < 2 ^ b.length := toNk_lt b b.length
    have hpow := pow14 h14
    have HT := Lib.hid (fun W => sTold b.length W h14)
    have HM := Lib.hid (fun W y (h : y < 2 ^ b.length) => sMoves y.testBit y b.length W (by omega) h14 (fun i => rfl))
    have HV := Lib.hid (fun W y f t (h : y < 2 ^ b.length) hf ht => sMoved y f t W (by omega) (Nat.lt_of_lt_of_le hf h14) (Nat.lt_of_lt_of_le ht h14))
    have HD : Hid (∀ S ys, BInv b.length (toNk b b.length) S ys → Shut b.length S ys ys.length → ys.length = cntT S0 (2 ^ b.length)) := hide fun S ys g1 g2 => by
      rw [g1.2.1]
      refine cntT_same fun y _ => ?_
      rw [Bool.eq_iff_iff, hS, g1.done g2]
    have hcl : cntT S0 (2 ^ b.length) ≤ 16384 := Nat.le_trans (cntT_le _ _) hpow
    clear hq hS
    generalize cntT S0 (2 ^ b.length) = R at *
    generalize b.length = n at *
    generalize toNk b n = x at *
    have HP := hide hpow
    have HX := hide hx2
    have HN0 : Hid (iv (List.replicate (2 ^ n) 0) = iv (seenL n fun _ => false)) := hide (by rw [seenL_zero])
    go_enter Try.func33, Try.ntmps33
    go_wp2_with fail
    refine (HB.out _ hr).mono ?_
    rintro e w' ⟨rfl, rfl⟩
    go_wp2_with fail
    refine (HT.out _).mono ?_
    rintro e w1 ⟨rfl, hB, hb⟩
    rw [HN0.out] at hB
    obtain ⟨N, hN⟩ : ∃ N, N = 2 ^ n := ⟨_, rfl⟩
    have HNN := hide hN
    have hN16 : N ≤ 16384 := by rw [hN]; exact hpow
    have hxN : x < N := by omega
    have cx := hB.int (k := x) (by rw [seenL_len]; exact hx2)
    have fx := hB.free x
    have hB2 := hB.seti x 1
    rw [seenL_set _ hx2] at hB2
    have HB2 := hide hB2
    have hlt := hB.lt
    have Hb := hide (hb.setCell (p := ⟨w.heap.size, x, none⟩) (Nat.le_refl _) (.int .i64 1))
    rw [← hN]
    clear hB hB2 hb hN hpow hx2
    go_wp2
    obtain ⟨w2, hw2⟩ : ∃ w2, w2 = w1.setCell ⟨w.heap.size, x, none⟩ (.int .i64 1) := ⟨_, rfl⟩
    have hlo : w.heap.size < w2.heap.size := by rw [hw2, set_size]; exact hlt
    have hlo1 : w2.heap.size = w1.heap.size := by rw [hw2, set_size]
    rw [← hw2] at HB2 Hb ⊢
    have hB1 : Bk (w2.alloc (.cells #[.int .i64 (x : Int)] 2)) w2.heap.size 2 (iv [(x : Int)]) := Bk.new w2 _ _
    have hst : BMem n x w.heap.size w2.heap.size w (w2.alloc (.cells #[.int .i64 (x : Int)] 2)) (.slice (some ⟨w2.heap.size, 0, none⟩) 1 1) (updT (fun _ => false) x true) [x] :=
      ⟨(hB1.owned (Nat.le_refl _) (by simp [maxLen])).l, HB2.out.alloc _, BInv.one HX.out, Hb.out.alloc (Nat.le_of_lt hlo) _, ((Below.refl w2.heap.size w2).alloc (Nat.le_refl _) _).size⟩
    have Hst := hide hst
    obtain ⟨w3, hw3⟩ : ∃ w3, w3 = w2.alloc (.cells #[.int .i64 (x : Int)] 2) := ⟨_, rfl⟩
    rw [← hw3] at Hst
    clear hB1 hst cx fx
    rw [hlo1] at Hst
    rw [← hw3]
    have HML := Lib.hid (fun y => flatP_len (nxP n y))
    have hj : ∀ y j, j < (nxP n y).length → ∃ f t : Nat, (flatP (nxP n y)).getD (2 * j) 0 = (f : Int) ∧ (flatP (nxP n y)).getD (2 * j + 1) 0 = (t : Int) ∧ f < n ∧ t < n ∧ mvd y f t = (nx n y).getD j 0 := fun y j hj => by
      have hp := mvP_ok (Nat.le_refl n) ((nxP n y).getD j (0, 0)) (by show _ ∈ nxP n y; simp [List.getD, hj])
      obtain ⟨g1, g2⟩ := flatP_get hj
      exact ⟨_, _, g1, g2, hp.1, hp.2.1, (nx_get hj).symm⟩
    have Hj := Lib.hid hj
    have HNL := Lib.hid (fun y => nx_len n y)
    have HNB : Hid (∀ y, (nxP n y).length ≤ 56) := hide fun y => by
      have := mvN_len n y.testBit n
      rw [mvN_flat, flatP_len] at this
      show (mvP n y.testBit n).length ≤ 56
      omega
    clear hj hw3 hw2
    go_loopw [8, 9] (fun v i wr => ∃ (S : Nat → Bool) (ys : List Nat) (k : Nat), i = .int .i64 (k : Int) ∧ k ≤ N ∧ Hid (k ≤ ys.length) ∧ Hid (BMem n x w.heap.size w1.heap.size w wr v S ys) ∧ Hid (Shut n S ys k)) (fun _ i _ => N + 1 - (intOf i).toNat)
    case atStart => exact ⟨_, [x], 0, rfl, Nat.zero_le _, hide (Nat.zero_le _), Hst, hide (Shut.zero _ _ _)⟩
    case round =>
      obtain ⟨S, ys, k, rfl, hkN, hk, hM, hS⟩ := hrel
      have hyl : ys.length ≤ N := by rw [HNN.out]; exact hM.out.2.2.1.len
      have hy0 : 0 < ys.length := List.length_pos_of_mem hM.out.2.2.1.2.2.2
      obtain ⟨g, cc, rfl, _, hg1, hg2, hcell⟩ := formN hM.out.1.own (ni_len ys) hy0
      have hzw : w.heap.size ≤ wr.heap.size := by omega
      obtain ⟨L, hL⟩ : ∃ L, L = ys.length := ⟨_, rfl⟩
      have HL := hide hL
      have hkL : k ≤ L := by rw [hL]; exact hk.out
      rw [← hL] at hyl hy0 hcell hM ⊢
      clear hL
      by_cases hlt2 : k < L
      · obtain ⟨y, hy⟩ : ∃ y, y = ys.getD k 0 := ⟨_, rfl⟩
        have ck := hcell k hlt2
        rw [ni_get (by rw [← HL.out]; exact hlt2), ← hy] at ck
        have hymem : y ∈ ys := by rw [hy]; have := HL.out; simp [List.getD, show k < ys.length by omega]
        have hyN : y < 2 ^ n := (hM.out.2.2.1.2.2.1 y hymem).1
        have Hy := hide hy
        have Hymem := hide hymem
        have HyN := hide hyN
        have hy16 : y < 16384 := by have := HP.out; omega
        have HMy := Lib.hid (fun W => HM.out W y HyN.out)
        have hmf := mvN_flat n y.testBit n
        change mvN n y.testBit n = flatP (nxP n y) at hmf
        rw [hmf] at HMy
        have hml := HML.out y
        have hnb := HNB.out y
        have HV2 := Lib.hid (fun W f t hf ht => HV.out W y f t HyN.out hf ht)
        clear hmf hy hymem hyN hcell
        obtain ⟨M, hMM⟩ : ∃ M, M = (nxP n y).length := ⟨_, rfl⟩
        rw [← hMM] at hml hnb
        have HMM := hide hMM
        clear hMM
        go_wp2_with fail
        refine (HMy.out _).mono ?_
        rintro e w5 ⟨r, rfl, ho, hb5⟩
        have z5 := hb5.size
        obtain ⟨m2, hm2⟩ : ∃ m2, m2 = 2 * M := ⟨_, rfl⟩
        rw [← hm2] at hml
        have hF : Hid (∃ A g2 cap, r = .slice A m2 cap ∧ (0 < m2 → A = some ⟨g2, 0, none⟩ ∧ wr.heap.size ≤ g2 ∧ g2 < w5.heap.size ∧ ∀ j, j < m2 → w5.cell? ⟨g2, j, none⟩ = some (.int .i64 ((flatP (nxP n y)).getD j 0)))) := hide (by
          obtain ⟨A, cc, e, _, _, hr3, hf3⟩ := ho.form
          rw [hml] at e hr3
          by_cases h0 : 0 < m2
          · obtain ⟨g, cc, e, _, h1, h2, h3⟩ := formN ho hml h0
            exact ⟨_, g, cc, e, fun _ => ⟨rfl, h1, h2, h3⟩⟩
          · exact ⟨A, 0, cc, e, fun h => absurd h h0⟩)
        obtain ⟨A2, g2m, cap, rfl, hFm⟩ := hF.out
        have HFm := hide hFm
        have Hm2 := hide hm2
        have hm112 : m2 ≤ 112 := by omega
        have hM5 := hide (hM.out.below hzw hb5)
        have hgne : 0 < m2 → (Value.slice (some ⟨g, 0, none⟩) L cc).ownBlock ≠ some g2m := fun h e => by
          have h2 := (hFm h).2.1
          simp [Value.ownBlock] at e
          omega
        have Hgne := hide hgne
        clear hFm hF ho hb5 hml hm2 hgne ck
        go_wp2
        go_loopw [8, 11] (fun v i wq => ∃ (S' : Nat → Bool) (ys' : List Nat) (j q : Nat), i = .int .i64 (q : Int) ∧ q ≤ m2 ∧ Hid (q = 2 * j ∧ j ≤ M) ∧ Hid (BMem n x w.heap.size w1.heap.size w wq v S' ys') ∧ Hid (Shut n S' ys' k ∧ k < ys'.length ∧ ys'.getD k 0 = y ∧ Half n S' y j) ∧
          Hid (0 < m2 → A2 = some ⟨g2m, 0, none⟩ ∧ g2m < wq.heap.size ∧ w1.heap.size ≤ g2m ∧ v.ownBlock ≠ some g2m ∧ ∀ j, j < m2 → wq.cell? ⟨g2m, j, none⟩ = some (.int .i64 ((flatP (nxP n y)).getD j 0)))) (fun _ i _ => m2 + 1 - (intOf i).toNat)
        case atStart =>
          refine ⟨S, ys, 0, 0, rfl, Nat.zero_le _, hide ⟨rfl, Nat.zero_le _⟩, hM5, hide ⟨hS.out, by rw [← HL.out]; exact hlt2, Hy.out.symm, Half.zero _ _ _⟩, hide fun h => ?_⟩
          obtain ⟨h1, h2, h3, h4⟩ := HFm.out h
          exact ⟨h1, h3, by omega, Hgne.out h, h4⟩
        case round =>
          obtain ⟨w6, rfl⟩ : ∃ w6 : World, w6 = wr := ⟨_, rfl⟩
          obtain ⟨S', ys', j, q, rfl, hqm, Hq, hM', hS', hF'⟩ := hrel
          have hM6 := hM'.out
          have hyl' : ys'.length ≤ N := by rw [HNN.out]; exact hM6.2.2.1.len
          by_cases hqlt : q < m2
          · have hq2 := Hq.out.1
            have hm2 := Hm2.out
            have hjM : j < M := by omega
            have f0 : (0 : Int) ≤ (q : Int) := by omega
            have f1 : (q : Int) < (m2 : Int) := by omega
            have f2 : (0 : Int) ≤ (q : Int) + 1 := by omega
            have f3 : (q : Int) + 1 < (m2 : Int) := by omega
            have f4 : IntKind.i64.wrap ((q : Int) + 1) = (q : Int) + 1 := IntWalk.i64_in _ (by omega)
            have e2 : ((q : Int) + 1).toNat = q + 1 := by omega
            obtain ⟨rfl, hgm, hgm1, hgm2, hcm⟩ := hF'.out (by omega)
            obtain ⟨f, t, hf1, ht1, hfn, htn, hmv⟩ := Hj.out y j (by rw [← HMM.out]; exact hjM)
            have c1 := hcm q (by omega)
            have c2 := hcm (q + 1) (by omega)
            rw [hq2, hf1, ← hq2] at c1
            rw [hq2, ht1, ← hq2] at c2
            obtain ⟨z, hz⟩ : ∃ z, z = mvd y f t := ⟨_, rfl⟩
            have hjn : j < (nx n y).length := by rw [HNL.out, ← HMM.out]; exact hjM
            have hzmem : z ∈ nx n y := by rw [hz, hmv]; simp [List.getD, hjn]
            have hzN : z < 2 ^ n := nx_lt HyN.out hzmem
            have hzN2 : z < N := by rw [HNN.out]; exact hzN
            have HVz := Lib.hid (fun W => HV2.out W f t hfn htn)
            rw [← hz] at HVz hmv
            have Hmv := hide hmv
            have Hzmem := hide hzmem
            have HzN := hide hzN
            have Hcm := hide hcm
            have HS' := hide hS'.out
            obtain ⟨g', cc', rfl, _, hg1', hg2', hcell'⟩ := formN hM6.1.own (ni_len ys') (by have := HS'.out.2.1; omega)
            obtain ⟨L', hL'⟩ : ∃ L', L' = ys'.length := ⟨_, rfl⟩
            have HL' := hide hL'
            have hkL' : k < L' := by rw [hL']; exact HS'.out.2.1
            have ck := hcell' k (by rw [← hL']; exact hkL')
            rw [ni_get HS'.out.2.1, HS'.out.2.2.1] at ck
            rw [← hL'] at hyl' hM6 ⊢
            have g0 : (0 : Int) ≤ (k : Int) := by omega
            have g1 : (k : Int) < (L' : Int) := by omega
            have HM6 := hide hM6
            clear hmv hzmem hzN hf1 ht1 hq2 hm2 hz hcm hL' hcell' hM' hS' hF' hM6 hjn
            go_wp2
            go_quiet ((go_at_call 59; refine (HVz.out _).mono ?_; rintro e w' ⟨rfl, rfl⟩; exact ⟨rfl, _, rfl⟩))
            obtain ⟨q1, rfl⟩ : ∃ q1 : Nat, q1 = nq := ⟨_, rfl⟩
            obtain ⟨w7, hw7⟩ : ∃ w7, w7 = w6.drewN q1 := ⟨_, rfl⟩
            rw [← hw7]
            have HM7 := hide (HM6.out.drewN q1)
            have hs7 : w7.heap.size = w6.heap.size := by rw [hw7]; rfl
            have HC7 : Hid (∀ j, j < m2 → w7.cell? ⟨g2m, j, none⟩ = some (.int .i64 ((flatP (nxP n y)).getD j 0))) := hide (by rw [hw7]; exact Hcm.out)
            rw [← hw7] at HM7
            rw [← hs7] at hgm hg2'
            clear hw7 hs7 c1 c2 ck HM6 Hcm
            have ct := HM7.out.2.1.int (k := z) (by rw [seenL_len]; exact HzN.out)
            rw [seenL_get _ HzN.out] at ct
            cases hSz : S' z with
            | true =>
              rw [hSz, if_pos rfl] at ct
              have HSz := hide hSz
              clear hSz
              go_wp2
              go_roundw
              case rel =>
                refine ⟨S', ys', j + 1, q + 2, by go_num, by have := Hq.out; have := Hm2.out; omega, hide (by have := Hq.out; omega), HM7, hide ⟨HS'.out.1, HS'.out.2.1, HS'.out.2.2.1, HS'.out.2.2.2.snoc (by rw [← Hmv.out]; exact HSz.out)⟩, hide fun _ => ⟨by first | trivial | rfl, hgm, hgm1, hgm2, HC7.out⟩⟩
              case measure => simp [intOf]; omega
            | false =>
              rw [hSz, if_neg (by simp)] at ct
              have HSz := hide hSz
              have fz := HM7.out.2.1.free z
              have hB8 := HM7.out.2.1.seti z 1
              rw [seenL_set _ HzN.out] at hB8
              have hg8 := grown_set w7 ⟨w.heap.size, z, none⟩ (.int .i64 1)
              have ho8 := (HM7.out.1.own.grown hg8 (fun g e => by injection e with e; have e : w.heap.size = g := e; omega)).l
              have hb8 := HM7.out.2.2.2.1.setCell (p := ⟨w.heap.size, z, none⟩) (Nat.le_refl _) (.int .i64 1)
              have hc8 : ∀ j, j < m2 → (w7.setCell ⟨w.heap.size, z, none⟩ (.int .i64 1)).cell? ⟨g2m, j, none⟩ = some (.int .i64 ((flatP (nxP n y)).getD j 0)) := fun j h => cell_kept (B := w.heap.size) hg8 (HC7.out j h) hgm (by omega)
              have hz8 : w1.heap.size ≤ (w7.setCell ⟨w.heap.size, z, none⟩ (.int .i64 1)).heap.size := by rw [set_size]; exact HM7.out.2.2.2.2
              have hgm8 : g2m < (w7.setCell ⟨w.heap.size, z, none⟩ (.int .i64 1)).heap.size := by rw [set_size]; exact hgm
              have HB8 := hide hB8
              have Hb8 := hide hb8
              have Hc8 := hide hc8
              have hnl8 : (ni ys').length ≤ 1048576 := by rw [ni_len, ← HL'.out]; omega
              have hlow := hide (fun k hk => (ho8.lt k hk).1)
              clear hSz hB8 hb8 hc8 hg8 HC7
              go_wp2_with (at_builtin; refine app1at (set_size _ _ _) ho8 hnl8 hz8 rfl rfl rfl rfl ?_; intro v9 w9 ho9 hg9 hd9)
              go_roundw
              case rel =>
                refine ⟨updT S' z true, ys' ++ [z], j + 1, q + 2, by go_num, by have := Hq.out; have := Hm2.out; omega, hide (by have := Hq.out; omega), hide ⟨?_, ?_, ?_, ?_, ?_⟩, hide ⟨HS'.out.1.add (Nat.le_of_lt HS'.out.2.1), ?_, ?_, ?_⟩, hide fun _ => ⟨by first | trivial | rfl, ?_, hgm1, ?_, ?_⟩⟩
                · rw [ni_app]; exact ho9
                · exact HB8.out.grown hg9 (fun e => by have := hlow.out _ e.symm; omega)
                · exact HM7.out.2.2.1.add (by have := HS'.out.2.1; have := HS'.out.2.2.1; rw [← HS'.out.2.2.1]; simp [List.getD, HS'.out.2.1]) Hzmem.out HSz.out
                · exact Hb8.out.grown hg9 (by omega) (fun j e => by have := hlow.out _ e; omega)
                · exact Nat.le_trans hz8 hg9.size
                · rw [List.length_append]; have := HS'.out.2.1; omega
                · rw [← HS'.out.2.2.1]; simp [List.getD, List.getElem?_append, HS'.out.2.1]
                · exact (HS'.out.2.2.2.add (z := z)).snoc (by rw [← Hmv.out]; exact updT_at _ _ _)
                · exact Nat.lt_of_lt_of_le hgm8 hg9.size
                · rcases hd9 with h | h
                  · rw [h]; exact hgm2
                  · exact fun e => by have := h _ e; omega
                · exact fun j h => by rw [World.cell?_of_block (hg9.block g2m hgm8 (fun e => hgm2 e.symm))]; exact Hc8.out j h
              case measure => simp [intOf]; omega
          · have hqe : q = m2 := by omega
            have hjM : j = M := by have := Hq.out; have := Hm2.out; omega
            have HjM := hide hjM
            have HS' := hide hS'.out
            obtain ⟨g', cc', rfl, _, hg1', hg2', hcell'⟩ := formN hM6.1.own (ni_len ys') (by have := HS'.out.2.1; omega)
            subst hqe
            clear hjM hM6 hcell'
            go_wp2
            go_roundw
            case rel =>
              refine ⟨S', ys', k + 1, by go_num, by have := HS'.out.2.1; omega, hide HS'.out.2.1, hM', hide (HS'.out.1.snoc ?_)⟩
              rw [HS'.out.2.2.1, HNL.out, ← HMM.out, ← HjM.out]
              exact HS'.out.2.2.2
            case measure => simp [intOf]; have := HS'.out.2.1; omega
      · have hkL2 : k = L := by omega
        have hfin := hide (HD.out S ys hM.out.2.2.1 (by have := hS.out; rw [← HL.out, ← hkL2]; exact this))
        have Hb := hide hM.out.2.2.2.1
        have hLR : L = R := by rw [HL.out]; exact hfin.out
        subst hkL2 hLR
        clear hcell
        go_wp2
        go_ret2
        exact ⟨rfl, Hb.out⟩
end Go.Proofs.Ytkbeelbklganaaa
