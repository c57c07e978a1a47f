/- Contract of ClockDeal, the program's: the walk. Conditions: lengths at most 2^20. -/
import Derived.Test.YtkbeelbklganaaaClockI
namespace Go.Proofs.Ytkbeelbklganaaa
open Go.ChangeShapes Go.WideShapes Go.ChangeAt Go.RowKit

theorem round_next {P q r i : Nat} (hi : i = q * P + r) (hr : r < P) : ∃ q' r', i + 1 = q' * P + r' ∧ r' < P ∧ ∀ k, k < P → cnt q (r + 1) k = cnt q' r' k := by
  by_cases h : r + 1 < P
  · exact ⟨q, r + 1, by omega, h, fun k _ => rfl⟩
  · have : r + 1 = P := by omega
    refine ⟨q + 1, 0, by rw [Nat.succ_mul]; omega, by omega, fun k hk => ?_⟩
    rw [this]
    exact cnt_turn hk
theorem round_mod {P q r i : Nat} (hi : i = q * P + r) (hr : r < P) : i % P = r := by
  subst hi
  rw [Nat.add_comm, Nat.add_mul_mod_self_right, Nat.mod_eq_of_lt hr]
theorem round_end {P q r n m : Nat} (hi : n = q * P + r) (hr : r < P) (hn : n = m * P) : r = 0 ∧ q = m := by
  have h1 := round_mod hi hr
  have h2 : n % P = 0 := by rw [hn]; exact Nat.mul_mod_left _ _
  have h3 : r = 0 := by omega
  subst h3
  refine ⟨rfl, ?_⟩
  have h4 : q * P = m * P := by omega
  exact Nat.eq_of_mul_eq_mul_right (by omega) h4

set_option maxRecDepth 100000 in
set_option maxHeartbeats 1600000 in
theorem iClockDeal (v : Value) (xs : List Int) (p : Int) (w : World) (hv : RV w v xs) (hn : xs.length ≤ 1048576) (_wf : (Lit.int .i64 p).wf = true) :
    Calls Try.prog 25 #[v, .int .i64 p] w fun e w' => e = .returned (.tuple #[.int .i64 (RClockDeal xs p).1, .bool (RClockDeal xs p).2.1, .bool (RClockDeal xs p).2.2]) ∧ Below w.heap.size w w' := by
  obtain ⟨A, c, rfl, hr, hc⟩ := hv
  have HD := Lib.hid (iDeck A _ c xs w hr hn)
  cases hd : deckB xs with
  | false =>
    rw [RClock_no (ckOk_deck hd)]
    rw [hd] at HD
    clear hd
    generalize xs.length = n at *
    go_enter Try.func25, Try.ntmps25
    go_wp2_with fail
    refine HD.out.mono ?_
    rintro e w' ⟨rfl, hb⟩
    go_wp2
    go_ret3
    exact ⟨rfl, hb⟩
  | true =>
    rw [hd] at HD
    have HI := Lib.hid (fun W => iIn p 1 13 W)
    cases hp : inB p 1 13 with
    | false =>
      rw [RClock_no (ckOk_in hp)]
      rw [hp] at HI
      clear hd hp
      generalize xs.length = n at *
      go_enter Try.func25, Try.ntmps25
      go_wp2_with fail
      refine HD.out.mono ?_
      rintro e w' ⟨rfl, hb⟩
      go_wp2_with fail
      refine (HI.out _).mono ?_
      rintro e w' ⟨rfl, rfl⟩
      go_wp2
      go_ret3
      exact ⟨rfl, hb⟩
    | true =>
      rw [hp] at HI
      obtain ⟨hp1, hp13⟩ := inB_iff.1 hp
      obtain ⟨P, rfl⟩ : ∃ P : Nat, p = (P : Int) := ⟨p.toNat, by omega⟩
      obtain ⟨n1, n52, hcards⟩ := deckB_facts hd
      have hP1 : 1 ≤ P := by omega
      have hP13 : P ≤ 13 := by omega
      have hP0 : ¬ P = 0 := by omega
      have em : Int.tmod (xs.length : Int) (P : Int) = ((xs.length % P : Nat) : Int) := (Int.ofNat_tmod _ _).symm
      have em2 : (xs.length : Int) % (P : Int) = ((xs.length % P : Nat) : Int) := by simp
      by_cases h0 : xs.length % P = 0
      · have hok : ckOk xs (P : Int) = true := by rw [ckOk, hd, hp, em2, h0]; rfl
        have hR : RClockDeal xs (P : Int) = ((ckN xs P : Int), decide (ckN xs P = xs.length), true) := by rw [RClockDeal, if_pos hok]; rfl
        rw [hR]
        rw [h0] at em em2
        obtain ⟨m, hm⟩ : ∃ m, xs.length = m * P := ⟨xs.length / P, by have := Nat.div_add_mod xs.length P; rw [h0, Nat.mul_comm] at this; omega⟩
        have hCK := CkInv.start hP1 hm
        have hmP : xs.length / P = m := by rw [hm]; exact Nat.mul_div_cancel _ (by omega)
        have hm52 : m ≤ 52 := by rw [← hmP]; exact Nat.le_trans (Nat.div_le_self _ _) n52
        have Hpl := Lib.hid (fun v a (hv : v < m) (ha : a < P) => place_lt hm hv ha)
        have Hcards := Lib.hid hcards
        have HCK := hide hCK
        have HR0 := hide hr
        have Hm := hide hm
        obtain ⟨i0, hi, hz0, hz1, hz2⟩ := info_parts info_sl
        clear hd hp hR hok hmP hm hcards hCK h0 hn hr
        generalize hnn : xs.length = n at *
        have Hnn := hide hnn
        clear hnn
        generalize ckN xs P = N at *
        go_enter Try.func25, Try.ntmps25
        go_wp2_with fail
        refine HD.out.mono ?_
        rintro e w1 ⟨rfl, hb⟩
        go_wp2_with fail
        refine (HI.out _).mono ?_
        rintro e w' ⟨rfl, rfl⟩
        go_wp2_with (at_make; refine wpList_make_full _ rfl _ _ 60 rfl w1.heap.size 22 i0 (.slice none 0 0) 1 Try.underlying60 hi hz0 hz1 _ _ _ _ P rfl rfl rfl rfl ?b2 ?b3 (Nat.le_refl _) ?_)
        case b2 => rw [hz2]; omega
        case b3 => unfold maxLen; omega
        intro w2 hown2 hgrow2
        have hB2 := Bk.of_grown hown2
        have hb2 : Below w1.heap.size w1 w2 := (Below.refl _ _).grown hgrow2 (Nat.le_refl _) (fun k h => by cases h)
        have hbw := hb.trans (hb2.mono hb.size)
        have hz := hb.size
        have HS2 : Hid (SM w2 w1.heap.size (w1.heap.size + 1) P (List.replicate P (.slice none 0 0)) (fun k => ckG xs P k (cnt 0 0 k))) := hide ((SM.start hB2).congr fun k _ => by rw [cnt, if_neg (by omega)]; rfl)
        clear em em2 hown2 hgrow2 hB2 hb2 hi hz0 hz1 hz2
        go_wp2
        go_loopw [34] (fun i wr => ∃ (j q r : Nat) (vs : List Value), i = .int .i64 (j : Int) ∧ j ≤ n ∧ Hid (j = q * P + r) ∧ r < P ∧ Hid (SM wr w1.heap.size (w1.heap.size + 1) P vs (fun k => ckG xs P k (cnt q r k))) ∧ Below w.heap.size w wr) (fun i _ => n - (intOf i).toNat)
        case atStart => exact ⟨0, 0, 0, _, rfl, Nat.zero_le _, hide (by simp), by omega, HS2, hbw⟩
        case round =>
          obtain ⟨j, q, r, vs, rfl, hjn, hjq, hrP, hS, hbk⟩ := hrel
          by_cases hlt : j < n
          · obtain ⟨ad, rfl, _, cj⟩ := (HR0.out.below hbk).int hlt
            have hcg : xs.getD j 0 = xs.getD (q * P + r) 0 := by rw [hjq.out]
            obtain ⟨y, hy⟩ : ∃ y, xs.getD j 0 = y := ⟨_, rfl⟩
            rw [hy] at cj hcg
            have hmod := round_mod hjq.out hrP
            have hem : Int.tmod (j : Int) (P : Int) = (r : Int) := by rw [← Int.ofNat_tmod, hmod]
            have hem2 : (j : Int) % (P : Int) = (r : Int) := by rw [← Int.natCast_emod, hmod]
            have hS' := hS.out
            have hvl : r < vs.length := by rw [hS'.2.1]; exact hrP
            have cr := hS'.1.cell r
            obtain ⟨u, hu⟩ : ∃ u, vs.getD r undef = u := ⟨_, rfl⟩
            rw [show vs[r]? = some u by rw [← hu]; simp [List.getD, hvl]] at cr
            have hor := hS'.2.2.2.2.1 r hrP
            rw [hu] at hor
            have hlen : (ckG xs P r (cnt q r r)).length ≤ 1048576 := by
              rw [ckG_len, cnt, if_neg (by omega)]
              have h1 := hjq.out
              have h2 : q * 1 ≤ q * P := Nat.mul_le_mul_left q hP1
              omega
            have hlo := hS'.2.2.2.1
            have HApp := Lib.hid (fun v4 w4 ho hg hd => hS'.app (w4 := w4) (v4 := v4) (y := y) hrP ho hg hd)
            rw [hu] at HApp
            have HBe := Lib.hid (fun (w4 : World) (hg : wr.grownBy w4 u.ownBlock) => hbk.grown hg (by omega) (fun b e => by have := (hor.lt b e).1; omega))
            have Hy := hide hcg
            clear hS' hvl hu hmod hcg hy
            have Hem := hide hem
            clear hem
            go_wp2_with (at_builtin; refine app1at rfl hor hlen hlo rfl rfl rfl rfl ?_; intro v4 w4 ho4 hg4 hd4; have hf4 := ho4.own.form; generalize (ckG xs P r (cnt q r r) ++ [y]).length = L4 at hf4; obtain ⟨A4, d4, rfl, _⟩ := hf4; obtain ⟨hB4, hS4⟩ := HApp.out _ w4 ho4 hg4 hd4; have f4 := hB4.free r; have c4 : ∃ x4, w4.cell? ⟨w1.heap.size, r, none⟩ = some x4 := ⟨_, (hB4.cell r).trans (List.getElem?_eq_getElem (by have := hS4.2.1; rw [List.length_set] at this; omega))⟩; obtain ⟨x4, c4⟩ := c4)
            go_roundw
            case rel =>
              obtain ⟨q', r', h1, h2, h3⟩ := round_next hjq.out hrP
              refine ⟨j + 1, q', r', _, by go_num, by omega, hide h1, h2, hide (hS4.congr fun k hk => ?_), (HBe.out w4 hg4).setCell (p := ⟨w1.heap.size, r, none⟩) hz _⟩
              rw [← h3 k hk, ← cnt_step, ← Hy.out]
            case measure => simp [intOf]; omega
          · have hjn2 : j = n := by omega
            obtain ⟨hr0, hqm⟩ := round_end hjq.out hrP (by rw [hjn2]; exact Hm.out)
            have HSR : Hid (SR wr w1.heap.size P vs (fun k => ckG xs P k ((List.replicate P m).getD k 0))) := hide (hS.out.sr.congr fun k hk => by
              rw [hr0, hqm, cnt, if_neg (by omega)]
              simp [List.getD, hk])
            clear hS hjq hr0 hqm HS2 hbw
            subst hjn2
            obtain ⟨w3, rfl⟩ : ∃ w3 : World, w3 = wr := ⟨_, rfl⟩
            go_wp2
            go_loopw [11, 12] (fun t a wr => ∃ (l : List Nat) (a' t' : Nat) (vs : List Value), t = .int .i64 (t' : Int) ∧ a = .int .i64 (a' : Int) ∧ a' < P ∧ t' ≤ j ∧ Hid (CkInv xs P m N l a' t') ∧ Hid (SR wr w1.heap.size P vs (fun k => ckG xs P k (l.getD k 0))) ∧ Below w.heap.size w wr) (fun t _ _ => j + 1 - (intOf t).toNat)
            case atStart => exact ⟨_, P - 1, 0, vs, rfl, by go_num, by omega, Nat.zero_le _, HCK, HSR, hbk⟩
            case round =>
              obtain ⟨l, a, t, vs2, rfl, rfl, haP, htn, hI, hS, hbl⟩ := hrel
              obtain ⟨A2, c2, hva, hlc, hra, hne⟩ := hS.out.2.2 a haP
              dsimp only at hva hlc hra
              have hlm := hI.out.1.2 a
              have hvl : a < vs2.length := by rw [hS.out.2.1]; exact haP
              have ca := hS.out.1.cell a
              have fa := hS.out.1.free a
              rw [show vs2[a]? = some (vs2.getD a undef) by simp [List.getD, hvl], hva] at ca
              obtain ⟨y, hy⟩ : ∃ y, l.getD a 0 = y := ⟨_, rfl⟩
              rw [hy] at hlm
              have hcut := fun v hv => hS.out.cut (v := v) haP hv hva
              try dsimp only at hcut
              rw [hy] at ca hlc hra hcut
              have Hy := hide hy
              rw [ckG_len] at ca hlc hra hcut
              have Hcut := Lib.hid hcut
              clear hva hvl hy hcut
              by_cases hy0 : 0 < y
              · obtain ⟨v, rfl⟩ : ∃ v, y = v + 1 := ⟨y - 1, by omega⟩
                have hpl := Hpl.out v a (by omega) haP
                have HI2 := hide (hI.out.go hP1 Hy.out)
                have htn1 : t + 1 ≤ j := by have := HI2.out.2.2.1; rw [Hnn.out] at this; omega
                obtain ⟨ad, rfl, _, cv⟩ := hra.int (k := v) (by omega)
                rw [ckG_get xs P a (by omega)] at cv
                have hcc := Hcards.out _ hpl
                obtain ⟨q, hq⟩ : ∃ q : Nat, xs.getD (v * P + a) 0 = (q : Int) := ⟨(xs.getD (v * P + a) 0).toNat, by omega⟩
                rw [hq, Int.toNat_natCast] at HI2
                rw [hq] at cv hcc
                have hq52 : q ≤ 52 := by omega
                clear hq hpl hcc
                obtain ⟨r', hrr⟩ : ∃ r, q % P = r := ⟨_, rfl⟩
                rw [hrr] at HI2
                have Em : Hid (Int.tmod (q : Int) (P : Int) = (r' : Int)) := hide (by rw [← hrr]; exact (Int.ofNat_tmod _ _).symm)
                have em2 : (q : Int) % (P : Int) = (r' : Int) := by rw [← hrr]; simp
                have hrk : r' < P := by rw [← hrr]; exact Nat.mod_lt _ (by omega)
                have Hc := hide (Hcut.out v (by omega))
                have hb4 := hide (hbl.setCell (p := ⟨w1.heap.size, a, none⟩) hz (.slice (some ad) v c2))
                have g1 : ¬ c2 = 0 := by omega
                have g2 : v ≤ c2 := by omega
                clear hrr hra Hcut hbl
                go_wp2
                go_roundw
                case rel =>
                  refine ⟨_, r', t + 1, _, by go_num, by first | rfl | rw [em2], hrk, by omega, HI2, hide (Hc.out.congr fun k hk => ?_), hb4.out⟩
                  have hl1 := hI.out.1.1
                  try dsimp only
                  rw [getD_setN]
                  by_cases e : k = a
                  · subst e
                    rw [if_pos rfl, if_pos ⟨rfl, by omega⟩, ckG_take xs P k (by omega)]
                  · rw [if_neg e, if_neg (fun h => e h.1.symm)]
                case measure => simp [intOf]; omega
              · obtain rfl : y = 0 := by omega
                have htN := hI.out.stop Hy.out
                subst htN
                go_wp2
                go_ret3
                exact ⟨by rw [show decide (t = j) = ((t : Int) == (j : Int)) by rw [Bool.eq_iff_iff]; simp; omega]; rfl, hbl⟩
      · have hok : ckOk xs (P : Int) = false := by
          rw [ckOk, em2, decide_eq_false (by omega)]
          simp
        rw [RClock_no hok]
        obtain ⟨r, hrr⟩ : ∃ r, xs.length % P = r := ⟨_, rfl⟩
        rw [hrr] at em em2 h0
        clear hrr hok hd hp hcards hr
        generalize xs.length = n at *
        go_enter Try.func25, Try.ntmps25
        go_wp2_with fail
        refine HD.out.mono ?_
        rintro e w' ⟨rfl, hb⟩
        go_wp2_with fail
        refine (HI.out _).mono ?_
        rintro e w' ⟨rfl, rfl⟩
        go_wp2
        go_ret3
        exact ⟨rfl, hb⟩
end Go.Proofs.Ytkbeelbklganaaa
