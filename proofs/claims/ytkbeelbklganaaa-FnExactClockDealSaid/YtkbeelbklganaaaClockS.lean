/- Contract of ClockDeal, the reference's. Conditions: lengths at most 2^20. -/
import Derived.Test.YtkbeelbklganaaaClockO
namespace Go.Proofs.Ytkbeelbklganaaa
open Go.ChangeShapes Go.WideShapes Go.ChangeAt Go.RowKit

def nl (l : List Nat) : List Int := l.map fun (y : Nat) => (y : Int)
theorem nl_len (l : List Nat) : (nl l).length = l.length := by simp [nl]
theorem nl_get (l : List Nat) (k : Nat) : (nl l).getD k 0 = ((l.getD k 0 : Nat) : Int) := by
  by_cases h : k < l.length <;> simp [nl, List.getD, h]
theorem nl_set (l : List Nat) (k v : Nat) : (nl l).set k (v : Int) = nl (l.set k v) := by simp [nl, List.map_set]
theorem nl_rep (p m : Nat) : nl (List.replicate p m) = List.replicate p (m : Int) := by simp [nl]
theorem RClock_no {xs : List Int} {p : Int} (h : ckOk xs p = false) : RClockDeal xs p = (0, false, false) := by rw [RClockDeal, if_neg (by rw [h]; simp)]
theorem ckOk_deck {xs : List Int} {p : Int} (h : deckB xs = false) : ckOk xs p = false := by rw [ckOk, h]; rfl
theorem ckOk_in {xs : List Int} {p : Int} (h : inB p 1 13 = false) : ckOk xs p = false := by rw [ckOk, h]; simp
theorem deckB_facts {xs : List Int} (h : deckB xs = true) : 1 ≤ xs.length ∧ xs.length ≤ 52 ∧ ∀ i, i < xs.length → 0 ≤ xs.getD i 0 ∧ xs.getD i 0 ≤ (xs.length : Int) - 1 := by
  simp only [deckB, Bool.and_eq_true, decide_eq_true_eq] at h
  exact ⟨h.1, h.2.1, fun i hi => ordB_in h.2.2 hi⟩
/-- what the second loop carries -/
def CkInv (xs : List Int) (P m N : Nat) (l : List Nat) (a t : Nat) : Prop := leftOK m P l ∧ a < P ∧ t + l.sum = xs.length ∧ cdR xs P l.sum l a t = N
theorem CkInv.start {xs : List Int} {P m : Nat} (hP : 1 ≤ P) (hn : xs.length = m * P) : CkInv xs P m (ckN xs P) (List.replicate P m) (P - 1) 0 := by
  have hm : xs.length / P = m := by rw [hn]; exact Nat.mul_div_cancel _ (by omega)
  refine ⟨leftOK.start m P, by omega, by rw [sum_rep, hn, Nat.mul_comm]; omega, ?_⟩
  rw [ckN, hm]
theorem CkInv.stop {xs : List Int} {P m N a t : Nat} {l : List Nat} (h : CkInv xs P m N l a t) (h0 : l.getD a 0 = 0) : t = N := by
  rw [← h.2.2.2, cdR_stop h0]
theorem CkInv.go {xs : List Int} {P m N a t v : Nat} {l : List Nat} (h : CkInv xs P m N l a t) (hP : 1 ≤ P) (h0 : l.getD a 0 = v + 1) : CkInv xs P m N (l.set a v) ((xs.getD (v * P + a) 0).toNat % P) (t + 1) := by
  obtain ⟨h1, h2, h3, h4⟩ := h
  obtain ⟨g1, g2⟩ := cdR_go (xs := xs) (p := P) (t := t) (by rw [h1.1]; exact h2) h0
  exact ⟨h1.set h0, Nat.mod_lt _ (by omega), by omega, by rw [← g2, h4]⟩

set_option maxRecDepth 100000 in
set_option maxHeartbeats 1600000 in
theorem sClockDeal (v : Value) (xs : List Int) (p : Int) (w : World) (hv : RV w v xs) (hn : xs.length ≤ 1048576) (_wf : (Lit.int .i64 p).wf = true) :
    Calls Try.prog 24 #[v, .int .i64 p] w fun e w' => e = .returned (.tuple #[.int .i64 (RClockDeal xs p).1, .bool (RClockDeal xs p).2.1, .bool (RClockDeal xs p).2.2]) ∧ Below w.heap.size w w' := by
  obtain ⟨A, c, rfl, hr, hc⟩ := hv
  have HD := Lib.hid (sDeck A _ c xs w hr hn hc)
  cases hd : deckB xs with
  | false =>
    rw [RClock_no (ckOk_deck hd)]
    rw [hd] at HD
    clear hd
    generalize xs.length = n at *
    go_enter Try.func24, Try.ntmps24
    go_wp2_with fail
    refine HD.out.mono ?_
    rintro e w' ⟨rfl, hb⟩
    go_wp2
    go_ret3
    exact ⟨rfl, hb⟩
  | true =>
    rw [hd] at HD
    have HI := Lib.hid (fun W => sIn p 1 13 W)
    cases hp : inB p 1 13 with
    | false =>
      rw [RClock_no (ckOk_in hp)]
      rw [hp] at HI
      clear hd hp
      generalize xs.length = n at *
      go_enter Try.func24, Try.ntmps24
      go_wp2_with fail
      refine HD.out.mono ?_
      rintro e w' ⟨rfl, hb⟩
      go_wp2_with fail
      refine (HI.out _).mono ?_
      rintro e w' ⟨rfl, rfl⟩
      go_wp2
      go_ret3
      exact ⟨rfl, hb⟩
    | true =>
      rw [hp] at HI
      obtain ⟨hp1, hp13⟩ := inB_iff.1 hp
      obtain ⟨P, rfl⟩ : ∃ P : Nat, p = (P : Int) := ⟨p.toNat, by omega⟩
      obtain ⟨n1, n52, hcards⟩ := deckB_facts hd
      have hP1 : 1 ≤ P := by omega
      have hP13 : P ≤ 13 := by omega
      have hP0 : ¬ P = 0 := by omega
      have em : Int.tmod (xs.length : Int) (P : Int) = ((xs.length % P : Nat) : Int) := (Int.ofNat_tmod _ _).symm
      have em2 : (xs.length : Int) % (P : Int) = ((xs.length % P : Nat) : Int) := by simp
      by_cases h0 : xs.length % P = 0
      · have hok : ckOk xs (P : Int) = true := by rw [ckOk, hd, hp, em2, h0]; rfl
        have hR : RClockDeal xs (P : Int) = ((ckN xs P : Int), decide (ckN xs P = xs.length), true) := by rw [RClockDeal, if_pos hok]; rfl
        rw [hR]
        rw [h0] at em em2
        obtain ⟨m, hm⟩ : ∃ m, xs.length = m * P := ⟨xs.length / P, by have := Nat.div_add_mod xs.length P; rw [h0, Nat.mul_comm] at this; omega⟩
        have hCK := CkInv.start hP1 hm
        have hmP : xs.length / P = m := by rw [hm]; exact Nat.mul_div_cancel _ (by omega)
        have ed : Int.tdiv (xs.length : Int) (P : Int) = (m : Int) := by rw [Int.tdiv_eq_ediv_of_nonneg (by omega), ← Int.natCast_ediv, hmP]
        have ed2 : (xs.length : Int) / (P : Int) = (m : Int) := by rw [← Int.natCast_ediv, hmP]
        have hm52 : m ≤ 52 := by rw [← hmP]; exact Nat.le_trans (Nat.div_le_self _ _) n52
        have ew : wrap64 (m : Int) = (m : Int) := IntWalk.wrap64_in _ ⟨by omega, by omega⟩
        have Hpl := Lib.hid (fun v a (hv : v < m) (ha : a < P) => place_lt hm hv ha)
        have Hcards := Lib.hid hcards
        have HCK := hide hCK
        have HR0 := hide hr
        clear hd hp hR hok hmP hm hcards hCK h0 hn hr
        generalize hnn : xs.length = n at *
        have Hnn := hide hnn
        clear hnn
        generalize ckN xs P = N at *
        go_enter Try.func24, Try.ntmps24
        go_wp2_with fail
        refine HD.out.mono ?_
        rintro e w1 ⟨rfl, hb⟩
        go_wp2_with fail
        refine (HI.out _).mono ?_
        rintro e w' ⟨rfl, rfl⟩
        go_wp2_with (at_make; refine mk1 (n := P) (by omega) rfl rfl rfl rfl ?_; intro w2 hB hb2 hs2)
        have hbw := hb.trans (hb2.mono hb.size)
        have hz := hb.size
        clear em em2
        go_loopw [9] (fun i wr => ∃ k : Nat, k ≤ P ∧ i = .int .i64 k ∧ Bk wr w1.heap.size 2 (iv (List.replicate k (m : Int) ++ List.replicate (P - k) 0)) ∧ Below w.heap.size w wr) (fun i _ => P - (intOf i).toNat)
        case atStart => exact ⟨0, Nat.zero_le _, rfl, by simpa using hB, hbw⟩
        case round =>
          obtain ⟨k, hk, rfl, hBk, hbk⟩ := hrel
          by_cases hlt : k < P
          · obtain ⟨x, hcx⟩ : ∃ x, wr.cell? ⟨w1.heap.size, k, none⟩ = some (.int .i64 x) := ⟨_, hBk.int (by simp; omega)⟩
            have hfx := hBk.free k
            have hB3 := hBk.seti k (m : Int)
            have e3 : (List.replicate k (m : Int) ++ List.replicate (P - k) 0).set k (m : Int) = List.replicate (k + 1) (m : Int) ++ List.replicate (P - (k + 1)) 0 := by
              rw [List.set_append, if_neg (by simp), List.length_replicate, Nat.sub_self, show P - k = (P - (k + 1)) + 1 by omega, List.replicate_succ, List.set_cons_zero, List.replicate_succ']
              simp
            rw [e3] at hB3
            have HB3 := hide hB3
            have Hb3 := hide (hbk.setCell (p := ⟨w1.heap.size, k, none⟩) (by show w.heap.size ≤ w1.heap.size; omega) (.int .i64 (m : Int)))
            clear hB3 hBk hbk hB hbw hb2 e3
            go_wp2
            go_roundw
            case rel => exact ⟨k + 1, by omega, by go_num, HB3.out, Hb3.out⟩
            case measure => simp [intOf]; omega
          · have hkP : k = P := by omega
            subst hkP
            rw [Nat.sub_self, List.replicate_zero, List.append_nil, ← nl_rep] at hBk
            clear hB hbw hb2
            obtain ⟨w3, rfl⟩ : ∃ w3 : World, w3 = wr := ⟨_, rfl⟩
            have HB3 := hide hBk
            clear hBk
            go_wp2
            go_loopw [10, 11] (fun t a wr => ∃ (l : List Nat) (a' t' : Nat), t = .int .i64 (t' : Int) ∧ a = .int .i64 (a' : Int) ∧ a' < k ∧ t' ≤ n ∧ Hid (CkInv xs k m N l a' t') ∧ Bk wr w1.heap.size 2 (iv (nl l)) ∧ Below w.heap.size w wr) (fun t _ _ => n + 1 - (intOf t).toNat)
            case atStart => exact ⟨_, k - 1, 0, rfl, by go_num, by omega, Nat.zero_le _, HCK, HB3.out, hbk⟩
            case round =>
              obtain ⟨l, a, t, rfl, rfl, haP, htn, hI, hBl, hbl⟩ := hrel
              have hll : l.length = k := hI.out.1.1
              have hca := hBl.int (k := a) (by rw [nl_len]; omega)
              rw [nl_get] at hca
              have hsum := hI.out.2.2.1
              rw [Hnn.out] at hsum
              have hlm := hI.out.1.2 a
              obtain ⟨y, hy⟩ : ∃ y, l.getD a 0 = y := ⟨_, rfl⟩
              rw [hy] at hca hlm
              have Hy := hide hy
              clear hy hll
              by_cases hy0 : 0 < y
              · obtain ⟨v, rfl⟩ : ∃ v, y = v + 1 := ⟨y - 1, by omega⟩
                have hpl := Hpl.out v a (by omega) haP
                have HI2 := hide (hI.out.go (by omega) Hy.out)
                have htn1 : t + 1 ≤ n := by have := HI2.out.2.2.1; rw [Hnn.out] at this; omega
                obtain ⟨u, hu⟩ : ∃ u, v * k = u := ⟨_, rfl⟩
                rw [hu] at hpl HI2
                have E1 : Hid (wrap64 ((v : Int) * (k : Int)) = (u : Int)) := hide (by
                  rw [show (v : Int) * (k : Int) = (u : Int) by rw [← hu]; simp]
                  clear hu HI2
                  exact IntWalk.wrap64_in _ ⟨by omega, by omega⟩)
                clear hu
                obtain ⟨s, hs⟩ : ∃ s, u + a = s := ⟨_, rfl⟩
                have E2 : Hid (wrap64 ((u : Int) + (a : Int)) = (s : Int)) := hide (by
                  rw [show (u : Int) + (a : Int) = (s : Int) by omega]
                  exact IntWalk.wrap64_in _ ⟨by omega, by omega⟩)
                rw [hs] at hpl HI2
                have hs0 : (0 : Int) ≤ (s : Int) := by omega
                have hs1 : (s : Int) < (n : Int) := by omega
                clear hs
                obtain ⟨ad, rfl, _, hcu⟩ := (HR0.out.below hbl).int hpl
                have hcc := Hcards.out s hpl
                obtain ⟨q, hq⟩ : ∃ q : Nat, xs.getD s 0 = (q : Int) := ⟨(xs.getD s 0).toNat, by omega⟩
                rw [hq, Int.toNat_natCast] at HI2
                rw [hq] at hcu hcc
                have Hq := hide hq
                clear hq
                have hq52 : q ≤ 52 := by omega
                obtain ⟨r, hrr⟩ : ∃ r, q % k = r := ⟨_, rfl⟩
                rw [hrr] at HI2
                have em : Int.tmod (q : Int) (k : Int) = (r : Int) := by rw [← hrr]; exact (Int.ofNat_tmod _ _).symm
                have em2 : (q : Int) % (k : Int) = (r : Int) := by rw [← hrr]; simp
                have hrk : r < k := by rw [← hrr]; exact Nat.mod_lt _ (by omega)
                have Em := hide em
                have Em2 := hide em2
                clear hrr em em2
                have hl1 : a < l.length := by have := hI.out.1.1; omega
                have hfa := hBl.free a
                have hB4 := hBl.seti a (v : Int)
                rw [nl_set] at hB4
                have hc4 := hB4.int (k := a) (by rw [nl_len, List.length_set]; exact hl1)
                rw [nl_get, getD_setN, if_pos ⟨rfl, hl1⟩] at hc4
                have hb4 := hbl.setCell (p := ⟨w1.heap.size, a, none⟩) hz (.int .i64 (v : Int))
                obtain ⟨_, e5, _, hc5⟩ := (HR0.out.below hb4).int hpl
                injection e5 with e5
                subst e5
                rw [Hq.out] at hc5
                have HB4 := hide hB4
                have Hb4 := hide hb4
                have e1 := E1.out
                have e2 := E2.out
                have em := Em.out
                have em2 := Em2.out
                clear hB4 hb4 hl1 hBl hbl hcu hsum
                go_wp2
                go_roundw
                case rel => exact ⟨_, r, t + 1, by go_num, rfl, hrk, by omega, HI2, HB4.out, Hb4.out⟩
                case measure => simp [intOf]; omega
              · obtain rfl : y = 0 := by omega
                have htN := hI.out.stop Hy.out
                subst htN
                go_wp2
                go_ret3
                exact ⟨by rw [show decide (t = n) = ((t : Int) == (n : Int)) by rw [Bool.eq_iff_iff]; simp; omega]; rfl, hbl⟩
      · have hok : ckOk xs (P : Int) = false := by
          rw [ckOk, em2, decide_eq_false (by omega)]
          simp
        rw [RClock_no hok]
        obtain ⟨r, hrr⟩ : ∃ r, xs.length % P = r := ⟨_, rfl⟩
        rw [hrr] at em em2 h0
        clear hrr hok hd hp hcards hr
        generalize xs.length = n at *
        go_enter Try.func24, Try.ntmps24
        go_wp2_with fail
        refine HD.out.mono ?_
        rintro e w' ⟨rfl, hb⟩
        go_wp2_with fail
        refine (HI.out _).mono ?_
        rintro e w' ⟨rfl, rfl⟩
        go_wp2
        go_ret3
        exact ⟨rfl, hb⟩
end Go.Proofs.Ytkbeelbklganaaa
