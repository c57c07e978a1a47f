/- Contracts of WaitsShared, both sides. Conditions: rows of at most 2^20. Printed by gen_shared.py. -/
import Derived.Test.YtpfaefflbjpllaaSS
import Derived.Test.YtpfaefflbjpllaaWait
namespace Go.Proofs.Ytpfaefflbjpllaa
open Go.ChangeShapes Go.WideShapes Go.ChangeAt Go.RowKit

def wsTo (xss : List (List Int)) (s : Int) (k : Nat) : List Int := (List.range k).map fun j => (RWordWait (xss.getD j []) s).1
theorem wsTo_succ (xss : List (List Int)) (s : Int) (k : Nat) : wsTo xss s (k + 1) = wsTo xss s k ++ [(RWordWait (xss.getD k []) s).1] := by simp [wsTo, List.range_succ]
theorem wsTo_len (xss : List (List Int)) (s : Int) (k : Nat) : (wsTo xss s k).length = k := by simp [wsTo]
def wsOk (xss : List (List Int)) (s m : Int) : Bool := (decide (1 ≤ xss.length ∧ xss.length ≤ 16) && inB m 1 8) && (List.range xss.length).all fun j => wordB (xss.getD j []) s
def RWaitsShared (xss : List (List Int)) (s m : Int) : List Int × Bool := if wsOk xss s m = true then (wsTo xss s xss.length, true) else ([], false)
theorem RWaitsShared_len0 (xss : List (List Int)) (s m : Int) : (RWaitsShared xss s m).1.length ≤ 1048576 := by
  unfold RWaitsShared
  split
  · rename_i h
    simp only [wsOk, Bool.and_eq_true, decide_eq_true_eq] at h
    simp only [wsTo_len]; omega
  · simp
theorem ws_no {xss : List (List Int)} {s m : Int} (h : wsOk xss s m = false) : RWaitsShared xss s m = ([], false) := by rw [RWaitsShared, if_neg (by rw [h]; simp)]
theorem ws_n {xss : List (List Int)} {s m : Int} (h : ¬ (1 ≤ xss.length ∧ xss.length ≤ 16)) : wsOk xss s m = false := by simp [wsOk, decide_eq_false h]
theorem ws_m {xss : List (List Int)} {s m : Int} (h : inB m 1 8 = false) : wsOk xss s m = false := by simp [wsOk, h]
theorem ws_w {xss : List (List Int)} {s m : Int} {k : Nat} (hk : k < xss.length) (h : wordB (xss.getD k []) s = false) : wsOk xss s m = false := by
  have : ((List.range xss.length).all fun j => wordB (xss.getD j []) s) = false := by
    rw [List.all_eq_false]
    exact ⟨k, by simpa using hk, by rw [h]; simp⟩
  rw [wsOk, this, Bool.and_false]
theorem ws_ok {xss : List (List Int)} {s m : Int} (h1 : 1 ≤ xss.length ∧ xss.length ≤ 16) (h2 : inB m 1 8 = true) (h : ∀ k, k < xss.length → wordB (xss.getD k []) s = true) : wsOk xss s m = true := by
  have : ((List.range xss.length).all fun j => wordB (xss.getD j []) s) = true := by
    rw [List.all_eq_true]
    intro x hx
    exact h x (by simpa using hx)
  rw [wsOk, this, decide_eq_true h1, h2]; rfl
set_option maxHeartbeats 400000 in
theorem iWorkers (m : Int) (w : World) : Calls Try.prog 58 #[.int .i64 m] w fun e w' => e = .returned (.bool (inB m 1 8)) ∧ w = w' := by
  go_enter Try.func58, Try.ntmps58
  go_wp2_with (go_at_call 40; refine (iIn _ _ _ _).mono ?_; rintro e w' ⟨rfl, rfl⟩)
  go_ret
  exact ⟨rfl, rfl⟩

set_option maxRecDepth 100000 in
set_option maxHeartbeats 1600000 in
theorem sWaitsShared (v : Value) (xss : List (List Int)) (s m : Int) (w : World) (hv : RVR w v xss) (hn : tot xss ≤ 1048576) (_w1 : (Lit.int .i64 s).wf = true) (_w2 : (Lit.int .i64 m).wf = true) :
    Calls Try.prog 28 #[v, .int .i64 s, .int .i64 m] w fun e w' => ∃ r, e = .returned (.tuple #[r, .bool (RWaitsShared xss s m).2]) ∧ Own w' w.heap.size w'.heap.size r (RWaitsShared xss s m).1 ∧ Below w.heap.size w w' := by
  obtain ⟨A, c, rfl, hr, hc⟩ := hv
  have hl := hr.len
  have HM := Lib.hid (sIn m 1 8 w)
  by_cases h1 : 1 ≤ xss.length
  rotate_left
  · rw [ws_no (ws_n (fun h => h1 h.1))]
    generalize xss.length = n at *
    obtain rfl : n = 0 := by omega
    go_enter Try.func28, Try.ntmps28
    go_wp2
    go_ret2
    exact ⟨_, rfl, Own.nil _ _ _, Below.refl _ _⟩
  by_cases h16 : xss.length ≤ 16
  rotate_left
  · rw [ws_no (ws_n (fun h => h16 h.2))]
    generalize xss.length = n at *
    have d1 : decide ((n : Int) < 1) = false := decide_eq_false (by omega)
    have d16 : decide (16 < (n : Int)) = true := decide_eq_true (by omega)
    go_enter Try.func28, Try.ntmps28
    go_wp2
    go_ret2
    exact ⟨_, rfl, Own.nil _ _ _, Below.refl _ _⟩
  cases hm : inB m 1 8 with
  | false =>
    rw [ws_no (ws_m hm)]
    rw [hm] at HM
    generalize xss.length = n at *
    have d1 : decide ((n : Int) < 1) = false := decide_eq_false (by omega)
    have d16 : decide (16 < (n : Int)) = false := decide_eq_false (by omega)
    go_enter Try.func28, Try.ntmps28
    go_wp2_with (go_at_call 51; refine HM.out.mono ?_; rintro e w' ⟨rfl, rfl⟩)
    go_ret2
    exact ⟨_, rfl, Own.nil _ _ _, Below.refl _ _⟩
  | true =>
    rw [hm] at HM
    have Hbad : Hid (∀ k, k < xss.length → wordB (xss.getD k []) s = false → RWaitsShared xss s m = ([], false)) := hide fun k hk h => ws_no (ws_w hk h)
    have Hok : Hid ((∀ k, k < xss.length → wordB (xss.getD k []) s = true) → RWaitsShared xss s m = (wsTo xss s xss.length, true)) := hide fun h => by rw [RWaitsShared, if_pos (ws_ok ⟨h1, h16⟩ hm h)]
    have Hrow : Hid (∀ k, k < xss.length → (xss.getD k []).length ≤ 1048576) := hide fun k hk => Nat.le_trans (tot_row hk) hn
    generalize RWaitsShared xss s m = R at *
    clear hl hn hm
    obtain ⟨n, HL⟩ : ∃ n, Hid (xss.length = n) := ⟨_, hide rfl⟩
    rw [HL.out] at hr hc h1 h16 Hbad Hok Hrow ⊢
    have d1 : decide ((n : Int) < 1) = false := decide_eq_false (by omega)
    have d16 : decide (16 < (n : Int)) = false := decide_eq_false (by omega)
    go_enter Try.func28, Try.ntmps28
    go_wp2_with (go_at_call 51; refine HM.out.mono ?_; rintro e w' ⟨rfl, rfl⟩)
    go_loopw [8, 9] (fun r0 i wr => ∃ (k : Nat) (r : Value), k ≤ n ∧ r = r0 ∧ i = .int .i64 k ∧ Hid (∀ j, j < k → wordB (xss.getD j []) s = true) ∧ OwnL wr w.heap.size r (wsTo xss s k) ∧ Below w.heap.size w wr) (fun _ i _ => n - (intOf i).toNat)
    case atStart => exact ⟨0, _, Nat.zero_le _, rfl, rfl, hide fun j hj => absurd hj (by omega), OwnL.empty _ _ rfl (Nat.le_refl _), (Below.refl _ _).alloc (Nat.le_refl _) _⟩
    case round =>
      obtain ⟨k, r, hk, rfl, rfl, hfa, ho, hb⟩ := hrel
      by_cases hlt : k < n
      · obtain ⟨ad, B, d, rfl, hbl, hcell, hrr, hd⟩ := (hr.below hb).at hlt
        have hrow := Hrow.out k hlt
        have Hs := hide (wsTo_succ xss s k)
        have hll := wsTo_len xss s k
        have hsz := hb.size
        have f1 : (0 : Int) ≤ (k : Int) := by omega
        have f2 : (k : Int) < (n : Int) := by omega
        have dk : decide (k < n) = true := decide_eq_true hlt
        cases hw : wordB (xss.getD k []) s with
        | false =>
          have HR := hide (Hbad.out k hlt hw)
          have HW := Lib.hid (sWordV _ _ s wr (RV.mk hrr hd) hrow)
          rw [hw] at HW
          generalize (xss.getD k []).length = len at *
          go_wp2_with (go_at_call 39; refine HW.out.mono ?_; rintro e w' ⟨rfl, rfl⟩)
          go_ret2
          exact ⟨.slice none 0 0, by rw [HR.out]; rfl, by rw [HR.out]; exact Own.nil _ _ _, hb⟩
        | true =>
          have hfa' : Hid (∀ j, j < k + 1 → wordB (xss.getD j []) s = true) := hide fun j hj => by
            by_cases e : j = k
            · subst e; exact hw
            · exact hfa.out j (by omega)
          obtain ⟨⟨hs2, hs6⟩, hl1, hl12⟩ := wordB_facts hw
          have HW := Lib.hid (sWordV _ _ s wr (RV.mk hrr hd) hrow)
          rw [hw] at HW
          obtain ⟨s, rfl⟩ := Int.eq_ofNat_of_zero_le (show 0 ≤ s by omega)
          have HA := Lib.hid (fun W h => sWait (.slice B (xss.getD k []).length d) (xss.getD k []) s W h hl12 (by omega) (by omega))
          have HRV := hide (show RV wr (.slice B (xss.getD k []).length d) (xss.getD k []) from RV.mk hrr hd)
          rw [show (RWordWait (xss.getD k []) (s : Int)).1 = ((psum s 0 (ov (xss.getD k []) (xss.getD k []) (xss.getD k []).length) : Nat) : Int) from by rw [RWordWait, if_pos hw]; rfl] at Hs
          generalize ((psum s 0 (ov (xss.getD k []) (xss.getD k []) (xss.getD k []).length) : Nat) : Int) = y at *
          have Hl2 : Hid ((wsTo xss (s : Int) k).length ≤ 1048576) := hide (by omega)
          have Hlt := hide ho.lt
          generalize wsTo xss (s : Int) k = T at *
          clear hll hrr hl1 hl12 hw
          generalize (xss.getD k []).length = len at *
          go_wp2_with (go_at_call 39; refine HW.out.mono ?_; rintro e w' ⟨rfl, rfl⟩)
          go_wp2_with (first | (go_at_call 45; refine (HA.out _ HRV.out).mono ?_; rintro e w2 ⟨rfl, hb2⟩; have ho2 := (ho.own.below hb2).l; have hb3 := hb.trans (hb2.mono hb.size); have hsz3 := hb3.size; have Hlt := hide ho2.lt) | (at_builtin; refine app1 ho2 Hl2.out hsz3 rfl rfl rfl rfl ?_; intro v' w4 ho4 hg4))
          go_roundw
          case measure => simp [intOf]; omega
          case rel => exact ⟨k + 1, v', by omega, rfl, by go_num, hfa', by rw [Hs.out]; exact ho4, hb3.grown hg4 hsz3 (fun g hg => (Hlt.out g hg).1)⟩
      · have hkn : k = n := by omega
        subst hkn
        have HR := hide (Hok.out hfa.out)
        have dk : decide (k < k) = false := decide_eq_false (by omega)
        go_wp2
        go_ret2
        exact ⟨r, by rw [HR.out]; rfl, by rw [HR.out]; exact ho.own, hb⟩

set_option maxRecDepth 100000 in
set_option maxHeartbeats 1600000 in
theorem iWaitsShared (v : Value) (xss : List (List Int)) (s m : Int) (w : World) (hv : RVR w v xss) (hn : tot xss ≤ 1048576) (_w1 : (Lit.int .i64 s).wf = true) (_w2 : (Lit.int .i64 m).wf = true) :
    Calls Try.prog 30 #[v, .int .i64 s, .int .i64 m] w fun e w' => ∃ r, e = .returned (.tuple #[r, .bool (RWaitsShared xss s m).2]) ∧ Own w' w.heap.size w'.heap.size r (RWaitsShared xss s m).1 ∧ Below w.heap.size w w' := by
  obtain ⟨A, c, rfl, hr, hc⟩ := hv
  have hl := hr.len
  have HM := Lib.hid (iWorkers m  w)
  by_cases h1 : 1 ≤ xss.length
  rotate_left
  · rw [ws_no (ws_n (fun h => h1 h.1))]
    generalize xss.length = n at *
    obtain rfl : n = 0 := by omega
    go_enter Try.func30, Try.ntmps30
    go_wp2
    go_ret2
    exact ⟨_, rfl, Own.nil _ _ _, Below.refl _ _⟩
  by_cases h16 : xss.length ≤ 16
  rotate_left
  · rw [ws_no (ws_n (fun h => h16 h.2))]
    generalize xss.length = n at *
    have d1 : decide ((n : Int) < 1) = false := decide_eq_false (by omega)
    have d16 : decide (16 < (n : Int)) = true := decide_eq_true (by omega)
    go_enter Try.func30, Try.ntmps30
    go_wp2
    go_ret2
    exact ⟨_, rfl, Own.nil _ _ _, Below.refl _ _⟩
  cases hm : inB m 1 8 with
  | false =>
    rw [ws_no (ws_m hm)]
    rw [hm] at HM
    generalize xss.length = n at *
    have d1 : decide ((n : Int) < 1) = false := decide_eq_false (by omega)
    have d16 : decide (16 < (n : Int)) = false := decide_eq_false (by omega)
    go_enter Try.func30, Try.ntmps30
    go_wp2_with (go_at_call 58; refine HM.out.mono ?_; rintro e w' ⟨rfl, rfl⟩)
    go_ret2
    exact ⟨_, rfl, Own.nil _ _ _, Below.refl _ _⟩
  | true =>
    rw [hm] at HM
    have Hbad : Hid (∀ k, k < xss.length → wordB (xss.getD k []) s = false → RWaitsShared xss s m = ([], false)) := hide fun k hk h => ws_no (ws_w hk h)
    have Hok : Hid ((∀ k, k < xss.length → wordB (xss.getD k []) s = true) → RWaitsShared xss s m = (wsTo xss s xss.length, true)) := hide fun h => by rw [RWaitsShared, if_pos (ws_ok ⟨h1, h16⟩ hm h)]
    have Hrow : Hid (∀ k, k < xss.length → (xss.getD k []).length ≤ 1048576) := hide fun k hk => Nat.le_trans (tot_row hk) hn
    generalize RWaitsShared xss s m = R at *
    clear hl hn hm
    obtain ⟨n, HL⟩ : ∃ n, Hid (xss.length = n) := ⟨_, hide rfl⟩
    rw [HL.out] at hr hc h1 h16 Hbad Hok Hrow ⊢
    have d1 : decide ((n : Int) < 1) = false := decide_eq_false (by omega)
    have d16 : decide (16 < (n : Int)) = false := decide_eq_false (by omega)
    go_enter Try.func30, Try.ntmps30
    go_wp2_with (go_at_call 58; refine HM.out.mono ?_; rintro e w' ⟨rfl, rfl⟩)
    go_loopw [8, 10, 11, 12, 29] (fun r0 _ _ _ i wr => ∃ (k : Nat) (r : Value), k ≤ n ∧ r = r0 ∧ i = .int .i64 k ∧ Hid (∀ j, j < k → wordB (xss.getD j []) s = true) ∧ OwnL wr w.heap.size r (wsTo xss s k) ∧ Below w.heap.size w wr) (fun _ _ _ _ i _ => n - (intOf i).toNat)
    case atStart => exact ⟨0, _, Nat.zero_le _, rfl, rfl, hide fun j hj => absurd hj (by omega), OwnL.empty _ _ rfl (Nat.le_refl _), (Below.refl _ _).alloc (Nat.le_refl _) _⟩
    case round =>
      obtain ⟨k, r, hk, rfl, rfl, hfa, ho, hb⟩ := hrel
      by_cases hlt : k < n
      · obtain ⟨ad, B, d, rfl, hbl, hcell, hrr, hd⟩ := (hr.below hb).at hlt
        have hrow := Hrow.out k hlt
        have Hs := hide (wsTo_succ xss s k)
        have hll := wsTo_len xss s k
        have hsz := hb.size
        have f1 : (0 : Int) ≤ (k : Int) := by omega
        have f2 : (k : Int) < (n : Int) := by omega
        have dk : decide (k < n) = true := decide_eq_true hlt
        cases hw : wordB (xss.getD k []) s with
        | false =>
          have HR := hide (Hbad.out k hlt hw)
          have HW := Lib.hid (iWordWait _ _ s wr (RV.mk hrr hd) hrow _w1)
          rw [show RWordWait (xss.getD k []) s = (0, false) from by rw [RWordWait, if_neg (by rw [hw]; simp)]] at HW
          generalize (xss.getD k []).length = len at *
          go_wp2_with (go_at_call 20; refine HW.out.mono ?_; rintro e w2 ⟨rfl, hb2⟩)
          go_ret2
          exact ⟨.slice none 0 0, by rw [HR.out]; rfl, by rw [HR.out]; exact Own.nil _ _ _, hb.trans (hb2.mono hb.size)⟩
        | true =>
          have hfa' : Hid (∀ j, j < k + 1 → wordB (xss.getD j []) s = true) := hide fun j hj => by
            by_cases e : j = k
            · subst e; exact hw
            · exact hfa.out j (by omega)
          have HW := Lib.hid (iWordWait _ _ s wr (RV.mk hrr hd) hrow _w1)
          rw [show (RWordWait (xss.getD k []) s).2 = true from by rw [RWordWait, if_pos hw]] at HW
          have Hl2 : Hid ((wsTo xss s k).length ≤ 1048576) := hide (by omega)
          generalize (RWordWait (xss.getD k []) s).1 = y at *
          generalize wsTo xss s k = T at *
          clear hll hrr hw
          generalize (xss.getD k []).length = len at *
          go_wp2_with (first | (go_at_call 20; refine HW.out.mono ?_; rintro e w2 ⟨rfl, hb2⟩; have ho2 := (ho.own.below hb2).l; have hb3 := hb.trans (hb2.mono hb.size); have hsz3 := hb3.size; have Hlt := hide ho2.lt) | (at_builtin; refine app1 ho2 Hl2.out hsz3 rfl rfl rfl rfl ?_; intro v' w4 ho4 hg4))
          go_roundw
          case measure => simp [intOf]; omega
          case rel => exact ⟨k + 1, v', by omega, rfl, by go_num, hfa', by rw [Hs.out]; exact ho4, hb3.grown hg4 hsz3 (fun g hg => (Hlt.out g hg).1)⟩
      · have hkn : k = n := by omega
        subst hkn
        have HR := hide (Hok.out hfa.out)
        have dk : decide (k < k) = false := decide_eq_false (by omega)
        go_wp2
        go_ret2
        exact ⟨r, by rw [HR.out]; rfl, by rw [HR.out]; exact ho.own, hb⟩
end Go.Proofs.Ytpfaefflbjpllaa
