/- Contracts of the borders of words and of overlaps on both sides. Conditions: lengths at most 2^20. -/
import Derived.Test.YtpfaefflbjpllaaEq
import Derived.Deep.DeepFit
import Derived.Test.YtpfaefflbjpllaaWord
import Derived.Test.YtpfaefflbjpllaaVal
namespace Go.Proofs.Ytpfaefflbjpllaa
open Go.ChangeShapes Go.WideShapes Go.ChangeAt Go.RowKit

/-- does b begin with the last k of a -/
def endsB (xs ys : List Int) (k : Nat) : Bool := decide (k ≤ xs.length) && (decide (k ≤ ys.length) && eqL (xs.drop (xs.length - k)) (ys.take k))

set_option maxHeartbeats 800000 in
theorem sEnds (A B : Option Addr) (n m c d k : Nat) (xs ys : List Int) (w : World) (hr : Rd w A n (iv xs)) (hr2 : Rd w B m (iv ys)) (hn : n ≤ 1048576) (hm : m ≤ 1048576) (hc : n ≤ c) (hd : m ≤ d) (hk : k ≤ 1048576) :
    Calls Try.prog 52 #[.slice A n c, .slice B m d, .int .i64 k] w fun e w' => e = .returned (.bool (endsB xs ys k)) ∧ ∃ q, w' = w.drewN q := by
  have hl1 := hr.len
  have hl2 := hr2.len
  by_cases h1 : k ≤ n
  · by_cases h2 : k ≤ m
    · have e : endsB xs ys k = eqL (xs.drop (n - k)) (ys.take k) := by simp [endsB, hl1, hl2, h1, h2]
      rw [e]
      have hD1 : decide (k ≤ n) = true := by simpa using h1
      have hD2 : decide (k ≤ m) = true := by simpa using h2
      have hcut := hr.from (k := n - k) (cap := c) (by omega) hc
      have htk := hr2.upto (k := k) h2
      clear e hl1 hl2
      generalize xs.drop (n - k) = us at *
      generalize ys.take k = vs at *
      go_enter Try.func52, Try.ntmps52
      go_wp2
      go_quiet ((go_at_call 55; exact Calls.quiet_of (sSame _ _ _ _ _ _ us vs _ (hcut.drewN _) (htk.drewN _) (by omega) (by omega))))
      go_wp2
      all_goals go_ret
      all_goals exact ⟨rfl, _, rfl⟩
    · have hD1 : decide (k ≤ n) = true := by simpa using h1
      have hD2 : decide (k ≤ m) = false := by simpa using h2
      rw [show endsB xs ys k = false from by simp [endsB, hl2, h2]]
      clear hl1 hl2 h2
      go_enter Try.func52, Try.ntmps52
      go_wp2
      go_quiet (fail)
      go_wp2
      go_ret
      exact ⟨rfl, _, rfl⟩
  · have hD1 : decide (k ≤ n) = false := by simpa using h1
    rw [show endsB xs ys k = false from by simp [endsB, hl1, h1]]
    clear hl1 hl2 h1
    go_enter Try.func52, Try.ntmps52
    go_wp2
    go_quiet (fail)
    go_wp2
    go_ret
    exact ⟨rfl, _, rfl⟩

/-- the lengths 1 .. k with which bs begins as es ends -/
def ov (es bs : List Int) (k : Nat) : List Int := ((List.range k).filter (fun j => endsB es bs (j + 1))).map fun j => ((j + 1 : Nat) : Int)
theorem ov_zero (es bs : List Int) : ov es bs 0 = [] := rfl
theorem ov_yes {es bs : List Int} {k : Nat} (h : endsB es bs (k + 1) = true) : ov es bs (k + 1) = ov es bs k ++ [((k + 1 : Nat) : Int)] := by
  simp [ov, List.range_succ, List.filter_append, h]
theorem ov_no {es bs : List Int} {k : Nat} (h : endsB es bs (k + 1) = false) : ov es bs (k + 1) = ov es bs k := by
  simp [ov, List.range_succ, List.filter_append, h]
theorem ov_len (es bs : List Int) (k : Nat) : (ov es bs k).length ≤ k := by
  unfold ov
  rw [List.length_map]
  exact Nat.le_trans (List.length_filter_le _ _) (by simp)

set_option maxHeartbeats 800000 in
theorem sBorders (v : Value) (xs : List Int) (w : World) (hv : RV w v xs) (hn : xs.length ≤ 1048576) :
    Calls Try.prog 43 #[v] w fun e w' => ∃ r, e = .returned r ∧ Own w' w.heap.size w'.heap.size r (ov xs xs xs.length) ∧ Below w.heap.size w w' := by
  obtain ⟨A, c, rfl, hr, hc⟩ := hv
  generalize hN : xs.length = n at *
  have Hlen := hide hN
  clear hN
  go_enter Try.func43, Try.ntmps43
  go_wp2
  go_loopw [3, 4] (fun r i wr => ∃ k : Nat, k ≤ n ∧ i = .int .i64 ((k : Int) + 1) ∧ OwnL wr w.heap.size r (ov xs xs k) ∧ Below w.heap.size w wr) (fun _ i _ => n + 1 - (intOf i).toNat)
  case atStart => exact ⟨0, Nat.zero_le _, rfl, OwnL.empty _ _ rfl (Nat.le_refl _), (Below.refl _ _).alloc (Nat.le_refl _) _⟩
  case round =>
    obtain ⟨k, hk, rfl, ho, hb⟩ := hrel
    by_cases hlt : k < n
    · have hrr := hr.below hb
      have hov := ov_len xs xs k
      have ek : ((k : Int) + 1) = ((k + 1 : Nat) : Int) := by omega
      have Ek := hide ek
      clear ek
      have hz := hb.size
      cases hq : endsB xs xs (k + 1) with
      | true =>
        have hs := sEnds A A n n c c (k + 1) xs xs wr hrr hrr hn hn hc hc (by omega)
        rw [hq] at hs
        have Hs := Lib.hid hs
        have Hy := hide (ov_yes hq)
        clear hs hq
        go_wp2_with fail
        rw [Ek.out]
        refine Hs.out.mono ?_
        rintro e w2 ⟨rfl, hq2⟩
        have hb2 := below_of_drew hq2
        have ho2 := ho.below hb2
        have hz2 := hb2.size
        have HB := hide (hb.trans (hb2.mono hz))
        clear hq2 ho hb hb2 hrr
        go_wp2_with (at_builtin; refine app1 ho2 (by omega) (by omega) rfl rfl rfl rfl ?_; intro v' w3 ho3 hg3)
        go_roundw
        case rel =>
          refine ⟨k + 1, by omega, by go_num, ?_, ?_⟩
          · rw [Hy.out]
            simpa using ho3
          · exact HB.out.grown hg3 (by omega) (fun j hj => (ho2.lt j hj).1)
        case measure => simp [intOf]; omega
      | false =>
        have hs := sEnds A A n n c c (k + 1) xs xs wr hrr hrr hn hn hc hc (by omega)
        rw [hq] at hs
        have Hs := Lib.hid hs
        have Hy := hide (ov_no hq)
        clear hs hq
        go_wp2_with fail
        rw [Ek.out]
        refine Hs.out.mono ?_
        rintro e w2 ⟨rfl, hq2⟩
        have hb2 := below_of_drew hq2
        have ho2 := ho.below hb2
        have HB := hide (hb.trans (hb2.mono hz))
        clear hq2 ho hb hb2 hrr
        go_wp2
        go_roundw
        case rel => exact ⟨k + 1, by omega, by go_num, by rw [Hy.out]; exact ho2, HB.out⟩
        case measure => simp [intOf]; omega
    · have hkn : k = n := by omega
      subst hkn
      go_wp2
      go_ret
      exact ⟨_, rfl, ho.own, hb⟩

theorem eqL_comm (xs ys : List Int) : eqL xs ys = eqL ys xs := by
  unfold eqL
  exact decide_eq_decide.2 ⟨Eq.symm, Eq.symm⟩
theorem ov_yes' {es bs : List Int} {l : Nat} (h1 : 1 ≤ l) (h : endsB es bs l = true) : ov es bs l = ov es bs (l - 1) ++ [(l : Int)] := by
  obtain ⟨k, rfl⟩ : ∃ k, l = k + 1 := ⟨l - 1, by omega⟩
  exact ov_yes h
theorem ov_no' {es bs : List Int} {l : Nat} (h1 : 1 ≤ l) (h : endsB es bs l = false) : ov es bs l = ov es bs (l - 1) := by
  obtain ⟨k, rfl⟩ : ∃ k, l = k + 1 := ⟨l - 1, by omega⟩
  exact ov_no h
theorem OwnL.drewN2 {w : World} {lo : Nat} {v : Value} {xs : List Int} (h : OwnL w lo v xs) (n : Nat) : OwnL (w.drewN n) lo v xs := h
theorem endsB_in {es bs : List Int} {k : Nat} (h1 : k ≤ es.length) (h2 : k ≤ bs.length) : endsB es bs k = eqL (bs.take k) (es.drop (es.length - k)) := by
  rw [eqL_comm]
  simp [endsB, h1, h2]
theorem ov_more {es bs : List Int} {k : Nat} (m : Nat) (h : es.length ≤ k ∨ bs.length ≤ k) : ov es bs (k + m) = ov es bs k := by
  induction m with
  | zero => rfl
  | succ m ih =>
    rw [← Nat.add_assoc, ov_no (k := k + m) ?_, ih]
    rcases h with h | h
    · simp [endsB, show ¬ (k + m + 1 ≤ es.length) by omega]
    · simp [endsB, show ¬ (k + m + 1 ≤ bs.length) by omega]

set_option maxHeartbeats 1600000 in
theorem iOver (v u : Value) (bs es : List Int) (w : World) (hv : RV w v bs) (hu : RV w u es) (hn : bs.length ≤ 1048576) (hm : es.length ≤ 1048576) :
    Calls Try.prog 44 #[v, u] w fun e w' => ∃ r, e = .returned r ∧ Own w' w.heap.size w'.heap.size r (ov es bs bs.length) ∧ Below w.heap.size w w' := by
  obtain ⟨A, c, rfl, hr, hc⟩ := hv
  obtain ⟨B, d, rfl, hr2, hd⟩ := hu
  have hfin : ∀ k, k ≤ bs.length → (es.length ≤ k ∨ bs.length ≤ k) → ov es bs bs.length = ov es bs k := fun k h1 h2 => by
    obtain ⟨m, e⟩ := Nat.exists_eq_add_of_le h1
    rw [e, ov_more m h2]
  have Hfin := hide hfin
  have Hin : Hid (∀ k, k ≤ es.length → k ≤ bs.length → endsB es bs k = eqL (bs.take k) (es.drop (es.length - k))) := hide fun k h1 h2 => endsB_in h1 h2
  clear hfin
  generalize bs.length = n at *
  generalize es.length = m at *
  go_enter Try.func44, Try.ntmps44
  go_wp2
  go_loopw [5, 6] (fun r i wr => ∃ l : Nat, 1 ≤ l ∧ l ≤ n + 1 ∧ l ≤ m + 1 ∧ i = .int .i64 l ∧ OwnL wr w.heap.size r (ov es bs (l - 1)) ∧ Below w.heap.size w wr) (fun _ i _ => n + 1 - (intOf i).toNat)
  case atStart => exact ⟨1, Nat.le_refl _, by omega, by omega, rfl, OwnL.empty _ _ rfl (Nat.le_refl _), (Below.refl _ _).alloc (Nat.le_refl _) _⟩
  case round =>
    obtain ⟨l, hl1, hk, hk2, rfl, ho, hb⟩ := hrel
    have hov := ov_len es bs (l - 1)
    by_cases hlt : l ≤ n
    · by_cases hlt2 : l ≤ m
      · have hcut := ((hr2.below hb).from (k := m - l) (cap := d) (by omega) hd)
        have htk := ((hr.below hb).upto (k := l) (by omega))
        have he := Hin.out l (by omega) (by omega)
        have hz := hb.size
        have hlc : l ≤ c := by omega
        have hmd : m - l ≤ m := by omega
        cases hq : endsB es bs l with
        | true =>
          rw [hq] at he
          have He := hide he.symm
          have Hy := hide (ov_yes' hl1 hq)
          clear hq he
          generalize es.drop (m - l) = us at *
          generalize bs.take l = vs at *
          have q1 : IntKind.i64.wrap ((m : Int) - (l : Int)) = (m : Int) - (l : Int) := IntWalk.i64_in _ (by omega)
          have q2 : (0 : Int) ≤ (m : Int) - (l : Int) := by omega
          have q3 : ((m : Int) - (l : Int)).toNat = m - l := by omega
          have q4 : (m : Int) - (l : Int) ≤ (m : Int) := by omega
          go_wp2
          go_quiet ((go_at_call 56; exact Calls.quiet_of (iSame _ _ _ _ _ _ vs us _ (htk.drewN _) (hcut.drewN _) (by omega) (by omega))))
          rw [He.out]
          clear q1 q2 q3 q4
          have ho2 := ho.drewN2 nq
          have HB := hide (below_drewN hb nq)
          clear ho hb htk hcut
          generalize wr.drewN nq = w2 at *
          have hz2 := HB.out.size
          go_wp2_with (at_builtin; refine app1 ho2 (by omega) (by omega) rfl rfl rfl rfl ?_; intro v' w3 ho3 hg3)
          all_goals go_roundw
          case rel =>
            refine ⟨l + 1, by omega, by omega, by omega, by go_num, ?_, HB.out.grown hg3 (by omega) (fun j hj => (ho2.lt j hj).1)⟩
            rw [show l + 1 - 1 = l from by omega, Hy.out]
            exact ho3
          case measure => simp [intOf]; omega
        | false =>
          rw [hq] at he
          have He := hide he.symm
          have Hy := hide (ov_no' hl1 hq)
          clear hq he
          generalize es.drop (m - l) = us at *
          generalize bs.take l = vs at *
          have q1 : IntKind.i64.wrap ((m : Int) - (l : Int)) = (m : Int) - (l : Int) := IntWalk.i64_in _ (by omega)
          have q2 : (0 : Int) ≤ (m : Int) - (l : Int) := by omega
          have q3 : ((m : Int) - (l : Int)).toNat = m - l := by omega
          have q4 : (m : Int) - (l : Int) ≤ (m : Int) := by omega
          go_wp2
          go_quiet ((go_at_call 56; exact Calls.quiet_of (iSame _ _ _ _ _ _ vs us _ (htk.drewN _) (hcut.drewN _) (by omega) (by omega))))
          rw [He.out]
          clear q1 q2 q3 q4
          have ho2 := ho.drewN2 nq
          have HB := hide (below_drewN hb nq)
          clear ho hb htk hcut
          generalize wr.drewN nq = w2 at *
          go_wp2
          all_goals go_roundw
          case rel => exact ⟨l + 1, by omega, by omega, by omega, by go_num, by rw [show l + 1 - 1 = l from by omega, Hy.out]; exact ho2, HB.out⟩
          case measure => simp [intOf]; omega
      · have hd2 : decide (l ≤ m) = false := by simpa using hlt2
        have e := Hfin.out (l - 1) (by omega) (by omega)
        rw [← e] at ho
        clear e hlt2
        go_wp2
        go_ret
        exact ⟨_, rfl, ho.own, hb⟩
    · have e := Hfin.out (l - 1) (by omega) (by omega)
      rw [← e] at ho
      clear e
      go_wp2
      go_ret
      exact ⟨_, rfl, ho.own, hb⟩

/-- what both WordBorders answer -/
def RWordBorders (xs : List Int) : List Int × Bool := if wordB xs 6 = true then (ov xs xs xs.length, true) else ([], false)
theorem RWordBorders_len0 (xs : List Int) : (RWordBorders xs).1.length ≤ 1048576 := by
  unfold RWordBorders
  split
  · rename_i h
    have h1 : xs.length ≤ 12 := by
      simp [wordB] at h
      omega
    have := ov_len xs xs xs.length
    show (ov xs xs xs.length).length ≤ _
    omega
  · simp

theorem sWordBorders (v : Value) (xs : List Int) (w : World) (hv : RV w v xs) (hn : xs.length ≤ 1048576) :
    Calls Try.prog 15 #[v] w fun e w' => ∃ r, e = .returned (.tuple #[r, .bool (RWordBorders xs).2]) ∧ Own w' w.heap.size w'.heap.size r (RWordBorders xs).1 ∧ Below w.heap.size w w' := by
  have hW : ∀ W, RV W v xs → Calls Try.prog 39 #[v, .int .i64 6] W fun e w' => e = .returned (.bool (wordB xs 6)) ∧ W = w' := fun W h => by
    obtain ⟨A, c, rfl, hr, _⟩ := h
    exact sWord A _ c xs 6 W hr hn
  have HW := Lib.hid (hW w hv)
  have HB := Lib.hid (sBorders v xs w hv hn)
  clear hW
  cases hq : wordB xs 6 with
  | false =>
    rw [show RWordBorders xs = ([], false) from by rw [RWordBorders, if_neg (by rw [hq]; simp)]]
    rw [hq] at HW
    clear hq
    go_enter Try.func15, Try.ntmps15
    go_wp2_with (go_at_call 39; refine HW.out.mono ?_; rintro e w' ⟨rfl, rfl⟩)
    go_ret2
    exact ⟨_, rfl, Own.nil _ _ _, Below.refl _ _⟩
  | true =>
    rw [show RWordBorders xs = (ov xs xs xs.length, true) from by rw [RWordBorders, if_pos hq]]
    rw [hq] at HW
    clear hq
    generalize ov xs xs xs.length = rs at *
    go_enter Try.func15, Try.ntmps15
    go_wp2_with (first | (go_at_call 39; refine HW.out.mono ?_; rintro e w' ⟨rfl, rfl⟩) | (go_at_call 43; refine HB.out.mono ?_; rintro e w2 ⟨r, rfl, ho, hb⟩))
    go_ret2
    exact ⟨_, rfl, ho, hb⟩

theorem iWordBorders (v : Value) (xs : List Int) (w : World) (hv : RV w v xs) (hn : xs.length ≤ 1048576) :
    Calls Try.prog 16 #[v] w fun e w' => ∃ r, e = .returned (.tuple #[r, .bool (RWordBorders xs).2]) ∧ Own w' w.heap.size w'.heap.size r (RWordBorders xs).1 ∧ Below w.heap.size w w' := by
  have hW : ∀ W, RV W v xs → Calls Try.prog 13 #[v, .int .i64 6] W fun e w' => e = .returned (.bool (wordB xs 6)) ∧ Below W.heap.size W w' := fun W h => by
    obtain ⟨A, c, rfl, hr, _⟩ := h
    exact iIsWord A _ c xs 6 W hr hn
  have HW := Lib.hid (hW w hv)
  clear hW
  cases hq : wordB xs 6 with
  | false =>
    rw [show RWordBorders xs = ([], false) from by rw [RWordBorders, if_neg (by rw [hq]; simp)]]
    rw [hq] at HW
    clear hq
    go_enter Try.func16, Try.ntmps16
    go_wp2_with (go_at_call 13; refine HW.out.mono ?_; rintro e w2 ⟨rfl, hb⟩)
    go_ret2
    exact ⟨_, rfl, Own.nil _ _ _, hb⟩
  | true =>
    rw [show RWordBorders xs = (ov xs xs xs.length, true) from by rw [RWordBorders, if_pos hq]]
    rw [hq] at HW
    clear hq
    go_enter Try.func16, Try.ntmps16
    go_wp2_with fail
    refine HW.out.mono ?_
    rintro e w2 ⟨rfl, hb⟩
    go_wp2_with fail
    refine (iOver v v xs xs w2 (hv.below hb) (hv.below hb) hn hn).mono ?_
    rintro e w3 ⟨r, rfl, ho, hb3⟩
    go_wp2
    go_ret2
    exact ⟨_, rfl, ho.lo hb.size, hb.trans (hb3.mono hb.size)⟩
end Go.Proofs.Ytpfaefflbjpllaa
