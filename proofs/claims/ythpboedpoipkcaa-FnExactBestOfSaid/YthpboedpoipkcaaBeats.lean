/- Contracts of SameDie and Beats, both sides. Conditions: lengths at most 2^20 (or what is stated). -/
import Derived.Test.YthpboedpoipkcaaDie2
import Derived.Test.YthpboedpoipkcaaEq0
namespace Go.Proofs.Ythpboedpoipkcaa
open Go.ChangeShapes Go.WideShapes Go.ChangeAt Go.RowKit

theorem two_box (w : World) (t : TypeId) (u v : Value) : ((w.alloc (.cells #[u] t)).alloc (.cells #[v] t)).cell? ⟨w.heap.size, 0, none⟩ = some u ∧ ((w.alloc (.cells #[u] t)).alloc (.cells #[v] t)).cell? ⟨w.heap.size + 1, 0, none⟩ = some v := by
  have h1 := (Bk.new w t [u]).alloc (.cells #[v] t)
  have h2 := Bk.new (w.alloc (.cells #[u] t)) t [v]
  rw [show (w.alloc (.cells #[u] t)).heap.size = w.heap.size + 1 from by simp] at h2
  exact ⟨(h1.cell 0).trans rfl, (h2.cell 0).trans rfl⟩
theorem cell_drewN {W : World} {p : Addr} {v : Value} (h : W.cell? p = some v) (q : Nat) : (W.drewN q).cell? p = some v := h
theorem two_below (w : World) (o o' : Obj) : Below w.heap.size w ((w.alloc o).alloc o') := ((Below.refl _ _).alloc (Nat.le_refl _) _).alloc (by simp) _

set_option maxHeartbeats 400000 in
theorem sSameD (v u : Value) (xs ys : List Int) (w : World) (hv : RV w v xs) (hu : RV w u ys) (hn : xs.length ≤ 1048576) (hm : ys.length ≤ 1048576) :
    Calls Try.prog 20 #[.agg #[v], .agg #[u]] w fun e w' => e = .returned (.bool (eqL xs ys)) ∧ Below w.heap.size w w' := by
  obtain ⟨A, c, rfl, hr, hc⟩ := hv
  obtain ⟨B, d, rfl, hr2, hd⟩ := hu
  have H := Lib.hid (fun W h h2 => sSame A B xs.length ys.length c d xs ys W h h2 hn hm)
  generalize xs.length = n at *
  generalize ys.length = m at *
  go_enter Try.func20, Try.ntmps20
  go_wp2_with (go_at_call 58; refine (H.out _ ((hr.alloc _).alloc _) ((hr2.alloc _).alloc _)).mono ?_; rintro e w' ⟨rfl, q, rfl⟩)
  go_ret
  exact ⟨rfl, below_drewN (two_below _ _ _) q⟩
set_option maxHeartbeats 400000 in
theorem iSameD (v u : Value) (xs ys : List Int) (w : World) (hv : RV w v xs) (hu : RV w u ys) (hn : xs.length ≤ 1048576) (hm : ys.length ≤ 1048576) :
    Calls Try.prog 21 #[.agg #[v], .agg #[u]] w fun e w' => e = .returned (.bool (eqL xs ys)) ∧ Below w.heap.size w w' := by
  obtain ⟨A, c, rfl, hr, hc⟩ := hv
  obtain ⟨B, d, rfl, hr2, hd⟩ := hu
  have H := Lib.hid (fun W h h2 => iSame A B xs.length ys.length c d xs ys W h h2 hn hm)
  generalize xs.length = n at *
  generalize ys.length = m at *
  go_enter Try.func21, Try.ntmps21
  go_wp2_with (go_at_call 59; refine (H.out _ ((hr.alloc _).alloc _) ((hr2.alloc _).alloc _)).mono ?_; rintro e w' ⟨rfl, q, rfl⟩)
  go_ret
  exact ⟨rfl, below_drewN (two_below _ _ _) q⟩

/-- how many pairs so far: the first greater, the second greater, both equal -/
abbrev St3 := Nat × Nat × Nat
def btAdd (f g : Int) (s : St3) : St3 := if g < f then (s.1 + 1, s.2.1, s.2.2) else if f < g then (s.1, s.2.1 + 1, s.2.2) else (s.1, s.2.1, s.2.2 + 1)
def btRow (f : Int) (ys : List Int) (s : St3) : Nat → St3
  | 0 => s
  | j + 1 => btAdd f (ys.getD j 0) (btRow f ys s j)
def btAll (xs ys : List Int) : Nat → St3
  | 0 => (0, 0, 0)
  | i + 1 => btRow (xs.getD i 0) ys (btAll xs ys i) ys.length
def st3 (s : St3) : Nat := s.1 + s.2.1 + s.2.2
theorem btAdd_sum (f g : Int) (s : St3) : st3 (btAdd f g s) = st3 s + 1 := by
  unfold btAdd st3
  split
  · simp; omega
  · split <;> simp <;> omega
theorem btRow_sum (f : Int) (ys : List Int) (s : St3) (j : Nat) : st3 (btRow f ys s j) = st3 s + j := by
  induction j with
  | zero => rfl
  | succ j ih => rw [btRow, btAdd_sum, ih]; omega
theorem btAll_sum (xs ys : List Int) (i : Nat) : st3 (btAll xs ys i) = i * ys.length := by
  induction i with
  | zero => simp [btAll, st3]
  | succ i ih => rw [btAll, btRow_sum, ih, Nat.succ_mul]
def bt (xs ys : List Int) : St3 := btAll xs ys xs.length

set_option maxRecDepth 100000 in
set_option maxHeartbeats 1600000 in
theorem sBt (A B : Option Addr) (n m c d : Nat) (xs ys : List Int) (w : World) (hr : Rd w A n (iv xs)) (hr2 : Rd w B m (iv ys)) (hn : n ≤ 12) (hm : m ≤ 12) :
    Calls Try.prog 63 #[.slice A n c, .slice B m d] w fun e w' =>
      e = .returned (.tuple #[.int .i64 ((bt xs ys).1 : Int), .int .i64 ((bt xs ys).2.1 : Int), .int .i64 ((bt xs ys).2.2 : Int)]) ∧ ∃ q, w' = w.drewN q := by
  have Hl := hide hr.len
  have Hl2 := hide hr2.len
  unfold bt
  rw [Hl.out]
  go_enter Try.func63, Try.ntmps63
  go_wp2
  go_loopw [7, 8, 9, 14] (fun x y z i wr => ∃ k : Nat, k ≤ n ∧ i = .int .i64 k ∧ x = .int .i64 ((btAll xs ys k).1 : Int) ∧ y = .int .i64 ((btAll xs ys k).2.1 : Int) ∧ z = .int .i64 ((btAll xs ys k).2.2 : Int) ∧ Hid (∃ q, wr = w.drewN q)) (fun _ _ _ i _ => n - (intOf i).toNat)
  case atStart => exact ⟨0, Nat.zero_le _, rfl, rfl, rfl, rfl, hide ⟨0, rfl⟩⟩
  case round =>
    obtain ⟨k, hk, rfl, rfl, rfl, rfl, hq0⟩ := hrel
    obtain ⟨q0, rfl⟩ := hq0.out
    by_cases hlt : k < n
    · obtain ⟨ad, rfl, hbl, hc⟩ := hr.int hlt
      have Hst : Hid (btAll xs ys (k + 1) = btRow (xs.getD k 0) ys (btAll xs ys k) m) := hide (by rw [btAll, Hl2.out])
      have hs := btAll_sum xs ys k
      have hs2 : st3 (btAll xs ys k) ≤ 144 := by
        rw [hs, Hl2.out]
        exact Nat.mul_le_mul (by omega : k ≤ 12) hm
      generalize btAll xs ys k = s at *
      generalize xs.getD k 0 = f at *
      have f1 : (0 : Int) ≤ (k : Int) := by omega
      have f2 : (k : Int) < (n : Int) := by omega
      clear hs
      have Hs2 := hide hs2
      clear hs2
      go_wp2
      go_loopw [7, 8, 9, 19] (fun x y z i wr => ∃ j : Nat, j ≤ m ∧ i = .int .i64 j ∧ x = .int .i64 ((btRow f ys s j).1 : Int) ∧ y = .int .i64 ((btRow f ys s j).2.1 : Int) ∧ z = .int .i64 ((btRow f ys s j).2.2 : Int) ∧ Hid (∃ q, wr = w.drewN q)) (fun _ _ _ i _ => m - (intOf i).toNat)
      case atStart => exact ⟨0, Nat.zero_le _, rfl, rfl, rfl, rfl, hide ⟨_, rfl⟩⟩
      case round =>
        obtain ⟨j, hj, rfl, rfl, rfl, rfl, hq1⟩ := hrel
        obtain ⟨q1, rfl⟩ := hq1.out
        by_cases hjm : j < m
        · obtain ⟨bd, rfl, hbl2, hc2⟩ := hr2.int hjm
          have Hst2 : Hid (btRow f ys s (j + 1) = btAdd f (ys.getD j 0) (btRow f ys s j)) := hide rfl
          have hs3 := btRow_sum f ys s j
          have hs4 : st3 (btRow f ys s j) ≤ 156 := by have := Hs2.out; omega
          generalize btRow f ys s j = t at *
          obtain ⟨t1, t2, t3⟩ := t
          unfold st3 at hs4
          simp only at hs4
          generalize ys.getD j 0 = g at *
          have f3 : (0 : Int) ≤ (j : Int) := by omega
          have f4 : (j : Int) < (m : Int) := by omega
          clear hs3
          by_cases h1 : g < f
          · have d1 : decide (g < f) = true := decide_eq_true h1
            have Hadd := hide (Hst2.out.trans (show btAdd f g (t1, t2, t3) = (t1 + 1, t2, t3) from if_pos h1))
            clear h1
            go_wp2
            go_quiet (fail)
            go_wp2
            go_roundw
            case measure => simp [intOf]; omega
            case rel => exact ⟨j + 1, by omega, by go_num, by rw [Hadd.out]; go_num, by rw [Hadd.out], by rw [Hadd.out], hide (by repeat (first | exact ⟨_, rfl⟩ | exact drew2 _ _ _))⟩
          · have d1 : decide (g < f) = false := decide_eq_false h1
            by_cases h2 : f < g
            · have d2 : decide (f < g) = true := decide_eq_true h2
              have Hadd := hide (Hst2.out.trans (show btAdd f g (t1, t2, t3) = (t1, t2 + 1, t3) from (if_neg h1).trans (if_pos h2)))
              clear h1 h2
              go_wp2
              go_quiet (fail)
              go_wp2
              go_quiet (fail)
              go_wp2
              go_roundw
              case measure => simp [intOf]; omega
              case rel => exact ⟨j + 1, by omega, by go_num, by rw [Hadd.out], by rw [Hadd.out]; go_num, by rw [Hadd.out], hide (by repeat (first | exact ⟨_, rfl⟩ | exact drew2 _ _ _))⟩
            · have d2 : decide (f < g) = false := decide_eq_false h2
              have Hadd := hide (Hst2.out.trans (show btAdd f g (t1, t2, t3) = (t1, t2, t3 + 1) from (if_neg h1).trans (if_neg h2)))
              clear h1 h2
              go_wp2
              go_quiet (fail)
              go_wp2
              go_quiet (fail)
              go_wp2
              go_roundw
              case measure => simp [intOf]; omega
              case rel => exact ⟨j + 1, by omega, by go_num, by rw [Hadd.out], by rw [Hadd.out], by rw [Hadd.out]; go_num, hide (by repeat (first | exact ⟨_, rfl⟩ | exact drew2 _ _ _))⟩
        · have hjm' : j = m := by omega
          subst hjm'
          go_wp2
          go_roundw
          case measure => simp [intOf]; omega
          case rel => exact ⟨k + 1, by omega, by go_num, by rw [Hst.out], by rw [Hst.out], by rw [Hst.out], hide ⟨_, rfl⟩⟩
    · have hkn : k = n := by omega
      subst hkn
      go_wp2
      go_ret3
      exact ⟨rfl, _, rfl⟩

set_option maxRecDepth 100000 in
set_option maxHeartbeats 1600000 in
theorem iBt (A B : Option Addr) (n m c d : Nat) (xs ys : List Int) (w : World) (hr : Rd w A n (iv xs)) (hr2 : Rd w B m (iv ys)) (hn : n ≤ 12) (hm : m ≤ 12) :
    Calls Try.prog 64 #[.agg #[.slice A n c], .agg #[.slice B m d]] w fun e w' =>
      e = .returned (.tuple #[.int .i64 ((bt xs ys).1 : Int), .int .i64 ((bt xs ys).2.1 : Int), .int .i64 ((bt xs ys).2.2 : Int)]) ∧ Below w.heap.size w w' := by
  have Hl := hide hr.len
  have Hl2 := hide hr2.len
  unfold bt
  rw [Hl.out]
  go_enter Try.func64, Try.ntmps64
  go_wp2
  have hbW := two_below w (.cells #[.slice A n c] 27) (.cells #[.slice B m d] 27)
  obtain ⟨k1, k2⟩ := two_box w 27 (.slice A n c) (.slice B m d)
  have hr := (hr.alloc (.cells #[.slice A n c] 27)).alloc (.cells #[.slice B m d] 27)
  have hr2 := (hr2.alloc (.cells #[.slice A n c] 27)).alloc (.cells #[.slice B m d] 27)
  generalize ((w.alloc (.cells #[.slice A n c] 27)).alloc (.cells #[.slice B m d] 27)) = W at *
  have HbW := hide hbW
  clear hbW
  go_loop [7, 8, 9, 11, 17] (fun x y z _ i => ∃ k : Nat, k ≤ n ∧ i = .int .i64 k ∧ x = .int .i64 ((btAll xs ys k).1 : Int) ∧ y = .int .i64 ((btAll xs ys k).2.1 : Int) ∧ z = .int .i64 ((btAll xs ys k).2.2 : Int)) (fun _ _ _ _ i => n - (intOf i).toNat)
  case atStart => exact ⟨0, Nat.zero_le _, rfl, rfl, rfl, rfl⟩
  case round =>
    obtain ⟨k, hk, rfl, rfl, rfl, rfl⟩ := hrel
    by_cases hlt : k < n
    · obtain ⟨ad, rfl, hbl, hc⟩ := hr.int hlt
      have Hst : Hid (btAll xs ys (k + 1) = btRow (xs.getD k 0) ys (btAll xs ys k) m) := hide (by rw [btAll, Hl2.out])
      have hs := btAll_sum xs ys k
      have hs2 : st3 (btAll xs ys k) ≤ 144 := by
        rw [hs, Hl2.out]
        exact Nat.mul_le_mul (by omega : k ≤ 12) hm
      generalize btAll xs ys k = s at *
      generalize xs.getD k 0 = f at *
      have f1 : (0 : Int) ≤ (k : Int) := by omega
      have f2 : (k : Int) < (n : Int) := by omega
      clear hs
      have Hs2 := hide hs2
      clear hs2
      go_wp2
      go_loop [7, 8, 9, 13, 24] (fun x y z _ i => ∃ j : Nat, j ≤ m ∧ i = .int .i64 j ∧ x = .int .i64 ((btRow f ys s j).1 : Int) ∧ y = .int .i64 ((btRow f ys s j).2.1 : Int) ∧ z = .int .i64 ((btRow f ys s j).2.2 : Int)) (fun _ _ _ _ i => m - (intOf i).toNat)
      case atStart => exact ⟨0, Nat.zero_le _, rfl, rfl, rfl, rfl⟩
      case round =>
        obtain ⟨j, hj, rfl, rfl, rfl, rfl⟩ := hrel
        by_cases hjm : j < m
        · obtain ⟨bd, rfl, hbl2, hc2⟩ := hr2.int hjm
          have Hst2 : Hid (btRow f ys s (j + 1) = btAdd f (ys.getD j 0) (btRow f ys s j)) := hide rfl
          have hs3 := btRow_sum f ys s j
          have hs4 : st3 (btRow f ys s j) ≤ 156 := by have := Hs2.out; omega
          generalize btRow f ys s j = t at *
          obtain ⟨t1, t2, t3⟩ := t
          unfold st3 at hs4
          simp only at hs4
          generalize ys.getD j 0 = g at *
          have f3 : (0 : Int) ≤ (j : Int) := by omega
          have f4 : (j : Int) < (m : Int) := by omega
          clear hs3
          by_cases h1 : g < f
          · have d1 : decide (g < f) = true := decide_eq_true h1
            have Hadd := hide (Hst2.out.trans (show btAdd f g (t1, t2, t3) = (t1 + 1, t2, t3) from if_pos h1))
            clear h1
            go_wp2
            go_round
            case measure => simp [intOf]; omega
            case rel => exact ⟨j + 1, by omega, by go_num, by rw [Hadd.out]; go_num, by rw [Hadd.out], by rw [Hadd.out]⟩
          · have d1 : decide (g < f) = false := decide_eq_false h1
            by_cases h2 : f < g
            · have d2 : decide (f < g) = true := decide_eq_true h2
              have Hadd := hide (Hst2.out.trans (show btAdd f g (t1, t2, t3) = (t1, t2 + 1, t3) from (if_neg h1).trans (if_pos h2)))
              clear h1 h2
              go_wp2
              go_round
              case measure => simp [intOf]; omega
              case rel => exact ⟨j + 1, by omega, by go_num, by rw [Hadd.out], by rw [Hadd.out]; go_num, by rw [Hadd.out]⟩
            · have d2 : decide (f < g) = false := decide_eq_false h2
              have Hadd := hide (Hst2.out.trans (show btAdd f g (t1, t2, t3) = (t1, t2, t3 + 1) from (if_neg h1).trans (if_neg h2)))
              clear h1 h2
              go_wp2
              go_round
              case measure => simp [intOf]; omega
              case rel => exact ⟨j + 1, by omega, by go_num, by rw [Hadd.out], by rw [Hadd.out], by rw [Hadd.out]; go_num⟩
        · have hjm' : j = m := by omega
          subst hjm'
          go_wp2
          go_round
          case measure => simp [intOf]; omega
          case rel => exact ⟨k + 1, by omega, by go_num, by rw [Hst.out], by rw [Hst.out], by rw [Hst.out]⟩
    · have hkn : k = n := by omega
      subst hkn
      go_wp2
      go_ret3
      exact ⟨rfl, HbW.out⟩

def RBeats (xs ys : List Int) : St3 × Bool := if (dieB xs && dieB ys) = true then (bt xs ys, true) else ((0, 0, 0), false)
theorem RBeats_no {xs ys : List Int} (h : (dieB xs && dieB ys) = false) : RBeats xs ys = ((0, 0, 0), false) := by rw [RBeats, if_neg (by rw [h]; simp)]

set_option maxHeartbeats 1600000 in
theorem sBeatsD (v u : Value) (xs ys : List Int) (w : World) (hv : RV w v xs) (hu : RV w u ys) (hn : xs.length ≤ 1048576) (hm : ys.length ≤ 1048576) :
    Calls Try.prog 26 #[.agg #[v], .agg #[u]] w fun e w' => e = .returned (.tuple #[.int .i64 ((RBeats xs ys).1.1 : Int), .int .i64 ((RBeats xs ys).1.2.1 : Int), .int .i64 ((RBeats xs ys).1.2.2 : Int), .bool (RBeats xs ys).2]) ∧ Below w.heap.size w w' := by
  obtain ⟨A, c, rfl, hr, hc⟩ := hv
  obtain ⟨B, d, rfl, hr2, hd⟩ := hu
  obtain ⟨k1, k2⟩ := two_box w 27 (.slice A xs.length c) (.slice B ys.length d)
  have hbW := two_below w (.cells #[.slice A xs.length c] 27) (.cells #[.slice B ys.length d] 27)
  have hr := (hr.alloc (.cells #[.slice A xs.length c] 27)).alloc (.cells #[.slice B ys.length d] 27)
  have hr2 := (hr2.alloc (.cells #[.slice A xs.length c] 27)).alloc (.cells #[.slice B ys.length d] 27)
  have H1 := Lib.hid (sIsDie ⟨w.heap.size, 0, none⟩ A xs.length c xs _ k1 hr hn)
  have H2 := Lib.hid (fun q => sIsDie ⟨w.heap.size + 1, 0, none⟩ B ys.length d ys _ (cell_drewN k2 q) (hr2.drewN q) hm)
  have HW := hide hbW
  clear hbW
  cases q1 : dieB xs with
  | false =>
    rw [q1] at H1
    have HR := hide (RBeats_no (xs := xs) (ys := ys) (by rw [q1]; rfl))
    generalize xs.length = n at *
    generalize ys.length = m at *
    go_enter Try.func26, Try.ntmps26
    go_wp2_with (go_at_call 55; refine H1.out.mono ?_; rintro e w' ⟨rfl, q, rfl⟩)
    exact bodyPost_ret (v := .tuple #[.int .i64 0, .int .i64 0, .int .i64 0, .bool false]) (by simp [results, Try.results26, go_sem]) rfl ⟨by rw [HR.out]; rfl, below_drewN HW.out q⟩
  | true =>
    rw [q1] at H1
    cases q2 : dieB ys with
    | false =>
      simp only [q2] at H2
      have HR := hide (RBeats_no (xs := xs) (ys := ys) (by rw [q1, q2]; rfl))
      generalize xs.length = n at *
      generalize ys.length = m at *
      go_enter Try.func26, Try.ntmps26
      go_wp2_with (go_at_call 55; first | ((with_reducible refine H1.out.mono ?_); rintro e w' ⟨rfl, q, rfl⟩) | ((with_reducible refine (H2.out _).mono ?_); rintro e w' ⟨rfl, q', rfl⟩))
      exact bodyPost_ret (v := .tuple #[.int .i64 0, .int .i64 0, .int .i64 0, .bool false]) (by simp [results, Try.results26, go_sem]) rfl ⟨by rw [HR.out]; rfl, below_drewN HW.out _⟩
    | true =>
      simp only [q2] at H2
      have HR : Hid (RBeats xs ys = (bt xs ys, true)) := hide (by rw [RBeats, if_pos (by rw [q1, q2]; rfl)])
      have HB := Lib.hid (fun q => sBt A B xs.length ys.length c d xs ys _ (hr.drewN q) (hr2.drewN q) (dieB_len q1).2 (dieB_len q2).2)
      generalize bt xs ys = s at *
      obtain ⟨s1, s2, s3⟩ := s
      generalize xs.length = n at *
      generalize ys.length = m at *
      go_enter Try.func26, Try.ntmps26
      go_wp2_with (first | (go_at_call 55; first | ((with_reducible refine H1.out.mono ?_); rintro e w' ⟨rfl, q, rfl⟩) | ((with_reducible refine (H2.out _).mono ?_); rintro e w' ⟨rfl, q', rfl⟩)) | (go_at_call 63; refine (HB.out _).mono ?_; rintro e w' ⟨rfl, q9, rfl⟩))
      exact bodyPost_ret (v := .tuple #[.int .i64 (s1 : Int), .int .i64 (s2 : Int), .int .i64 (s3 : Int), .bool true]) (by simp [results, Try.results26, go_sem]) rfl ⟨by rw [HR.out], below_drewN HW.out _⟩

set_option maxHeartbeats 1600000 in
theorem iBeatsD (v u : Value) (xs ys : List Int) (w : World) (hv : RV w v xs) (hu : RV w u ys) (hn : xs.length ≤ 1048576) (hm : ys.length ≤ 1048576) :
    Calls Try.prog 27 #[.agg #[v], .agg #[u]] w fun e w' => e = .returned (.tuple #[.int .i64 ((RBeats xs ys).1.1 : Int), .int .i64 ((RBeats xs ys).1.2.1 : Int), .int .i64 ((RBeats xs ys).1.2.2 : Int), .bool (RBeats xs ys).2]) ∧ Below w.heap.size w w' := by
  obtain ⟨A, c, rfl, hr, hc⟩ := hv
  obtain ⟨B, d, rfl, hr2, hd⟩ := hu
  obtain ⟨k1, k2⟩ := two_box w 27 (.slice A xs.length c) (.slice B ys.length d)
  have hbW := two_below w (.cells #[.slice A xs.length c] 27) (.cells #[.slice B ys.length d] 27)
  have hr := (hr.alloc (.cells #[.slice A xs.length c] 27)).alloc (.cells #[.slice B ys.length d] 27)
  have hr2 := (hr2.alloc (.cells #[.slice A xs.length c] 27)).alloc (.cells #[.slice B ys.length d] 27)
  have hz : w.heap.size + 1 < ((w.alloc (.cells #[.slice A xs.length c] 27)).alloc (.cells #[.slice B ys.length d] 27)).heap.size := by simp
  have H1 := Lib.hid (fun W h => iIsDie0 A xs.length c xs W h hn)
  have H2 := Lib.hid (fun W h => iIsDie0 B ys.length d ys W h hm)
  have HW := hide hbW
  clear hbW
  cases q1 : dieB xs with
  | false =>
    simp only [q1] at H1
    have HR := hide (RBeats_no (xs := xs) (ys := ys) (by rw [q1]; rfl))
    generalize xs.length = n at *
    generalize ys.length = m at *
    go_enter Try.func27, Try.ntmps27
    go_wp2_with (go_at_call 18; refine (H1.out _ hr).mono ?_; rintro e w1 ⟨rfl, hb1⟩)
    exact bodyPost_ret (v := .tuple #[.int .i64 0, .int .i64 0, .int .i64 0, .bool false]) (by simp [results, Try.results27, go_sem]) rfl ⟨by rw [HR.out]; rfl, HW.out.trans (hb1.mono HW.out.size)⟩
  | true =>
    simp only [q1] at H1
    cases q2 : dieB ys with
    | false =>
      simp only [q2] at H2
      have HR := hide (RBeats_no (xs := xs) (ys := ys) (by rw [q1, q2]; rfl))
      generalize xs.length = n at *
      generalize ys.length = m at *
      go_enter Try.func27, Try.ntmps27
      go_wp2_with (go_at_call 18; first | ((with_reducible refine (H1.out _ hr).mono ?_); rintro e w1 ⟨rfl, hb1⟩; have k2' := (hb1.cell (p := ⟨w.heap.size + 1, 0, none⟩) hz).trans k2; have k1' := (hb1.cell (p := ⟨w.heap.size, 0, none⟩) (Nat.lt_of_succ_lt hz)).trans k1) | ((with_reducible refine (H2.out _ (hr2.below hb1)).mono ?_); rintro e w2 ⟨rfl, hb2⟩))
      exact bodyPost_ret (v := .tuple #[.int .i64 0, .int .i64 0, .int .i64 0, .bool false]) (by simp [results, Try.results27, go_sem]) rfl ⟨by rw [HR.out]; rfl, HW.out.trans ((hb1.trans (hb2.mono hb1.size)).mono HW.out.size)⟩
    | true =>
      simp only [q2] at H2
      have HR : Hid (RBeats xs ys = (bt xs ys, true)) := hide (by rw [RBeats, if_pos (by rw [q1, q2]; rfl)])
      have HB := Lib.hid (fun W h1 h2 => iBt A B xs.length ys.length c d xs ys W h1 h2 (dieB_len q1).2 (dieB_len q2).2)
      generalize bt xs ys = s at *
      obtain ⟨s1, s2, s3⟩ := s
      generalize xs.length = n at *
      generalize ys.length = m at *
      go_enter Try.func27, Try.ntmps27
      go_wp2_with (first | (go_at_call 18; first | ((with_reducible refine (H1.out _ hr).mono ?_); rintro e w1 ⟨rfl, hb1⟩; have k2' := (hb1.cell (p := ⟨w.heap.size + 1, 0, none⟩) hz).trans k2; have k1' := (hb1.cell (p := ⟨w.heap.size, 0, none⟩) (Nat.lt_of_succ_lt hz)).trans k1) | ((with_reducible refine (H2.out _ (hr2.below hb1)).mono ?_); rintro e w2 ⟨rfl, hb2⟩; have k2'' := (hb2.cell (p := ⟨w.heap.size + 1, 0, none⟩) (Nat.lt_of_lt_of_le hz hb1.size)).trans k2'; have k1'' := (hb2.cell (p := ⟨w.heap.size, 0, none⟩) (Nat.lt_of_lt_of_le (Nat.lt_of_succ_lt hz) hb1.size)).trans k1')) | (go_at_call 64; refine (HB.out _ ((hr.below hb1).below hb2) ((hr2.below hb1).below hb2)).mono ?_; rintro e w3 ⟨rfl, hb3⟩))
      have d2 := hb1.trans (hb2.mono hb1.size)
      exact bodyPost_ret (v := .tuple #[.int .i64 (s1 : Int), .int .i64 (s2 : Int), .int .i64 (s3 : Int), .bool true]) (by simp [results, Try.results27, go_sem]) rfl ⟨by rw [HR.out], HW.out.trans ((d2.trans (hb3.mono d2.size)).mono HW.out.size)⟩
end Go.Proofs.Ythpboedpoipkcaa
