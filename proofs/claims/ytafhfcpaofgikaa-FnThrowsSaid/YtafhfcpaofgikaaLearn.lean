/- Contracts of LearnThrows, both sides. Conditions: lengths at most 2^20. -/
import Derived.Test.YtafhfcpaofgikaaReply
import Derived.Deep.RegionHeld3
namespace Go.Proofs.Ytafhfcpaofgikaa
open Go.ChangeShapes Go.WideShapes Go.ChangeAt Go.RowKit

/-- what has been thrown behind k rounds more than the first -/
def lrN (xs : List Int) (n : Nat) : Nat → List Int × List Int
  | 0 => ((List.replicate n 0).set 0 1, (List.replicate n 0).set 0 1)
  | k + 1 => ((lrN xs n k).1.set (rpB xs (lrN xs n k).2 n n).1 (wrap64 ((lrN xs n k).1.getD (rpB xs (lrN xs n k).2 n n).1 0 + 1)), (lrN xs n k).2.set (rpB xs (lrN xs n k).1 n n).1 (wrap64 ((lrN xs n k).2.getD (rpB xs (lrN xs n k).1 n n).1 0 + 1)))
theorem lrN_len (xs : List Int) (n k : Nat) : (lrN xs n k).1.length = n ∧ (lrN xs n k).2.length = n := by
  induction k with
  | zero => simp [lrN]
  | succ k ih => simp [lrN, ih]
theorem rpB_in {xs cs : List Int} {n : Nat} (hn : 0 < n) : (rpB xs cs n n).1 < n := by
  have := rpB_lt xs cs n n
  omega
theorem Bk.owned2 {w : World} {g lo hi n : Nat} {xs : List Int} (h : Bk w g 2 (iv xs)) (hn : xs.length = n) (hl : lo ≤ g) (hh : g < hi) (hm : n ≤ maxLen) : Own w lo hi (.slice (some ⟨g, 0, none⟩) n n) xs := by
  subst hn
  refine ⟨(h.owned hl hm).1, fun k hk => ?_⟩
  have h2 : g = k := by simpa [Value.ownBlock] using hk
  omega
/-- two slices of integers that the call owns, from lo on, in blocks apart -/
def Two (lo : Nat) (w : World) (v : Value) (xs : List Int) (u : Value) (ys : List Int) : Prop :=
  ∃ a b c d, lo ≤ a ∧ b ≤ w.heap.size ∧ lo ≤ c ∧ d ≤ w.heap.size ∧ (b ≤ c ∨ d ≤ a) ∧ Own w a b v xs ∧ Own w c d u ys
theorem Two.nil (lo : Nat) (w : World) (h : lo ≤ w.heap.size) : Two lo w (.slice none 0 0) [] (.slice none 0 0) [] := ⟨lo, lo, lo, lo, Nat.le_refl _, h, Nat.le_refl _, h, .inl (Nat.le_refl _), Own.nil _ _ _, Own.nil _ _ _⟩
theorem make_run (n : Nat) (hn : n ≤ 1048576) (w : World) : (Instr.makeSlice 22 (.int .i64 (n : Int)) (.int .i64 (n : Int))).run Try.prog w = .ok (.slice (some ⟨w.heap.size, 0, none⟩) n n) (w.alloc (.cells (Array.replicate n (.int .i64 0)) 2)) := by
  obtain ⟨i0, hi, hz0, hz1, hz2⟩ := info_parts info_i64
  have h := run_make (P := Try.prog) w 22 2 i0 (.int .i64 0) Try.underlying22 hi hz0 .i64 .i64 (n : Int) (n : Int) (by omega) (Int.le_refl _) (by rw [hz2]; omega) (by omega)
  rw [h]
  simp only [Int.toNat_natCast, hz1, Nat.mul_one]
  congr 3
  apply Array.ext'
  rw [Array.toList_replicate]
  exact toList_madeCells_one _ _
theorem newRep (w : World) (n : Nat) : Bk (w.alloc (.cells (Array.replicate n (.int .i64 0)) 2)) w.heap.size 2 (iv (List.replicate n 0)) := by
  have h := Bk.new w 2 (List.replicate n (.int .i64 0))
  rw [List.toArray_replicate, rep_iv] at h
  exact h
def lrOk (xs : List Int) (r : Int) : Bool := decide (thrN xs ≠ 0) && inB r 1 200
def RLearnThrows (xs : List Int) (r : Int) : List Int × List Int × Bool := if lrOk xs r = true then ((lrN xs (thrN xs) (r.toNat - 1)).1, (lrN xs (thrN xs) (r.toNat - 1)).2, true) else ([], [], false)
theorem thrN_le (xs : List Int) : thrN xs ≤ 5 := by
  have := side_of xs.length
  unfold thrN
  split <;> omega
theorem thrN_sq {xs : List Int} (h : thrN xs ≠ 0) : 2 ≤ thrN xs ∧ thrN xs ≤ 5 ∧ xs.length = thrN xs * thrN xs := by
  have hs := side_of xs.length
  unfold thrN at h ⊢
  split at h
  · rename_i hall
    rw [if_pos hall]
    omega
  · omega
theorem RLearnThrows_len0 (xs : List Int) (r : Int) : (RLearnThrows xs r).1.length ≤ 1048576 := by
  unfold RLearnThrows
  have := thrN_le xs
  split
  · rw [(lrN_len _ _ _).1]; omega
  · simp
theorem RLearnThrows_len1 (xs : List Int) (r : Int) : (RLearnThrows xs r).2.1.length ≤ 1048576 := by
  unfold RLearnThrows
  have := thrN_le xs
  split
  · rw [(lrN_len _ _ _).2]; omega
  · simp

set_option maxHeartbeats 1600000 in
theorem sLearnThrows (v : Value) (xs : List Int) (r : Int) (w : World) (hv : RV w v xs) (hn : xs.length ≤ 1048576) (_w1 : (Lit.int .i64 r).wf = true) :
    Calls Try.prog 21 #[v, .int .i64 r] w fun e w' => ∃ r0 r1, Two w.heap.size w' r0 (RLearnThrows xs r).1 r1 (RLearnThrows xs r).2.1 ∧ e = .returned (.tuple #[r0, r1, .bool (RLearnThrows xs r).2.2]) ∧ Below w.heap.size w w' := by
  obtain ⟨A, cp, rfl, hr, hcc⟩ := hv
  have HT := Lib.hid (sThrows A xs.length cp xs w hr hn)
  by_cases hT : thrN xs = 0
  · rw [show RLearnThrows xs r = ([], [], false) from by rw [RLearnThrows, if_neg (by simp [lrOk, hT])]]
    rw [hT] at HT
    generalize xs.length = N at *
    go_enter Try.func21, Try.ntmps21
    go_wp2_with (go_at_call 37; refine HT.out.mono ?_; rintro e w' ⟨rfl, q, rfl⟩)
    go_ret3
    exact ⟨_, _, Two.nil _ _ (Nat.le_refl _), rfl, below_drewN (Below.refl _ _) _⟩
  · obtain ⟨h2, h5, hsq⟩ := thrN_sq hT
    have Hsq := hide hsq
    clear hsq
    have hT0 : (((thrN xs : Nat) : Int) == 0) = false := by simpa using hT
    cases hB : inB r 1 200 with
    | false =>
      rw [show RLearnThrows xs r = ([], [], false) from by rw [RLearnThrows, if_neg (by simp [lrOk, hB])]]
      generalize thrN xs = n at *
      generalize xs.length = N at *
      go_enter Try.func21, Try.ntmps21
      go_wp2_with (first | (go_at_call 37; refine HT.out.mono ?_; rintro e w' ⟨rfl, q, rfl⟩) | (go_at_call 28; refine (sIn _ _ _ _).mono ?_; rintro e w' ⟨rfl, rfl⟩))
      go_ret3
      exact ⟨_, _, Two.nil _ _ (Nat.le_refl _), rfl, below_drewN (Below.refl _ _) _⟩
    | true =>
      obtain ⟨hr1, hr200⟩ := inB_iff.1 hB
      obtain ⟨r, rfl⟩ := Int.eq_ofNat_of_zero_le (show 0 ≤ r by omega)
      have HR : Hid (RLearnThrows xs (r : Int) = ((lrN xs (thrN xs) (r - 1)).1, (lrN xs (thrN xs) (r - 1)).2, true)) := hide (by rw [RLearnThrows, if_pos (by simp [lrOk, hT, hB])]; rfl)
      generalize RLearnThrows xs (r : Int) = R at *
      generalize thrN xs = n at *
      have HLen := hide (show xs.length = n * n from Hsq.out)
      generalize hN : xs.length = N at *
      clear hN Hsq hT
      go_enter Try.func21, Try.ntmps21
      go_wp2_with (first | (go_at_call 37; refine HT.out.mono ?_; rintro e w' ⟨rfl, q, rfl⟩) | (go_at_call 28; refine (sIn _ _ _ _).mono ?_; rintro e w' ⟨rfl, rfl⟩) | (at_make; have hX := hB1; refine mk1 (n := n) (by omega) rfl rfl rfl rfl ?_; intro w2 hB2 hb2 hz2; have hA2 : Bk w2 w.heap.size 2 (iv (List.replicate n 0)) := hB1.below hb2 hB1.lt; have c1 := hA2.int (k := 0) (by simp; omega); have f1 := hA2.free 0; have hz1' : w.heap.size < w1.heap.size := hz1; have hB3 := hB2.far (p := ⟨w.heap.size, 0, none⟩) (by show w1.heap.size ≠ w.heap.size; omega) (.int .i64 1); have c2 := hB3.int (k := 0) (by simp; omega); have f2 := hB3.free 0) | (at_make; refine mk1 (n := n) (by omega) rfl rfl rfl rfl ?_; intro w1 hB1 hb1 hz1))
      have hA3 : Bk ((w2.setCell ⟨w.heap.size, 0, none⟩ (.int .i64 1)).setCell ⟨w1.heap.size, 0, none⟩ (.int .i64 1)) w.heap.size 2 (iv (lrN xs n 0).1) := (hA2.seti 0 1).far (by show w.heap.size ≠ w1.heap.size; omega) _
      have hB4 : Bk ((w2.setCell ⟨w.heap.size, 0, none⟩ (.int .i64 1)).setCell ⟨w1.heap.size, 0, none⟩ (.int .i64 1)) w1.heap.size 2 (iv (lrN xs n 0).2) := hB3.seti 0 1
      have hb1' : Below w.heap.size w w1 := (below_drewN (Below.refl _ _) q).trans hb1
      have hb2' : Below w.heap.size w w2 := hb1'.trans (hb2.mono (Nat.le_of_lt hz1'))
      have hb3 : Below w.heap.size w ((w2.setCell ⟨w.heap.size, 0, none⟩ (.int .i64 1)).setCell ⟨w1.heap.size, 0, none⟩ (.int .i64 1)) := (hb2'.setCell (p := ⟨w.heap.size, 0, none⟩) (Nat.le_refl _) _).setCell (p := ⟨w1.heap.size, 0, none⟩) (Nat.le_of_lt hz1') _
      clear c1 f1 c2 f2 hA2 hB3 hB2 hB1 hb1 hb2
      generalize w1.heap.size = gb at *
      generalize ((w2.setCell ⟨w.heap.size, 0, none⟩ (.int .i64 1)).setCell ⟨gb, 0, none⟩ (.int .i64 1)) = W at *
      clear hz1 hz2 hb1' hb2'
      go_loopw [10] (fun i wr => ∃ k : Nat, k + 1 ≤ r ∧ i = .int .i64 ((k + 1 : Nat) : Int) ∧ Bk wr w.heap.size 2 (iv (lrN xs n k).1) ∧ Bk wr gb 2 (iv (lrN xs n k).2) ∧ Below w.heap.size w wr) (fun i _ => r - (intOf i).toNat)
      case atStart => exact ⟨0, by omega, rfl, hA3, hB4, hb3⟩
      case round =>
        clear hA3 hB4 hb3
        obtain ⟨k, hk, rfl, hA, hBb, hb⟩ := hrel
        obtain ⟨hl1, hl2⟩ := lrN_len xs n k
        by_cases hlt : k + 1 < r
        · have hx := rpB_in (xs := xs) (cs := (lrN xs n k).2) (n := n) (by omega)
          have hy := rpB_in (xs := xs) (cs := (lrN xs n k).1) (n := n) (by omega)
          have HS1 := Lib.hid (sReply A N cp xs (some ⟨gb, 0, none⟩) n n (lrN xs n k).2 wr (hr.below hb) (hBb.rdi hl2) h5 HLen.out)
          have HS2 := Lib.hid (fun q => sReply A N cp xs (some ⟨w.heap.size, 0, none⟩) n n (lrN xs n k).1 (wr.drewN q) ((hr.below hb).drewN q) ((hA.rdi hl1).drewN q) h5 HLen.out)
          have Hst : Hid (lrN xs n (k + 1) = ((lrN xs n k).1.set (rpB xs (lrN xs n k).2 n n).1 (wrap64 ((lrN xs n k).1.getD (rpB xs (lrN xs n k).2 n n).1 0 + 1)), (lrN xs n k).2.set (rpB xs (lrN xs n k).1 n n).1 (wrap64 ((lrN xs n k).2.getD (rpB xs (lrN xs n k).1 n n).1 0 + 1)))) := hide rfl
          generalize (rpB xs (lrN xs n k).2 n n).1 = x at *
          generalize (rpB xs (lrN xs n k).1 n n).1 = y at *
          generalize lrN xs n k = ab at *
          obtain ⟨us, vs⟩ := ab
          simp only at hl1 hl2 hA hBb Hst
          have Hl1 := hide hl1
          have Hl2 := hide hl2
          have cx := hA.int (k := x) (by omega)
          have fx := hA.free x
          have HV : Hid (∀ W, Bk W gb 2 (iv vs) → W.cell? ⟨gb, y, none⟩ = some (.int .i64 (vs.getD y 0))) := hide fun W h => h.int (k := y) (by omega)
          generalize us.getD x 0 = ux at *
          generalize vs.getD y 0 = vy at *
          clear hl1 hl2
          go_wp2_with (first | (go_at_call 41; with_reducible refine HS1.out.mono ?_; rintro e w' ⟨rfl, q1, rfl⟩) | (go_at_call 41; with_reducible refine (HS2.out q1).mono ?_; rintro e w' ⟨rfl, q2, rfl⟩; have hBv := (hBb.drewN (q1 + q2)).far (p := ⟨w.heap.size, x, none⟩) (by show gb ≠ w.heap.size; omega) (.int .i64 (wrap64 (ux + 1))); have cy := HV.out _ hBv; have fy := hBv.free y; have HBv := hide hBv; clear hBv))
          go_roundw
          case measure => simp [intOf]; omega
          case rel =>
            refine ⟨k + 1, by omega, by go_num, ?_, ?_, ?_⟩
            · rw [Hst.out]
              exact (Bk.seti (hA.drewN (q1 + q2)) x _).far (by show w.heap.size ≠ gb; omega) _
            · rw [Hst.out]
              exact HBv.out.seti y _
            · exact ((below_drewN hb _).setCell (p := ⟨w.heap.size, x, none⟩) (Nat.le_refl _) _).setCell (p := ⟨gb, y, none⟩) (Nat.le_of_lt hz1') _
        · have HR2 : Hid (R = ((lrN xs n k).1, (lrN xs n k).2, true)) := hide (by rw [HR.out, show r - 1 = k from by omega])
          have dkr : decide (k + 1 < r) = false := decide_eq_false hlt
          have dkr2 : decide ((k : Int) + 1 < (r : Int)) = false := decide_eq_false (by omega)
          clear HR
          have hsz := hBb.lt
          have HA := hide hA
          have HB := hide hBb
          have Hl1 := hide hl1
          have Hl2 := hide hl2
          clear hA hBb hl1 hl2
          go_wp2
          go_ret3
          refine ⟨.slice (some ⟨w.heap.size, 0, none⟩) n n, .slice (some ⟨gb, 0, none⟩) n n, ⟨_, _, _, _, Nat.le_refl _, Nat.le_of_lt hsz, Nat.le_of_lt hz1', Nat.le_refl _, .inl (Nat.le_refl _), ?_, ?_⟩, ?_, hb⟩
          · rw [HR2.out]
            exact HA.out.owned2 Hl1.out (Nat.le_refl _) hz1' (by unfold maxLen; omega)
          · rw [HR2.out]
            exact HB.out.owned2 Hl2.out (Nat.le_refl _) hsz (by unfold maxLen; omega)
          · rw [HR2.out]
            rfl

set_option maxHeartbeats 1600000 in
theorem iLearnThrows (v : Value) (xs : List Int) (r : Int) (w : World) (hv : RV w v xs) (hn : xs.length ≤ 1048576) (_w1 : (Lit.int .i64 r).wf = true) :
    Calls Try.prog 22 #[v, .int .i64 r] w fun e w' => ∃ r0 r1, Two w.heap.size w' r0 (RLearnThrows xs r).1 r1 (RLearnThrows xs r).2.1 ∧ e = .returned (.tuple #[r0, r1, .bool (RLearnThrows xs r).2.2]) ∧ Below w.heap.size w w' := by
  obtain ⟨A, cp, rfl, hr, hcc⟩ := hv
  have HT := Lib.hid (fun W (hW : Below w.heap.size w W) => iThrows A xs.length cp xs W (hr.below hW) hn)
  by_cases hT : thrN xs = 0
  · rw [show RLearnThrows xs r = ([], [], false) from by rw [RLearnThrows, if_neg (by simp [lrOk, hT])]]
    simp only [hT, Int.natCast_zero] at HT
    generalize xs.length = N at *
    go_enter Try.func22, Try.ntmps22
    go_wp2_with (go_at_call 39; refine (HT.out _ ((Below.refl _ _).alloc (Nat.le_refl _) _)).mono ?_; rintro e w' ⟨rfl, q, rfl⟩)
    go_ret3
    exact ⟨_, _, Two.nil _ _ (by simp; omega), rfl, below_drewN (((Below.refl _ _).alloc (Nat.le_refl _) _).alloc (by simp) _ |> fun h => h) _⟩
  · obtain ⟨h2, h5, hsq⟩ := thrN_sq hT
    have Hsq := hide hsq
    clear hsq
    have hT0 : (((thrN xs : Nat) : Int) == 0) = false := by simpa using hT
    cases hB : inB r 1 200 with
    | false =>
      rw [show RLearnThrows xs r = ([], [], false) from by rw [RLearnThrows, if_neg (by simp [lrOk, hB])]]
      generalize thrN xs = n at *
      generalize xs.length = N at *
      have HI := Lib.hid (fun W => iIn r 1 200 W)
      rw [hB] at HI
      go_enter Try.func22, Try.ntmps22
      go_wp2_with (first | (go_at_call 39; refine (HT.out _ ((Below.refl _ _).alloc (Nat.le_refl _) _)).mono ?_; rintro e w' ⟨rfl, q, rfl⟩) | (go_at_call 31; refine (HI.out _).mono ?_; rintro e w' ⟨rfl, rfl⟩))
      go_ret3
      exact ⟨_, _, Two.nil _ _ (by simp; omega), rfl, below_drewN (((Below.refl _ _).alloc (Nat.le_refl _) _).alloc (by simp) _ |> fun h => h) _⟩
    | true =>
      obtain ⟨hr1, hr200⟩ := inB_iff.1 hB
      obtain ⟨r, rfl⟩ := Int.eq_ofNat_of_zero_le (show 0 ≤ r by omega)
      have HR : Hid (RLearnThrows xs (r : Int) = ((lrN xs (thrN xs) (r - 1)).1, (lrN xs (thrN xs) (r - 1)).2, true)) := hide (by rw [RLearnThrows, if_pos (by simp [lrOk, hT, hB])]; rfl)
      generalize RLearnThrows xs (r : Int) = R at *
      generalize thrN xs = n at *
      have HLen := hide (show xs.length = n * n from Hsq.out)
      generalize hN : xs.length = N at *
      have HI := Lib.hid (fun W => iIn (r : Int) 1 200 W)
      rw [hB] at HI
      have hmk := make_run n (by omega)
      clear hN Hsq hT hB
      go_enter Try.func22, Try.ntmps22
      go_wp2_with (first | (go_at_call 39; refine (HT.out _ ((Below.refl _ _).alloc (Nat.le_refl _) _)).mono ?_; rintro e w' ⟨rfl, q, rfl⟩) | (go_at_call 31; refine (HI.out _).mono ?_; rintro e w' ⟨rfl, rfl⟩))
      have hcn : (((w.alloc (.cells #[.slice A N cp] 22)).drewN q).alloc (.cells #[.int .i64 (n : Int)] 3)).cell? ⟨w.heap.size + 1, 0, none⟩ = some (.int .i64 (n : Int)) := by
        rw [World.cell?_alloc_at _ _ _ _ (by simp)]; rfl
      have hcw : (((w.alloc (.cells #[.slice A N cp] 22)).drewN q).alloc (.cells #[.int .i64 (n : Int)] 3)).cell? ⟨w.heap.size, 0, none⟩ = some (.slice A N cp) := by
        rw [World.cell?_alloc_lt _ _ _ (by simp)]
        show (w.alloc _).cell? _ = _
        rw [World.cell?_alloc_at _ _ _ _ rfl]; rfl
      have hbW : Below w.heap.size w (((w.alloc (.cells #[.slice A N cp] 22)).drewN q).alloc (.cells #[.int .i64 (n : Int)] 3)) :=
        (below_drewN ((Below.refl _ _).alloc (Nat.le_refl _) _) q).alloc (by simp) _
      have hzW : (((w.alloc (.cells #[.slice A N cp] 22)).drewN q).alloc (.cells #[.int .i64 (n : Int)] 3)).heap.size = w.heap.size + 2 := by simp
      generalize (((w.alloc (.cells #[.slice A N cp] 22)).drewN q).alloc (.cells #[.int .i64 (n : Int)] 3)) = W1 at *
      have HzW := hide hzW
      clear hzW
      go_region_held3 (fun w' => w'.cell? ⟨w.heap.size + 1, 0, none⟩ = some (.int .i64 (n : Int))) (first | go_keep | (rw [World.cell?_alloc_lt _ _ _ (by simp [HzW.out])]; assumption)) (fail)
      focus (
        have hX1 := newRep W1 n
        have hX2 := newRep (W1.alloc (.cells (Array.replicate n (.int .i64 0)) 2)) n
        rw [show (W1.alloc (.cells (Array.replicate n (.int .i64 0)) 2)).heap.size = W1.heap.size + 1 from by simp] at hX2
        have h1 : Bk ((W1.alloc (.cells (Array.replicate n (.int .i64 0)) 2)).alloc (.cells (Array.replicate n (.int .i64 0)) 2)).drew W1.heap.size 2 (iv (List.replicate n 0)) := hX1.alloc _
        have h2 : Bk ((W1.alloc (.cells (Array.replicate n (.int .i64 0)) 2)).alloc (.cells (Array.replicate n (.int .i64 0)) 2)).drew (W1.heap.size + 1) 2 (iv (List.replicate n 0)) := hX2
        clear hX1 hX2
        have hbX : Below W1.heap.size W1 ((W1.alloc (.cells (Array.replicate n (.int .i64 0)) 2)).alloc (.cells (Array.replicate n (.int .i64 0)) 2)).drew := below_drewN (((Below.refl _ _).alloc (Nat.le_refl _) _).alloc (by simp) _) 1
        have hcn2 := (hbX.cell (p := ⟨w.heap.size + 1, 0, none⟩) (by show w.heap.size + 1 < _; rw [HzW.out]; omega)).trans hcn
        have hcw2 := (hbX.cell (p := ⟨w.heap.size, 0, none⟩) (by show w.heap.size < _; rw [HzW.out]; omega)).trans hcw
        have hb2 := hbW.trans (hbX.mono (by rw [HzW.out]; omega))
        generalize ((W1.alloc (.cells (Array.replicate n (.int .i64 0)) 2)).alloc (.cells (Array.replicate n (.int .i64 0)) 2)).drew = W2 at *
        have hgA0 : w.heap.size + 2 ≤ W1.heap.size := by rw [HzW.out]; omega
        clear HzW hbX hbW hcn hcw
        have hne : W1.heap.size ≠ W1.heap.size + 1 := by omega
        have hA := h1
        have hB := h2
        have hgA : w.heap.size + 2 ≤ W1.heap.size := hgA0
        have hgB : w.heap.size + 2 ≤ W1.heap.size + 1 := by omega
        clear h1 h2 hgA0
        generalize W1.heap.size = ga at *
        generalize ga + 1 = gb at *
        )
      rotate_left
      focus (
        have hX1 := newRep W1 n
        have hX2 := newRep (W1.alloc (.cells (Array.replicate n (.int .i64 0)) 2)) n
        rw [show (W1.alloc (.cells (Array.replicate n (.int .i64 0)) 2)).heap.size = W1.heap.size + 1 from by simp] at hX2
        have h1 : Bk ((W1.alloc (.cells (Array.replicate n (.int .i64 0)) 2)).alloc (.cells (Array.replicate n (.int .i64 0)) 2)).drew W1.heap.size 2 (iv (List.replicate n 0)) := hX1.alloc _
        have h2 : Bk ((W1.alloc (.cells (Array.replicate n (.int .i64 0)) 2)).alloc (.cells (Array.replicate n (.int .i64 0)) 2)).drew (W1.heap.size + 1) 2 (iv (List.replicate n 0)) := hX2
        clear hX1 hX2
        have hbX : Below W1.heap.size W1 ((W1.alloc (.cells (Array.replicate n (.int .i64 0)) 2)).alloc (.cells (Array.replicate n (.int .i64 0)) 2)).drew := below_drewN (((Below.refl _ _).alloc (Nat.le_refl _) _).alloc (by simp) _) 1
        have hcn2 := (hbX.cell (p := ⟨w.heap.size + 1, 0, none⟩) (by show w.heap.size + 1 < _; rw [HzW.out]; omega)).trans hcn
        have hcw2 := (hbX.cell (p := ⟨w.heap.size, 0, none⟩) (by show w.heap.size < _; rw [HzW.out]; omega)).trans hcw
        have hb2 := hbW.trans (hbX.mono (by rw [HzW.out]; omega))
        generalize ((W1.alloc (.cells (Array.replicate n (.int .i64 0)) 2)).alloc (.cells (Array.replicate n (.int .i64 0)) 2)).drew = W2 at *
        have hgA0 : w.heap.size + 2 ≤ W1.heap.size := by rw [HzW.out]; omega
        clear HzW hbX hbW hcn hcw
        have hne : W1.heap.size + 1 ≠ W1.heap.size := by omega
        have hA := h2
        have hB := h1
        have hgA : w.heap.size + 2 ≤ W1.heap.size + 1 := by omega
        have hgB : w.heap.size + 2 ≤ W1.heap.size := hgA0
        clear h1 h2 hgA0
        generalize W1.heap.size + 1 = ga at *
        generalize W1.heap.size = gb at *
        )
      all_goals
        have cA := hA.int (k := 0) (by simp; omega)
        have fA := hA.free 0
        have hBs := hB.far (p := ⟨ga, 0, none⟩) (by show gb ≠ ga; omega) (.int .i64 1)
        have cB := hBs.int (k := 0) (by simp; omega)
        have fB := hBs.free 0
        have hA3 : Bk ((W2.setCell ⟨ga, 0, none⟩ (.int .i64 1)).setCell ⟨gb, 0, none⟩ (.int .i64 1)) ga 2 (iv (lrN xs n 0).1) := (hA.seti 0 1).far (by show ga ≠ gb; omega) _
        have hB3 : Bk ((W2.setCell ⟨ga, 0, none⟩ (.int .i64 1)).setCell ⟨gb, 0, none⟩ (.int .i64 1)) gb 2 (iv (lrN xs n 0).2) := hBs.seti 0 1
        have hb3 : Below w.heap.size w ((W2.setCell ⟨ga, 0, none⟩ (.int .i64 1)).setCell ⟨gb, 0, none⟩ (.int .i64 1)) := (hb2.setCell (p := ⟨ga, 0, none⟩) (by show w.heap.size ≤ ga; omega) _).setCell (p := ⟨gb, 0, none⟩) (by show w.heap.size ≤ gb; omega) _
        have hcn3 : ((W2.setCell ⟨ga, 0, none⟩ (.int .i64 1)).setCell ⟨gb, 0, none⟩ (.int .i64 1)).cell? ⟨w.heap.size + 1, 0, none⟩ = some (.int .i64 (n : Int)) := by
          rw [World.cell?_setCell_other _ _ _ _ (by intro e; injection e with e; omega), World.cell?_setCell_other _ _ _ _ (by intro e; injection e with e; omega)]
          exact hcn2
        have hcw3 : ((W2.setCell ⟨ga, 0, none⟩ (.int .i64 1)).setCell ⟨gb, 0, none⟩ (.int .i64 1)).cell? ⟨w.heap.size, 0, none⟩ = some (.slice A N cp) := by
          rw [World.cell?_setCell_other _ _ _ _ (by intro e; injection e with e; omega), World.cell?_setCell_other _ _ _ _ (by intro e; injection e with e; omega)]
          exact hcw2
        have HA3 := hide hA3
        have HB3 := hide hB3
        have Hb3 := hide hb3
        have Hcn3 := hide hcn3
        have Hcw3 := hide hcw3
        have Hne := hide hne
        clear hA3 hB3 hb3 hcn3 hcw3 hcn2 hcw2 hA hB hBs hb2 hne
        go_wp2
        generalize ((W2.setCell ⟨ga, 0, none⟩ (.int .i64 1)).setCell ⟨gb, 0, none⟩ (.int .i64 1)) = W3 at *
        clear cA fA cB fB
        go_loopw [33] (fun i wr => ∃ k : Nat, k + 1 ≤ r ∧ i = .int .i64 (k : Int) ∧ Hid (Bk wr ga 2 (iv (lrN xs n k).1)) ∧ Hid (Bk wr gb 2 (iv (lrN xs n k).2)) ∧ Hid (Below w.heap.size w wr) ∧ Hid (wr.cell? ⟨w.heap.size + 1, 0, none⟩ = some (.int .i64 (n : Int))) ∧ Hid (wr.cell? ⟨w.heap.size, 0, none⟩ = some (.slice A N cp))) (fun i _ => r - (intOf i).toNat)
        case atStart => exact ⟨0, by omega, rfl, HA3, HB3, Hb3, Hcn3, Hcw3⟩
        case round =>
          clear HA3 HB3 Hb3 Hcn3 Hcw3
          obtain ⟨k, hk, rfl, HA, HB, Hb, Hcn, Hcw⟩ := hrel
          obtain ⟨hl1, hl2⟩ := lrN_len xs n k
          by_cases hlt : k + 1 < r
          · have dk : decide (k < r - 1) = true := decide_eq_true (by omega)
            have dk2 : decide ((k : Int) < (r : Int) - 1) = true := decide_eq_true (by omega)
            have hx := rpB_in (xs := xs) (cs := (lrN xs n k).2) (n := n) (by omega)
            have hy := rpB_in (xs := xs) (cs := (lrN xs n k).1) (n := n) (by omega)
            have HS1 := Lib.hid (iReply (w.heap.size + 1) w.heap.size A N cp xs (some ⟨gb, 0, none⟩) n n (lrN xs n k).2 wr (hr.below Hb.out) (HB.out.rdi hl2) h5 HLen.out Hcn.out Hcw.out)
            have HS2 := Lib.hid (iReply (w.heap.size + 1) w.heap.size A N cp xs (some ⟨ga, 0, none⟩) n n (lrN xs n k).1 wr (hr.below Hb.out) (HA.out.rdi hl1) h5 HLen.out Hcn.out Hcw.out)
            have Hst : Hid (lrN xs n (k + 1) = ((lrN xs n k).1.set (rpB xs (lrN xs n k).2 n n).1 (wrap64 ((lrN xs n k).1.getD (rpB xs (lrN xs n k).2 n n).1 0 + 1)), (lrN xs n k).2.set (rpB xs (lrN xs n k).1 n n).1 (wrap64 ((lrN xs n k).2.getD (rpB xs (lrN xs n k).1 n n).1 0 + 1)))) := hide rfl
            generalize (rpB xs (lrN xs n k).2 n n).1 = x at *
            generalize (rpB xs (lrN xs n k).1 n n).1 = y at *
            generalize lrN xs n k = ab at *
            obtain ⟨us, vs⟩ := ab
            simp only at hl1 hl2 HA HB Hst
            have cx := HA.out.int (k := x) (by omega)
            have fx := HA.out.free x
            have hBv := HB.out.far (p := ⟨ga, x, none⟩) (by show gb ≠ ga; exact fun e => Hne.out e.symm) (.int .i64 (wrap64 (us.getD x 0 + 1)))
            have cy := hBv.int (k := y) (by omega)
            have fy := hBv.free y
            have HBv := hide hBv
            generalize us.getD x 0 = ux at *
            generalize vs.getD y 0 = vy at *
            clear hl1 hl2 hBv
            go_wp2_with (first | (go_at_call 42; with_reducible refine HS1.out.mono ?_; rintro e w' ⟨rfl, rfl⟩) | (go_at_call 42; with_reducible refine HS2.out.mono ?_; rintro e w' ⟨rfl, rfl⟩))
            go_roundw
            case measure => simp [intOf]; omega
            case rel =>
              refine ⟨k + 1, by omega, by go_num, hide ?_, hide ?_, hide ?_, hide ?_, hide ?_⟩
              · rw [Hst.out]
                exact (HA.out.seti x _).far (by show ga ≠ gb; exact Hne.out) _
              · rw [Hst.out]
                exact HBv.out.seti y _
              · exact (Hb.out.setCell (p := ⟨ga, x, none⟩) (by show w.heap.size ≤ ga; omega) _).setCell (p := ⟨gb, y, none⟩) (by show w.heap.size ≤ gb; omega) _
              · rw [World.cell?_setCell_other _ _ _ _ (by intro e; injection e with e; omega), World.cell?_setCell_other _ _ _ _ (by intro e; injection e with e; omega)]
                exact Hcn.out
              · rw [World.cell?_setCell_other _ _ _ _ (by intro e; injection e with e; omega), World.cell?_setCell_other _ _ _ _ (by intro e; injection e with e; omega)]
                exact Hcw.out
          · have HR2 : Hid (R = ((lrN xs n k).1, (lrN xs n k).2, true)) := hide (by rw [HR.out, show r - 1 = k from by omega])
            have dk : decide (k < r - 1) = false := decide_eq_false (by omega)
            have dk2 : decide ((k : Int) < (r : Int) - 1) = false := decide_eq_false (by omega)
            have Hl1 := hide hl1
            have Hl2 := hide hl2
            have hza := HA.out.lt
            have hzb := HB.out.lt
            clear HR hl1 hl2
            go_wp2
            go_ret3
            refine ⟨.slice (some ⟨ga, 0, none⟩) n n, .slice (some ⟨gb, 0, none⟩) n n, ⟨ga, ga + 1, gb, gb + 1, by omega, by omega, by omega, by omega, by have := Hne.out; omega, ?_, ?_⟩, ?_, Hb.out⟩
            · rw [HR2.out]
              exact HA.out.owned2 Hl1.out (Nat.le_refl _) (by omega) (by unfold maxLen; omega)
            · rw [HR2.out]
              exact HB.out.owned2 Hl2.out (Nat.le_refl _) (by omega) (by unfold maxLen; omega)
            · rw [HR2.out]
              rfl
end Go.Proofs.Ytafhfcpaofgikaa
