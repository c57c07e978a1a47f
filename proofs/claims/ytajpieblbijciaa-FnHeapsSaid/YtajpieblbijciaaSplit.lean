/- Contracts of SplitValues, both sides. Conditions: none but what is stated. Printed by gen_split.py. -/
import Derived.Test.YtajpieblbijciaaMex
import Derived.Deep.RegionHeld3
namespace Go.Proofs.Ytajpieblbijciaa
open Go.ChangeShapes Go.WideShapes Go.ChangeAt Go.RowKit

/-- the values of what the first i ways to take t of k leave -/
def svR (out : List Int) (k t i : Nat) : List Int := (List.range i).map fun a => bits .xor .i64 (out.getD a 0) (out.getD (k - t - a) 0)
theorem svR_zero (out : List Int) (k t : Nat) : svR out k t 0 = [] := rfl
theorem svR_succ (out : List Int) (k t i : Nat) : svR out k t (i + 1) = svR out k t i ++ [bits .xor .i64 (out.getD i 0) (out.getD (k - t - i) 0)] := by
  simp [svR, List.range_succ]
theorem svR_len (out : List Int) (k t i : Nat) : (svR out k t i).length = i := by simp [svR]
/-- what all ways to take fewer than t leave -/
def svT (out : List Int) (k : Nat) : Nat → List Int
  | 0 => []
  | t + 1 => svT out k t ++ svR out k (t + 1) (k - t)
theorem svT_len (out : List Int) (k t : Nat) : (svT out k t).length ≤ t * k := by
  induction t with
  | zero => simp [svT]
  | succ t ih => simp only [svT, List.length_append, svR_len, Nat.succ_mul]; omega
/-- the values of the rows up to size k - 1 -/
def svTo : Nat → List Int
  | 0 => []
  | k + 1 => svTo k ++ [(mex (svT (svTo k) k 2) : Int)]
theorem svTo_len (k : Nat) : (svTo k).length = k := by
  induction k with
  | zero => rfl
  | succ k ih => simp [svTo, ih]
def svOk (n : Int) : Bool := inB n 0 60
def RSplitValues (n : Int) : List Int × Bool := if svOk n = true then (svTo (n.toNat + 1), true) else ([], false)
theorem RSplitValues_len0 (n : Int) : (RSplitValues n).1.length ≤ 1048576 := by
  unfold RSplitValues
  split
  · rename_i h
    have := inB_iff.1 h
    rw [svTo_len]; omega
  · simp

theorem OwnL.alloc {w : World} {lo : Nat} {v : Value} {xs : List Int} (h : OwnL w lo v xs) (o : Obj) : OwnL (w.alloc o) lo v xs := World.ownsRow.alloc h o
/-- 'append(out, y)' of one integer at a step of a region that draws -/
theorem step_app1 {w : World} {ops : Array Oper} {o : Oper} {a : Act} {K : Act → World → Prop} {Q : Exit → Act → World → Prop} {E : Prop} {lo g : Nat} {v : Value} {xs : List Int} {y : Int}
    (hgd : o.guard = none) {s x : Operand}
    (ho : o.op = .call { callee := .builtin .append, args := #[s, x], argTypes := #[25, 25] })
    (hs : a.eval s = v) (hx : a.eval x = .slice (some ⟨g, 0, none⟩) 1 1)
    (hown : OwnL w lo v xs) (hc : w.cell? ⟨g, 0, none⟩ = some (.int .i64 y)) (hn : xs.length ≤ 1048576) (hlo : lo ≤ w.heap.size)
    (h : ∀ v' w', OwnL w' lo v' (xs ++ [y]) → w.grownBy w' v.ownBlock → K (a.put o.dst v') w') :
    if Region.wanted o (yielded ops a.tmps) = true then Oper.wp Try.prog o a w K Q else E := by
  obtain ⟨i0, hi, hz0, hz1, hz2⟩ := info_parts info_i64
  refine step_append_lies w hgd s x 25 ho lo 2 i0 (.int .i64 0) 1 8 Try.underlying25 hi hz0 hz1 hz2 rfl (by decide) v xs.length (iv xs) hs hown ⟨g, 0, none⟩ 1 1 [.int .i64 y] hx rfl ?_ ?_ (by decide) ?_ ?_ hlo _ rfl ?_
  · intro j u hj
    match j, hj with
    | 0, hj =>
      simp at hj
      subst hj
      rw [Addr.add_lit]
      exact hc
  · intro u hu
    simp at hu
    subst hu
    rfl
  · unfold maxLen; omega
  · omega
  · intro g' cap w1 hown1 hgrow _ _
    refine h _ w1 ?_ hgrow
    have e : (xs ++ [y]).length = xs.length + 1 := by simp
    have e2 : iv xs ++ [.int .i64 y] = iv (xs ++ [y]) := by simp [iv]
    unfold OwnL
    rw [e, ← e2]
    exact hown1

set_option maxRecDepth 100000 in
set_option maxHeartbeats 3200000 in
theorem sSplitValues (n : Int) (w : World) (_wf : (Lit.int .i64 n).wf = true) :
    Calls Try.prog 22 #[.int .i64 n] w fun e w' => ∃ r, e = .returned (.tuple #[r, .bool (RSplitValues n).2]) ∧ Own w' w.heap.size w'.heap.size r (RSplitValues n).1 ∧ Below w.heap.size w w' := by
  cases hq : inB n 0 60 with
  | false =>
    rw [show RSplitValues n = ([], false) from by rw [RSplitValues, if_neg (by simp [svOk, hq])]]
    have HI := Lib.hid (sIn n 0 60 w)
    rw [hq] at HI
    go_enter Try.func22, Try.ntmps22
    go_wp2_with (go_at_call 32; refine HI.out.mono ?_; rintro e w' ⟨rfl, rfl⟩)
    go_ret2
    exact ⟨_, rfl, Own.nil _ _ _, Below.refl _ _⟩
  | true =>
    obtain ⟨hn0, hn60⟩ := inB_iff.1 hq
    obtain ⟨n, rfl⟩ := Int.eq_ofNat_of_zero_le hn0
    rw [show RSplitValues (n : Int) = (svTo (n + 1), true) from by rw [RSplitValues, if_pos (by simp [svOk, hq])]; rfl]
    have HI := Lib.hid (sIn (n : Int) 0 60 w)
    rw [hq] at HI
    have hn : n ≤ 60 := by omega
    clear hn0 hn60 hq
    go_enter Try.func22, Try.ntmps22
    go_wp2_with (go_at_call 32; refine HI.out.mono ?_; rintro e w' ⟨rfl, rfl⟩)
    go_loopw [4, 5] (fun r i wr => ∃ k H : Nat, k ≤ n + 1 ∧ i = .int .i64 k ∧ Hid (wr.heap.size = H) ∧ OwnL wr w.heap.size r (svTo k) ∧ Below w.heap.size w wr) (fun _ i _ => n + 2 - (intOf i).toNat)
    case atStart => exact ⟨0, _, Nat.zero_le _, rfl, hide rfl, OwnL.empty _ _ rfl (Nat.le_refl _), (Below.refl _ _).alloc (Nat.le_refl _) _⟩
    case round =>
      obtain ⟨k, H, hk, rfl, hH, ho, hb⟩ := hrel
      by_cases hlt : k < n + 1
      · have dk1 : decide (k ≤ n) = true := decide_eq_true (by omega)
        have dk2 : decide (k < n + 1) = true := decide_eq_true hlt
        have dk3 : decide ((k : Int) < (n : Int) + 1) = true := decide_eq_true (by omega)
        have Hst : Hid (svTo (k + 1) = svTo k ++ [(mex (svT (svTo k) k 2) : Int)]) := hide rfl
        have hlo := svTo_len k
        generalize svTo k = out at *
        have hoo := ho.own
        rw [hH.out] at hoo
        obtain ⟨B, d, e, hd1, hd2, -, hB0⟩ := hoo.form
        rw [hlo] at e hd1
        subst e
        have Hlo := hide hlo
        have HB0 := hide hB0
        clear hlo ho hB0
        have hsz := hb.size
        rw [hH.out] at hsz
        have Hal : Hid (∀ o, H ≤ (wr.alloc o).heap.size) := hide fun o => by
          rw [← hH.out]
          exact ((Below.refl _ wr).alloc (Nat.le_refl _) o).size
        go_wp2
        go_loopw [6, 7] (fun l i w2 => ∃ t : Nat, 1 ≤ t ∧ t ≤ 3 ∧ i = .int .i64 (t : Int) ∧ OwnL w2 H l (svT out k (t - 1)) ∧ Own w2 w.heap.size H (.slice B k d) out ∧ Below w.heap.size w w2 ∧ Hid (H ≤ w2.heap.size)) (fun _ i _ => 4 - (intOf i).toNat)
        case atStart => exact ⟨1, Nat.le_refl _, by omega, rfl, OwnL.empty _ _ rfl (by rw [hH.out]; exact Nat.le_refl _), hoo.below ((Below.refl _ _).alloc (Nat.le_refl _) _), hb.alloc hb.size _, hide (Hal.out _)⟩
        case round =>
          obtain ⟨t, ht1, ht, rfl, hl, ho2, hb2, hH2⟩ := hrel
          by_cases ht2 : t < 3
          · have dt2 : decide (t ≤ 2) = true := decide_eq_true (by omega)
            have dt3 : decide ((t : Int) ≤ 2) = true := decide_eq_true (by omega)
            have hll := svT_len out k (t - 1)
            have hll2 : (svT out k (t - 1)).length ≤ 120 := by
              have : (t - 1) * k ≤ 1 * 60 := Nat.mul_le_mul (by omega) (by omega)
              omega
            have Hst2 : Hid (svT out k t = svT out k (t - 1) ++ svR out k t (k + 1 - t)) := hide (by
              obtain ⟨tm, rfl⟩ : ∃ tm, t = tm + 1 := ⟨t - 1, by omega⟩
              rw [Nat.add_sub_cancel, show k + 1 - (tm + 1) = k - tm from by omega]
              rfl)
            generalize svT out k (t - 1) = L0 at *
            clear hll
            go_wp2
            go_loopw [6, 8] (fun l0 i w3 => ∃ (j : Nat) (l : Value), j ≤ k + 1 - t ∧ i = .int .i64 j ∧ l = l0 ∧ OwnL w3 H l (L0 ++ svR out k t j) ∧ Own w3 w.heap.size H (.slice B k d) out ∧ Below w.heap.size w w3 ∧ Hid (H ≤ w3.heap.size)) (fun _ i _ => k + 1 - (intOf i).toNat)
            case atStart => exact ⟨0, _, Nat.zero_le _, rfl, rfl, by rw [svR_zero, List.append_nil]; exact hl, ho2, hb2, hH2⟩
            case round =>
              obtain ⟨j, l, hj, rfl, rfl, hl3, ho3, hb3, hH3⟩ := hrel
              obtain ⟨w3, rfl⟩ : ∃ w3 : World, w3 = wr := ⟨_, rfl⟩
              by_cases hjn : j < k + 1 - t
              · have dj1 : decide (j + t ≤ k) = true := decide_eq_true (by omega)
                have dj2 : decide ((j : Int) + (t : Int) ≤ (k : Int)) = true := decide_eq_true (by omega)
                have Hs : Hid (L0 ++ svR out k t (j + 1) = (L0 ++ svR out k t j) ++ [bits .xor .i64 (out.getD j 0) (out.getD (k - t - j) 0)]) := hide (by rw [svR_succ, List.append_assoc])
                have hlen : (L0 ++ svR out k t j).length ≤ 200 := by rw [List.length_append, svR_len]; omega
                obtain ⟨bd, rfl, hbb, hc1⟩ := ho3.rd.1.int (k := j) (by omega)
                obtain ⟨bd', e', hbb', hc2⟩ := ho3.rd.1.int (k := k - t - j) (by omega)
                cases e'
                obtain ⟨e0, hbl, hbh⟩ := HB0.out _ rfl
                obtain ⟨gb, rfl⟩ : ∃ gb, bd = ⟨gb, 0, none⟩ := ⟨_, e0⟩
                clear e0
                rw [Addr.add_lit, Nat.zero_add] at hc1 hc2
                generalize out.getD j 0 = y at *
                generalize out.getD (k - t - j) 0 = z at *
                generalize hT : L0 ++ svR out k t j = T at *
                have e1 : IntKind.i64.wrap ((k : Int) - (t : Int)) = (k : Int) - (t : Int) := IntWalk.i64_in _ (by omega)
                have hu0 : k - t - j < k := by omega
                have e2 : IntKind.i64.wrap ((k : Int) - (t : Int) - (j : Int)) = ((k - t - j : Nat) : Int) := by rw [show (k : Int) - (t : Int) - (j : Int) = ((k - t - j : Nat) : Int) from by omega]; exact IntWalk.i64_in _ (by omega)
                generalize k - t - j = u at *
                have f0 : 0 ≤ (j : Int) := by omega
                have f1 : (j : Int) < (k : Int) := by omega
                have f2 : 0 ≤ (u : Int) := by omega
                have f3 : (u : Int) < (k : Int) := by omega
                have Hlt := hide (fun g hg => (hl3.lt g hg).1)
                have HH3 := hH3.out
                have hne : some gb ≠ l.ownBlock := by
                  intro e
                  have := hl3.lt gb e.symm
                  have : gb < H := hbh
                  omega
                have Hne := hide hne
                have hgs : gb < w3.heap.size := hbb
                have Hl3 := hide hlen
                clear hT hlen hne hll2
                have hc1' := hc1
                have hc2' := hc2
                go_wp2
                go_region_held3 (fun w' => w'.cell? ⟨gb, j, none⟩ = some (.int .i64 y) ∧ w'.cell? ⟨gb, u, none⟩ = some (.int .i64 z))
                  (first
                    | exact ⟨hc1', hc2'⟩
                    | go_keep
                    | (go_split_ands; refine ⟨?_, ?_⟩ <;> (rw [hgrow.cell_far _ (by show gb < _; simp; omega) Hne.out]; first | assumption | (rw [World.cell?_alloc_lt _ _ _ (by show gb < _; omega)]; assumption))))
                  ((refine step_app1 (by rfl) (by rfl) (by rfl) (by rfl) (OwnL.alloc hl3 _) (g := w3.heap.size) (y := bits .xor .i64 y z) (by show (w3.alloc _).cell? _ = _; rw [World.cell?_alloc_at _ _ _ _ rfl]; rfl) (by have := Hl3.out; omega) (by simp; omega) ?_; intro v4 w4 ho4 hgrow))
                go_wp2
                have hg' : w3.grownBy w4 l.ownBlock := (World.grownBy_alloc w3 _ _).trans (⟨hgrow.os, hgrow.tape, hgrow.output, hgrow.size, hgrow.block⟩ : (w3.alloc (.cells #[.int .i64 (bits .xor .i64 y z)] 2)).grownBy w4 l.ownBlock)
                go_roundw
                case measure => simp [intOf]; omega
                case rel => exact ⟨j + 1, v4, by omega, by go_num, rfl, by rw [Hs.out]; exact ho4, ho3.grown hg' (fun g hg => Or.inr (Hlt.out g hg)), hb3.grown hg' (by omega) (fun g hg => by have := Hlt.out g hg; omega), hide (by have := hg'.size; omega)⟩
              · have dj1 : decide (j + t ≤ k) = false := decide_eq_false (by omega)
                have dj2 : decide ((j : Int) + (t : Int) ≤ (k : Int)) = false := decide_eq_false (by omega)
                have hjk : j = k + 1 - t := by omega
                have hl4 : OwnL w3 H l (svT out k t) ∨ True := .inr trivial
                have Hl : Hid (OwnL w3 H l (L0 ++ svR out k t (k + 1 - t))) := hide (by rw [← hjk]; exact hl3)
                rw [← Hst2.out] at Hl
                have hj2 : t + 1 ≤ 3 := by omega
                clear hl3 hl4 hjk hll2
                go_wp2
                go_roundw
                case measure => simp [intOf]; omega
                case rel => exact ⟨t + 1, by omega, hj2, by go_num, Hl.out, ho3, hb3, hH3⟩
          · have ht2' : t = 3 := by omega
            subst ht2'
            have hl : OwnL wr H _ (svT out k 2) := hl
            have hll := svT_len out k 2
            generalize svT out k 2 = T at *
            have HM := Lib.hid (sMex _ T _ hl.own.rv (by omega))
            generalize (mex T : Int) = y at *
            have ho3 := ho2.l
            have Hl3 : Hid (out.length ≤ 1048576) := hide (by rw [Hlo.out]; omega)
            have HH2 := hH2.out
            have Hlt := hide (fun g hg => (ho3.lt g hg).1)
            clear ho2 hl hll
            go_wp2_with (first | (go_at_call 39; refine HM.out.mono ?_; rintro e w' ⟨rfl, rfl⟩) | (at_builtin; refine app1 ho3 Hl3.out (by omega) rfl rfl rfl rfl ?_; intro v' w4 ho4 hg4))
            go_roundw
            case rel => exact ⟨k + 1, _, by omega, by go_num, hide rfl, by rw [Hst.out]; exact ho4, hb2.grown hg4 (by omega) Hlt.out⟩
            case measure => simp [intOf]; omega
      · have hkn : k = n + 1 := by omega
        subst hkn
        go_wp2
        go_ret2
        exact ⟨_, rfl, ho.own, hb⟩

set_option maxRecDepth 100000 in
set_option maxHeartbeats 3200000 in
theorem iSplitValues (n : Int) (w : World) (_wf : (Lit.int .i64 n).wf = true) :
    Calls Try.prog 23 #[.int .i64 n] w fun e w' => ∃ r, e = .returned (.tuple #[r, .bool (RSplitValues n).2]) ∧ Own w' w.heap.size w'.heap.size r (RSplitValues n).1 ∧ Below w.heap.size w w' := by
  cases hq : inB n 0 60 with
  | false =>
    rw [show RSplitValues n = ([], false) from by rw [RSplitValues, if_neg (by simp [svOk, hq])]]
    have HI := Lib.hid (iIn n 0 60 w)
    rw [hq] at HI
    go_enter Try.func23, Try.ntmps23
    go_wp2_with (go_at_call 34; refine HI.out.mono ?_; rintro e w' ⟨rfl, rfl⟩)
    go_ret2
    exact ⟨_, rfl, Own.nil _ _ _, Below.refl _ _⟩
  | true =>
    obtain ⟨hn0, hn60⟩ := inB_iff.1 hq
    obtain ⟨n, rfl⟩ := Int.eq_ofNat_of_zero_le hn0
    rw [show RSplitValues (n : Int) = (svTo (n + 1), true) from by rw [RSplitValues, if_pos (by simp [svOk, hq])]; rfl]
    have HI := Lib.hid (iIn (n : Int) 0 60 w)
    rw [hq] at HI
    have hn : n ≤ 60 := by omega
    clear hn0 hn60 hq
    go_enter Try.func23, Try.ntmps23
    go_wp2_with (go_at_call 34; refine HI.out.mono ?_; rintro e w' ⟨rfl, rfl⟩)
    go_loopw [4, 15] (fun r i wr => ∃ k H : Nat, k ≤ n + 1 ∧ i = .int .i64 k ∧ Hid (wr.heap.size = H) ∧ OwnL wr w.heap.size r (svTo k) ∧ Below w.heap.size w wr) (fun _ i _ => n + 2 - (intOf i).toNat)
    case atStart => exact ⟨0, _, Nat.zero_le _, rfl, hide rfl, OwnL.empty _ _ rfl (Nat.le_refl _), (Below.refl _ _).alloc (Nat.le_refl _) _⟩
    case round =>
      obtain ⟨k, H, hk, rfl, hH, ho, hb⟩ := hrel
      by_cases hlt : k < n + 1
      · have dk1 : decide (k ≤ n) = true := decide_eq_true (by omega)
        have dk2 : decide (k < n + 1) = true := decide_eq_true hlt
        have dk3 : decide ((k : Int) < (n : Int) + 1) = true := decide_eq_true (by omega)
        have Hst : Hid (svTo (k + 1) = svTo k ++ [(mex (svT (svTo k) k 2) : Int)]) := hide rfl
        have hlo := svTo_len k
        generalize svTo k = out at *
        have hoo := ho.own
        rw [hH.out] at hoo
        obtain ⟨B, d, e, hd1, hd2, -, hB0⟩ := hoo.form
        rw [hlo] at e hd1
        subst e
        have Hlo := hide hlo
        have HB0 := hide hB0
        clear hlo ho hB0
        have hsz := hb.size
        rw [hH.out] at hsz
        have Hal : Hid (∀ o, H ≤ (wr.alloc o).heap.size) := hide fun o => by
          rw [← hH.out]
          exact ((Below.refl _ wr).alloc (Nat.le_refl _) o).size
        go_wp2
        go_loopw [6, 7] (fun l i w2 => ∃ t : Nat, 1 ≤ t ∧ t ≤ 3 ∧ i = .int .i64 (t : Int) ∧ OwnL w2 H l (svT out k (t - 1)) ∧ Own w2 w.heap.size H (.slice B k d) out ∧ Below w.heap.size w w2 ∧ Hid (H ≤ w2.heap.size)) (fun _ i _ => 4 - (intOf i).toNat)
        case atStart => exact ⟨1, Nat.le_refl _, by omega, rfl, OwnL.empty _ _ rfl (by rw [hH.out]; exact Nat.le_refl _), hoo.below ((Below.refl _ _).alloc (Nat.le_refl _) _), hb.alloc hb.size _, hide (Hal.out _)⟩
        case round =>
          obtain ⟨t, ht1, ht, rfl, hl, ho2, hb2, hH2⟩ := hrel
          by_cases ht2 : t < 3
          · have dt2 : decide (t ≤ 2) = true := decide_eq_true (by omega)
            have dt3 : decide ((t : Int) ≤ 2) = true := decide_eq_true (by omega)
            have hll := svT_len out k (t - 1)
            have hll2 : (svT out k (t - 1)).length ≤ 120 := by
              have : (t - 1) * k ≤ 1 * 60 := Nat.mul_le_mul (by omega) (by omega)
              omega
            have Hst2 : Hid (svT out k t = svT out k (t - 1) ++ svR out k t (k + 1 - t)) := hide (by
              obtain ⟨tm, rfl⟩ : ∃ tm, t = tm + 1 := ⟨t - 1, by omega⟩
              rw [Nat.add_sub_cancel, show k + 1 - (tm + 1) = k - tm from by omega]
              rfl)
            generalize svT out k (t - 1) = L0 at *
            clear hll
            go_wp2
            go_loopw [6, 8] (fun l0 i w3 => ∃ (j : Nat) (l : Value), j ≤ k + 1 - t ∧ i = .int .i64 j ∧ l = l0 ∧ OwnL w3 H l (L0 ++ svR out k t j) ∧ Own w3 w.heap.size H (.slice B k d) out ∧ Below w.heap.size w w3 ∧ Hid (H ≤ w3.heap.size)) (fun _ i _ => k + 1 - (intOf i).toNat)
            case atStart => exact ⟨0, _, Nat.zero_le _, rfl, rfl, by rw [svR_zero, List.append_nil]; exact hl, ho2, hb2, hH2⟩
            case round =>
              obtain ⟨j, l, hj, rfl, rfl, hl3, ho3, hb3, hH3⟩ := hrel
              obtain ⟨w3, rfl⟩ : ∃ w3 : World, w3 = wr := ⟨_, rfl⟩
              by_cases hjn : j < k + 1 - t
              · have dj1 : decide (j + t ≤ k) = true := decide_eq_true (by omega)
                have dj2 : decide ((j : Int) + (t : Int) ≤ (k : Int)) = true := decide_eq_true (by omega)
                have Hs : Hid (L0 ++ svR out k t (j + 1) = (L0 ++ svR out k t j) ++ [bits .xor .i64 (out.getD j 0) (out.getD (k - t - j) 0)]) := hide (by rw [svR_succ, List.append_assoc])
                have hlen : (L0 ++ svR out k t j).length ≤ 200 := by rw [List.length_append, svR_len]; omega
                obtain ⟨bd, rfl, hbb, hc1⟩ := ho3.rd.1.int (k := j) (by omega)
                obtain ⟨bd', e', hbb', hc2⟩ := ho3.rd.1.int (k := k - t - j) (by omega)
                cases e'
                obtain ⟨e0, hbl, hbh⟩ := HB0.out _ rfl
                obtain ⟨gb, rfl⟩ : ∃ gb, bd = ⟨gb, 0, none⟩ := ⟨_, e0⟩
                clear e0
                rw [Addr.add_lit, Nat.zero_add] at hc1 hc2
                generalize out.getD j 0 = y at *
                generalize out.getD (k - t - j) 0 = z at *
                generalize hT : L0 ++ svR out k t j = T at *
                have e1 : IntKind.i64.wrap ((k : Int) - (t : Int)) = (k : Int) - (t : Int) := IntWalk.i64_in _ (by omega)
                have hu0 : k - t - j < k := by omega
                have e2 : IntKind.i64.wrap ((k : Int) - (t : Int) - (j : Int)) = ((k - t - j : Nat) : Int) := by rw [show (k : Int) - (t : Int) - (j : Int) = ((k - t - j : Nat) : Int) from by omega]; exact IntWalk.i64_in _ (by omega)
                generalize k - t - j = u at *
                have f0 : 0 ≤ (j : Int) := by omega
                have f1 : (j : Int) < (k : Int) := by omega
                have f2 : 0 ≤ (u : Int) := by omega
                have f3 : (u : Int) < (k : Int) := by omega
                have Hlt := hide (fun g hg => (hl3.lt g hg).1)
                have HH3 := hH3.out
                have hne : some gb ≠ l.ownBlock := by
                  intro e
                  have := hl3.lt gb e.symm
                  have : gb < H := hbh
                  omega
                have Hne := hide hne
                have hgs : gb < w3.heap.size := hbb
                have Hl3 := hide hlen
                clear hT hlen hne hll2
                have hc1' := hc1
                have hc2' := hc2
                go_wp2
                go_region_held3 (fun w' => w'.cell? ⟨gb, j, none⟩ = some (.int .i64 y) ∧ w'.cell? ⟨gb, u, none⟩ = some (.int .i64 z))
                  (first
                    | exact ⟨hc1', hc2'⟩
                    | go_keep
                    | (go_split_ands; refine ⟨?_, ?_⟩ <;> (rw [hgrow.cell_far _ (by show gb < _; simp; omega) Hne.out]; first | assumption | (rw [World.cell?_alloc_lt _ _ _ (by show gb < _; omega)]; assumption))))
                  ((refine step_app1 (by rfl) (by rfl) (by rfl) (by rfl) (OwnL.alloc hl3 _) (g := w3.heap.size) (y := bits .xor .i64 y z) (by show (w3.alloc _).cell? _ = _; rw [World.cell?_alloc_at _ _ _ _ rfl]; rfl) (by have := Hl3.out; omega) (by simp; omega) ?_; intro v4 w4 ho4 hgrow))
                go_wp2
                have hg' : w3.grownBy w4 l.ownBlock := (World.grownBy_alloc w3 _ _).trans (⟨hgrow.os, hgrow.tape, hgrow.output, hgrow.size, hgrow.block⟩ : (w3.alloc (.cells #[.int .i64 (bits .xor .i64 y z)] 2)).grownBy w4 l.ownBlock)
                go_roundw
                case measure => simp [intOf]; omega
                case rel => exact ⟨j + 1, v4, by omega, by go_num, rfl, by rw [Hs.out]; exact ho4, ho3.grown hg' (fun g hg => Or.inr (Hlt.out g hg)), hb3.grown hg' (by omega) (fun g hg => by have := Hlt.out g hg; omega), hide (by have := hg'.size; omega)⟩
              · have dj1 : decide (j + t ≤ k) = false := decide_eq_false (by omega)
                have dj2 : decide ((j : Int) + (t : Int) ≤ (k : Int)) = false := decide_eq_false (by omega)
                have hjk : j = k + 1 - t := by omega
                have hl4 : OwnL w3 H l (svT out k t) ∨ True := .inr trivial
                have Hl : Hid (OwnL w3 H l (L0 ++ svR out k t (k + 1 - t))) := hide (by rw [← hjk]; exact hl3)
                rw [← Hst2.out] at Hl
                have hj2 : t + 1 ≤ 3 := by omega
                clear hl3 hl4 hjk hll2
                go_wp2
                go_roundw
                case measure => simp [intOf]; omega
                case rel => exact ⟨t + 1, by omega, hj2, by go_num, Hl.out, ho3, hb3, hH3⟩
          · have ht2' : t = 3 := by omega
            subst ht2'
            have hl : OwnL wr H _ (svT out k 2) := hl
            have hll := svT_len out k 2
            generalize svT out k 2 = T at *
            have HM := Lib.hid (iMex _ T _ hl.own.rv (by omega))
            generalize (mex T : Int) = y at *
            have ho3 := ho2.l
            have Hl3 : Hid (out.length ≤ 1048576) := hide (by rw [Hlo.out]; omega)
            have HH2 := hH2.out
            have Hlt := hide (fun g hg => (ho3.lt g hg).1)
            clear ho2 hl hll
            go_wp2_with (first | (go_at_call 40; refine HM.out.mono ?_; rintro e w' ⟨rfl, rfl⟩) | (at_builtin; refine app1 ho3 Hl3.out (by omega) rfl rfl rfl rfl ?_; intro v' w4 ho4 hg4))
            go_roundw
            case rel => exact ⟨k + 1, _, by omega, by go_num, hide rfl, by rw [Hst.out]; exact ho4, hb2.grown hg4 (by omega) Hlt.out⟩
            case measure => simp [intOf]; omega
      · have hkn : k = n + 1 := by omega
        subst hkn
        go_wp2
        go_ret2
        exact ⟨_, rfl, ho.own, hb⟩
end Go.Proofs.Ytajpieblbijciaa
