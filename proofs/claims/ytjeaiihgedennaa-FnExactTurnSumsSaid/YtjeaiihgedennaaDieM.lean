/- Contracts of the laws' helpers on dice, and of ValidDie, both sides. Conditions: lengths at most 2^20. -/
import Derived.Test.YtjeaiihgedennaaListsM
import Derived.Test.YtjeaiihgedennaaNum
namespace Go.Proofs.Ytjeaiihgedennaa
open Go.ChangeShapes Go.WideShapes Go.ChangeAt Go.RowKit

set_option maxHeartbeats 400000 in
theorem szI (A : Option Addr) (n c l : Nat) (w : World) (hn : n ≤ 9223372036854775807) (hl : l ≤ 1048576) :
    Calls Try.prog 59 #[.slice A n c, .int .i64 (l : Int)] w fun e w' => e = .returned (.int .i64 (if l < n then -1 else (l : Int) - (n : Int))) ∧ w = w' := by
  by_cases h : l < n
  · rw [if_pos h]
    go_enter Try.func59, Try.ntmps59
    go_wp2
    go_ret
    exact ⟨rfl, rfl⟩
  · rw [if_neg h]
    go_enter Try.func59, Try.ntmps59
    go_wp2
    go_ret
    exact ⟨rfl, rfl⟩
set_option maxHeartbeats 400000 in
theorem szD (A : Option Addr) (n c l : Nat) (w : World) (hn : n ≤ 9223372036854775807) (hl : l ≤ 1048576) :
    Calls Try.prog 36 #[.agg #[.slice A n c], .int .i64 (l : Int)] w fun e w' => e = .returned (.int .i64 (if l < n then -1 else (l : Int) - (n : Int))) ∧ Below w.heap.size w w' := by
  have H := Lib.hid (fun W => szI A n c l W hn hl)
  by_cases h : l < n
  · simp only [if_pos h] at H ⊢
    go_enter Try.func36, Try.ntmps36
    go_wp2_with (go_at_call 59; refine (H.out _).mono ?_; rintro e w' ⟨rfl, rfl⟩)
    go_ret
    exact ⟨rfl, (Below.refl _ _).alloc (Nat.le_refl _) _⟩
  · simp only [if_neg h] at H ⊢
    go_enter Try.func36, Try.ntmps36
    go_wp2_with (go_at_call 59; refine (H.out _).mono ?_; rintro e w' ⟨rfl, rfl⟩)
    go_ret
    exact ⟨rfl, (Below.refl _ _).alloc (Nat.le_refl _) _⟩

theorem three (w : World) (o : Obj) (t : TypeId) (v1 v2 : Value) : Bk (((w.alloc o).alloc (.cells #[v1] t)).alloc (.cells #[v2] t)) (w.heap.size + 1) t [v1] ∧ Bk (((w.alloc o).alloc (.cells #[v1] t)).alloc (.cells #[v2] t)) (w.heap.size + 1 + 1) t [v2] := by
  have h1 := (Bk.new (w.alloc o) t [v1]).alloc (.cells #[v2] t)
  have h2 := Bk.new ((w.alloc o).alloc (.cells #[v1] t)) t [v2]
  rw [show (w.alloc o).heap.size = w.heap.size + 1 from by simp] at h1
  rw [show ((w.alloc o).alloc (.cells #[v1] t)).heap.size = w.heap.size + 1 + 1 from by simp] at h2
  exact ⟨h1, h2⟩
set_option maxHeartbeats 400000 in
theorem toD (v : Value) (xs : List Int) (w : World) (hv : RV w v xs) (hn : xs.length ≤ 1048576) :
    Calls Try.prog 43 #[.agg #[v]] w fun e w' => ∃ r, e = .returned (.agg #[r]) ∧ Own w' w.heap.size w'.heap.size r xs ∧ Below w.heap.size w w' := by
  obtain ⟨A, c, rfl, hr, hc⟩ := hv
  have H := Lib.hid (fun W (h : Rd W A xs.length (iv xs)) => toI A xs.length c xs W h hn)
  obtain ⟨n, Hl⟩ : ∃ n, Hid (xs.length = n) := ⟨_, hide rfl⟩
  rw [Hl.out] at H hr hc hn ⊢
  go_enter Try.func43, Try.ntmps43
  go_wp2_with (go_at_call 25; refine (H.out _ (((hr.alloc _).alloc _).alloc _)).mono ?_; rintro e w2 ⟨g, rfl, hB, hg, hb⟩; obtain ⟨q1, q2⟩ := three w (.cells #[.slice A n c] 54) 62 (.slice none 0 0) (.slice none 0 0); have q1' := q1.below hb (by simp); have q2' := q2.below hb (by simp); have c1 : w2.cell? ⟨w.heap.size + 1, 0, none⟩ = some (.slice none 0 0) := (q1'.cell 0).trans rfl; have c2 : w2.cell? ⟨w.heap.size + 1 + 1, 0, none⟩ = some (.slice none 0 0) := (q2'.cell 0).trans rfl; have f1 := q1'.free 0; have f2 := q2'.free 0)
  have hg2 : w.heap.size + 2 < g := by simp at hg; omega
  have hz2 : w.heap.size + 2 < w2.heap.size := by have := hB.lt; omega
  have cR : ((w2.setCell ⟨w.heap.size + 1 + 1, 0, none⟩ (.slice (some ⟨g, 0, none⟩) n n)).setCell ⟨w.heap.size + 1, 0, none⟩ (.slice (some ⟨g, 0, none⟩) n n)).cell? ⟨w.heap.size + 1, 0, none⟩ = some (.slice (some ⟨g, 0, none⟩) n n) :=
    (((q1'.far (p := ⟨w.heap.size + 1 + 1, 0, none⟩) (by show w.heap.size + 1 ≠ w.heap.size + 1 + 1; omega) _).set 0 (.slice (some ⟨g, 0, none⟩) n n)).cell 0).trans rfl
  have hB2 : Bk ((w2.setCell ⟨w.heap.size + 1 + 1, 0, none⟩ (.slice (some ⟨g, 0, none⟩) n n)).setCell ⟨w.heap.size + 1, 0, none⟩ (.slice (some ⟨g, 0, none⟩) n n)) g 2 (iv xs) := (hB.far (p := ⟨w.heap.size + 1 + 1, 0, none⟩) (by show g ≠ w.heap.size + 1 + 1; omega) _).far (p := ⟨w.heap.size + 1, 0, none⟩) (by show g ≠ w.heap.size + 1; omega) _
  have hbb : Below w.heap.size w ((w2.setCell ⟨w.heap.size + 1 + 1, 0, none⟩ (.slice (some ⟨g, 0, none⟩) n n)).setCell ⟨w.heap.size + 1, 0, none⟩ (.slice (some ⟨g, 0, none⟩) n n)) :=
    ((((((Below.refl _ _).alloc (Nat.le_refl _) _).alloc (by simp) _).alloc (by simp; omega) _).trans (hb.mono (by simp; omega))).setCell (p := ⟨w.heap.size + 1 + 1, 0, none⟩) (by show w.heap.size ≤ w.heap.size + 1 + 1; omega) _).setCell (p := ⟨w.heap.size + 1, 0, none⟩) (by show w.heap.size ≤ w.heap.size + 1; omega) _
  have hl := Hl.out
  subst hl
  exact bodyPost_ret (v := .agg #[.slice (some ⟨g, 0, none⟩) xs.length xs.length]) (by simp [results, Try.results43, go_sem, cR]) rfl ⟨_, rfl, hB2.owned (by omega) (by unfold maxLen; omega), hbb⟩
set_option maxHeartbeats 400000 in
theorem eqD (v u : Value) (xs : List Int) (w : World) (hv : RV w v xs) (hu : RV w u xs) (hn : xs.length ≤ 1048576) :
    Calls Try.prog 50 #[.agg #[v], .agg #[u]] w fun e w' => e = .returned (.bool true) ∧ Below w.heap.size w w' := by
  obtain ⟨A, c, rfl, hr, hc⟩ := hv
  obtain ⟨B, d, rfl, hr2, hd⟩ := hu
  have H := Lib.hid (fun W (h : Rd W A xs.length (iv xs)) (h2 : Rd W B xs.length (iv xs)) => eqI A B xs.length c d xs W h h2 hn)
  generalize xs.length = n at *
  go_enter Try.func50, Try.ntmps50
  go_wp2_with (go_at_call 27; refine (H.out _ ((hr.alloc _).alloc _) ((hr2.alloc _).alloc _)).mono ?_; rintro e w2 ⟨rfl, q, rfl⟩)
  go_ret
  exact ⟨rfl, below_drewN (((Below.refl _ _).alloc (Nat.le_refl _) _).alloc (by simp) _) q⟩
end Go.Proofs.Ytjeaiihgedennaa
