/- Contracts of PlainDie, both sides, and of the marks on dice. Conditions: what is stated. -/
import Derived.Test.YthpboedpoipkcaaDie2
namespace Go.Proofs.Ythpboedpoipkcaa
open Go.ChangeShapes Go.WideShapes Go.ChangeAt Go.RowKit

/-- the numbers from 1 to k - 1 -/
def pl : Nat → List Int
  | 0 => []
  | k + 1 => if k = 0 then [] else pl k ++ [(k : Int)]
theorem pl_one : pl 1 = [] := rfl
theorem pl_step {k : Nat} (h : 1 ≤ k) : pl (k + 1) = pl k ++ [(k : Int)] := by rw [pl, if_neg (by omega)]
theorem pl_len (k : Nat) : (pl k).length = k - 1 := by
  induction k with
  | zero => rfl
  | succ k ih =>
    by_cases h : k = 0
    · subst h; rfl
    · rw [pl_step (by omega), List.length_append, ih]; simp; omega

theorem two (w : World) (t : TypeId) (v1 v2 : Value) : Bk ((w.alloc (.cells #[v1] t)).alloc (.cells #[v2] t)) w.heap.size t [v1] ∧ Bk ((w.alloc (.cells #[v1] t)).alloc (.cells #[v2] t)) (w.heap.size + 1) t [v2] := by
  have h1 := (Bk.new w t [v1]).alloc (.cells #[v2] t)
  have h2 := Bk.new (w.alloc (.cells #[v1] t)) t [v2]
  rw [show (w.alloc (.cells #[v1] t)).heap.size = w.heap.size + 1 from by simp] at h2
  exact ⟨h1, h2⟩

set_option maxHeartbeats 1600000 in
theorem iPlain (n : Nat) (w : World) (hn : n ≤ 12) :
    Calls Try.prog 62 #[.int .i64 (n : Int)] w fun e w' => ∃ r, e = .returned (.agg #[r]) ∧ Own w' w.heap.size w'.heap.size r (pl (n + 1)) ∧ Below w.heap.size w w' := by
  go_enter Try.func62, Try.ntmps62
  go_wp2
  obtain ⟨b1, b2⟩ := two w 27 (.slice none 0 0) (.slice none 0 0)
  go_loopw [4] (fun i wr => ∃ (k : Nat) (u : Value), 1 ≤ k ∧ k ≤ n + 1 ∧ i = .int .i64 k ∧ Bk wr w.heap.size 27 [.slice none 0 0] ∧ Bk wr (w.heap.size + 1) 27 [u] ∧ OwnL wr (w.heap.size + 2) u (pl k) ∧ Below w.heap.size w wr) (fun i _ => n + 2 - (intOf i).toNat)
  case atStart =>
    refine ⟨1, .slice none 0 0, Nat.le_refl _, by omega, rfl, ?_, ?_, by rw [pl_one]; exact OwnL.nil _ _, ?_⟩
    · exact b1
    · exact b2
    · exact ((Below.refl _ _).alloc (Nat.le_refl _) _).alloc (by simp) _
  case round =>
    obtain ⟨k, u, hk1, hk, rfl, h1, h2, ho, hb⟩ := hrel
    clear b1 b2
    have hz := h2.lt
    have Hl := pl_len k
    by_cases hlt : k ≤ n
    · have Hs := hide (pl_step hk1)
      generalize pl k = L at *
      have Hll := hide (show L.length ≤ 1048576 by omega)
      have cu : wr.cell? ⟨w.heap.size + 1, 0, none⟩ = some u := (h2.cell 0).trans rfl
      clear Hl
      go_wp2_with (at_builtin; refine app1 ho Hll.out (by omega) rfl rfl rfl rfl ?_; intro v' w3 ho3 hg3; have h13 := h1.grown hg3 (fun e => by have := (ho.lt _ e.symm).1; omega); have h23 := h2.grown hg3 (fun e => by have := (ho.lt _ e.symm).1; omega); have cu3 : w3.cell? ⟨w.heap.size + 1, 0, none⟩ = some u := (h23.cell 0).trans rfl; have fr3 := h23.free 0; obtain ⟨A5, c5, hv5, -, -, -, -⟩ := ho3.own.form; generalize (L ++ [(k : Int)]).length = l5 at hv5; subst hv5)
      go_roundw
      case rel =>
        refine ⟨k + 1, _, by omega, by omega, by go_num, h13.far (by show w.heap.size ≠ w.heap.size + 1; omega) _, h23.set 0 _, by rw [Hs.out]; exact (ho3.own.setCell (p := ⟨w.heap.size + 1, 0, none⟩) (by show w.heap.size + 1 < w.heap.size + 2; omega) _).l, (hb.grown hg3 (by omega) (fun g hg => by have := (ho.lt g hg).1; omega)).setCell (p := ⟨w.heap.size + 1, 0, none⟩) (by show w.heap.size ≤ w.heap.size + 1; omega) _⟩
      case measure => simp [intOf]; omega
    · have hkn : k = n + 1 := by omega
      subst hkn
      have cu : wr.cell? ⟨w.heap.size + 1, 0, none⟩ = some u := (h2.cell 0).trans rfl
      have fr := h1.free 0
      obtain ⟨A5, c5, hv5, -, -, -, -⟩ := ho.own.form
      generalize (pl (n + 1)).length = len at *
      subst hv5
      clear Hl
      have c1 : wr.cell? ⟨w.heap.size, 0, none⟩ = some (.slice none 0 0) := (h1.cell 0).trans rfl
      go_wp2
      have cR : (wr.setCell ⟨w.heap.size, 0, none⟩ (.slice A5 len c5)).cell? ⟨w.heap.size, 0, none⟩ = some (.slice A5 len c5) := ((h1.set 0 (.slice A5 len c5)).cell 0).trans rfl
      exact bodyPost_ret (v := .agg #[.slice A5 len c5]) (by simp [results, Try.results62, go_sem, cR]) rfl ⟨_, rfl, ((ho.own.setCell (p := ⟨w.heap.size, 0, none⟩) (by show w.heap.size < w.heap.size + 2; omega) (.slice A5 len c5)).lo (by omega)).hi (by simp), hb.setCell (p := ⟨w.heap.size, 0, none⟩) (Nat.le_refl _) _⟩

set_option maxHeartbeats 1600000 in
theorem sPlain (n : Nat) (w : World) (hn : n ≤ 12) :
    Calls Try.prog 61 #[.int .i64 (n : Int)] w fun e w' => ∃ r, e = .returned (.agg #[r]) ∧ Own w' w.heap.size w'.heap.size r (pl (n + 1)) ∧ Below w.heap.size w w' := by
  go_enter Try.func61, Try.ntmps61
  go_wp2
  obtain ⟨b1, b2⟩ := two w 27 (.slice none 0 0) (.slice none 0 0)
  go_loopw [4] (fun i wr => ∃ (k : Nat) (u : Value), 1 ≤ k ∧ k ≤ n + 1 ∧ i = .int .i64 k ∧ Bk wr w.heap.size 27 [.slice none 0 0] ∧ Bk wr (w.heap.size + 1) 27 [u] ∧ OwnL wr (w.heap.size + 2) u (pl k) ∧ Below w.heap.size w wr) (fun i _ => n + 2 - (intOf i).toNat)
  case atStart =>
    refine ⟨1, .slice none 0 0, Nat.le_refl _, by omega, rfl, ?_, ?_, by rw [pl_one]; exact OwnL.nil _ _, ?_⟩
    · exact b1
    · exact b2
    · exact ((Below.refl _ _).alloc (Nat.le_refl _) _).alloc (by simp) _
  case round =>
    obtain ⟨k, u, hk1, hk, rfl, h1, h2, ho, hb⟩ := hrel
    clear b1 b2
    have hz := h2.lt
    have Hl := pl_len k
    by_cases hlt : k ≤ n
    · have Hs := hide (pl_step hk1)
      generalize pl k = L at *
      have Hll := hide (show L.length ≤ 1048576 by omega)
      have cu : wr.cell? ⟨w.heap.size + 1, 0, none⟩ = some u := (h2.cell 0).trans rfl
      clear Hl
      go_wp2_with (at_builtin; refine app1 ho Hll.out (by omega) rfl rfl rfl rfl ?_; intro v' w3 ho3 hg3; have h13 := h1.grown hg3 (fun e => by have := (ho.lt _ e.symm).1; omega); have h23 := h2.grown hg3 (fun e => by have := (ho.lt _ e.symm).1; omega); have cu3 : w3.cell? ⟨w.heap.size + 1, 0, none⟩ = some u := (h23.cell 0).trans rfl; have fr3 := h23.free 0; obtain ⟨A5, c5, hv5, -, -, -, -⟩ := ho3.own.form; generalize (L ++ [(k : Int)]).length = l5 at hv5; subst hv5)
      go_roundw
      case rel =>
        refine ⟨k + 1, _, by omega, by omega, by go_num, h13.far (by show w.heap.size ≠ w.heap.size + 1; omega) _, h23.set 0 _, by rw [Hs.out]; exact (ho3.own.setCell (p := ⟨w.heap.size + 1, 0, none⟩) (by show w.heap.size + 1 < w.heap.size + 2; omega) _).l, (hb.grown hg3 (by omega) (fun g hg => by have := (ho.lt g hg).1; omega)).setCell (p := ⟨w.heap.size + 1, 0, none⟩) (by show w.heap.size ≤ w.heap.size + 1; omega) _⟩
      case measure => simp [intOf]; omega
    · have hkn : k = n + 1 := by omega
      subst hkn
      have cu : wr.cell? ⟨w.heap.size + 1, 0, none⟩ = some u := (h2.cell 0).trans rfl
      have fr := h1.free 0
      obtain ⟨A5, c5, hv5, -, -, -, -⟩ := ho.own.form
      generalize (pl (n + 1)).length = len at *
      subst hv5
      clear Hl
      have c1 : wr.cell? ⟨w.heap.size, 0, none⟩ = some (.slice none 0 0) := (h1.cell 0).trans rfl
      go_wp2
      have cR : (wr.setCell ⟨w.heap.size, 0, none⟩ (.slice A5 len c5)).cell? ⟨w.heap.size, 0, none⟩ = some (.slice A5 len c5) := ((h1.set 0 (.slice A5 len c5)).cell 0).trans rfl
      exact bodyPost_ret (v := .agg #[.slice A5 len c5]) (by simp [results, Try.results61, go_sem, cR]) rfl ⟨_, rfl, ((ho.own.setCell (p := ⟨w.heap.size, 0, none⟩) (by show w.heap.size < w.heap.size + 2; omega) (.slice A5 len c5)).lo (by omega)).hi (by simp), hb.setCell (p := ⟨w.heap.size, 0, none⟩) (Nat.le_refl _) _⟩

def RP (n : Int) : List Int × Bool := if inB n 1 12 then (pl (n.toNat + 1), true) else ([], false)
set_option maxHeartbeats 1600000 in
theorem iPlainDie (n : Int) (w : World) :
    Calls Try.prog 23 #[.int .i64 n] w fun e w' => ∃ r, e = .returned (.tuple #[.agg #[r], .bool (RP n).2]) ∧ Own w' w.heap.size w'.heap.size r (RP n).1 ∧ Below w.heap.size w w' := by
  have HS := Lib.hid (fun W => iIn n 1 12 W)
  have b1 := Bk.new w 27 [.slice none 0 0]
  have fr := b1.free 0
  have c1 : (w.alloc (.cells #[.slice none 0 0] 27)).cell? ⟨w.heap.size, 0, none⟩ = some (.slice none 0 0) := (b1.cell 0).trans rfl
  unfold RP
  cases hq : inB n 1 12 with
  | false =>
    rw [hq] at HS
    go_enter Try.func23, Try.ntmps23
    go_wp2_with (go_at_call 57; refine (HS.out _).mono ?_; rintro e w' ⟨rfl, rfl⟩)
    have cR := ((b1.set 0 (.slice none 0 0)).cell 0).trans rfl
    exact bodyPost_ret (v := .tuple #[.agg #[.slice none 0 0], .bool false]) (by simp [results, Try.results23, go_sem, cR]) rfl ⟨_, rfl, Own.nil _ _ _, (Below.refl _ _).alloc (Nat.le_refl _) _⟩
  | true =>
    rw [hq] at HS
    simp only [inB, Bool.and_eq_true, decide_eq_true_eq] at hq
    obtain ⟨m, rfl⟩ : ∃ m : Nat, n = (m : Int) := ⟨n.toNat, by omega⟩
    have HP := Lib.hid (fun W => iPlain m W (by omega))
    rw [show ((m : Int).toNat) = m from by omega]
    go_enter Try.func23, Try.ntmps23
    go_wp2_with (first | (go_at_call 57; refine (HS.out _).mono ?_; rintro e w' ⟨rfl, rfl⟩) | (go_at_call 62; refine (HP.out _).mono ?_; rintro e w2 ⟨r, rfl, ho, hb2⟩; have b2 := b1.below hb2 (by simp); have fr2 := b2.free 0; have c2 : w2.cell? ⟨w.heap.size, 0, none⟩ = some (.slice none 0 0) := (b2.cell 0).trans rfl; obtain ⟨A5, c5, hv5, -, -, -, -⟩ := ho.form; generalize (pl (m + 1)).length = len at *; subst hv5))
    have cR : (w2.setCell ⟨w.heap.size, 0, none⟩ (.slice A5 len c5)).cell? ⟨w.heap.size, 0, none⟩ = some (.slice A5 len c5) := ((b2.set 0 (.slice A5 len c5)).cell 0).trans rfl
    exact bodyPost_ret (v := .tuple #[.agg #[.slice A5 len c5], .bool true]) (by simp [results, Try.results23, go_sem, cR]) rfl ⟨_, rfl, ((ho.setCell (p := ⟨w.heap.size, 0, none⟩) (by show w.heap.size < _; simp) (.slice A5 len c5)).lo (by simp)).hi (by simp), (((Below.refl _ _).alloc (Nat.le_refl _) _).trans (hb2.mono (by simp))).setCell (p := ⟨w.heap.size, 0, none⟩) (Nat.le_refl _) _⟩

set_option maxHeartbeats 1600000 in
theorem sPlainDie (n : Int) (w : World) :
    Calls Try.prog 22 #[.int .i64 n] w fun e w' => ∃ r, e = .returned (.tuple #[.agg #[r], .bool (RP n).2]) ∧ Own w' w.heap.size w'.heap.size r (RP n).1 ∧ Below w.heap.size w w' := by
  have HS := Lib.hid (fun W => sIn n 1 12 W)
  have b1 := Bk.new w 27 [.slice none 0 0]
  have fr := b1.free 0
  have c1 : (w.alloc (.cells #[.slice none 0 0] 27)).cell? ⟨w.heap.size, 0, none⟩ = some (.slice none 0 0) := (b1.cell 0).trans rfl
  unfold RP
  cases hq : inB n 1 12 with
  | false =>
    rw [hq] at HS
    go_enter Try.func22, Try.ntmps22
    go_wp2_with (go_at_call 60; refine (HS.out _).mono ?_; rintro e w' ⟨rfl, rfl⟩)
    have cR := ((b1.set 0 (.slice none 0 0)).cell 0).trans rfl
    exact bodyPost_ret (v := .tuple #[.agg #[.slice none 0 0], .bool false]) (by simp [results, Try.results22, go_sem, cR]) rfl ⟨_, rfl, Own.nil _ _ _, (Below.refl _ _).alloc (Nat.le_refl _) _⟩
  | true =>
    rw [hq] at HS
    simp only [inB, Bool.and_eq_true, decide_eq_true_eq] at hq
    obtain ⟨m, rfl⟩ : ∃ m : Nat, n = (m : Int) := ⟨n.toNat, by omega⟩
    have HP := Lib.hid (fun W => sPlain m W (by omega))
    rw [show ((m : Int).toNat) = m from by omega]
    go_enter Try.func22, Try.ntmps22
    go_wp2_with (first | (go_at_call 60; refine (HS.out _).mono ?_; rintro e w' ⟨rfl, rfl⟩) | (go_at_call 61; refine (HP.out _).mono ?_; rintro e w2 ⟨r, rfl, ho, hb2⟩; have b2 := b1.below hb2 (by simp); have fr2 := b2.free 0; have c2 : w2.cell? ⟨w.heap.size, 0, none⟩ = some (.slice none 0 0) := (b2.cell 0).trans rfl; obtain ⟨A5, c5, hv5, -, -, -, -⟩ := ho.form; generalize (pl (m + 1)).length = len at *; subst hv5))
    have cR : (w2.setCell ⟨w.heap.size, 0, none⟩ (.slice A5 len c5)).cell? ⟨w.heap.size, 0, none⟩ = some (.slice A5 len c5) := ((b2.set 0 (.slice A5 len c5)).cell 0).trans rfl
    exact bodyPost_ret (v := .tuple #[.agg #[.slice A5 len c5], .bool true]) (by simp [results, Try.results22, go_sem, cR]) rfl ⟨_, rfl, ((ho.setCell (p := ⟨w.heap.size, 0, none⟩) (by show w.heap.size < _; simp) (.slice A5 len c5)).lo (by simp)).hi (by simp), (((Below.refl _ _).alloc (Nat.le_refl _) _).trans (hb2.mono (by simp))).setCell (p := ⟨w.heap.size, 0, none⟩) (Nat.le_refl _) _⟩
end Go.Proofs.Ythpboedpoipkcaa
