/- Contracts of slices.Grow of nil, slices.Concat of two slices, and of AreHands, both sides. Conditions: lengths at most 2^20. -/
import Derived.Test.YtkbeelbklganaaaApp
import Derived.Test.YtkbeelbklganaaaHas
import Derived.Lib.AppendZeros
namespace Go.Proofs.Ytkbeelbklganaaa
open Go.ChangeShapes Go.WideShapes Go.ChangeAt Go.RowKit

set_option maxHeartbeats 400000 in
theorem libGrow (n : Nat) (w : World) (h0 : 0 < n) (hn : n ≤ 1048576) :
    Calls Try.prog 67 #[.slice none 0 0, .int .i64 (n : Int)] w fun e w' => ∃ r, e = .returned r ∧ OwnL w' w.heap.size r [] ∧ Below w.heap.size w w' := by
  obtain ⟨i0, hi, hz0, hz1, hz2⟩ := info_parts info_i64
  have hrz : ∀ ty, (Builtin.append_ #[22, 3] ty #[.slice none 0 0, .int .i64 (n : Int)]).run Try.prog w =
      .ok (.slice (some ⟨w.heap.size, 0, none⟩) n (grownCap w n 0 2)) (w.drew.alloc (.cells (Builtin.zeroCells (Value.int .i64 0).cells n ++ Builtin.zeroCells (Value.int .i64 0).cells (grownCap w n 0 2 - n)) 2)) := fun ty =>
    Lib.run_append_nil_zeros w 22 3 ty 2 i0 (.int .i64 0) .i64 .i64 Try.underlying22 Try.underlying3 hi hz0 n h0 (by rw [hz1]; omega) (by omega) (by rw [hz2]; omega)
  have hGn := grownCap_ge w n 0 2
  have hG63 := grownCap_le_maxLen w n 0 2 (by unfold maxLen; omega)
  generalize grownCap w n 0 2 = G at *
  have hsz : (Builtin.zeroCells (Value.int .i64 0).cells n ++ Builtin.zeroCells (Value.int .i64 0).cells (G - n)).size = G * 1 := by
    have h1 : (Value.int .i64 0).cells.size = 1 := rfl
    simp [Builtin.zeroCells, h1]
    omega
  generalize (Builtin.zeroCells (Value.int .i64 0).cells n ++ Builtin.zeroCells (Value.int .i64 0).cells (G - n)) = C at *
  have Hsz := hide hsz
  have HG := hide hG63
  unfold maxLen at hG63
  clear hsz
  go_enter Try.func67, Try.ntmps67
  go_wp2_with (at_builtin; refine Lib.wpList_append_run _ rfl _ _ _ _ rfl _ _ rfl rfl _ _ (hrz _) ?_)
  go_ret
  refine ⟨_, rfl, ?_, (below_drewN (Below.refl _ _) 1).alloc (Nat.le_refl _) _⟩
  exact World.ownsRow_made w.drew C G (Nat.le_refl _) HG.out Hsz.out

set_option maxHeartbeats 800000 in
/-- slices.Concat of two slices, not both empty -/
theorem libCat2 (g n m c d : Nat) (A B : Option Addr) (xs ys : List Int) (w : World) (hr : Rd w A n (iv xs)) (hr2 : Rd w B m (iv ys)) (hn : n ≤ 1048576) (hm : m ≤ 1048576) (h0 : 0 < n + m) (hnm : n + m ≤ 1048576)
    (hg : w.heap.size ≤ g + 1) (hglt : g < w.heap.size) (c0 : w.cell? ⟨g, 0, none⟩ = some (.slice A n c)) (c1 : w.cell? ⟨g, 1, none⟩ = some (.slice B m d)) :
    Calls Try.prog 50 #[.slice (some ⟨g, 0, none⟩) 2 2] w fun e w' => ∃ r, e = .returned r ∧ Own w' w.heap.size w'.heap.size r (xs ++ ys) ∧ Below w.heap.size w w' := by
  have hl1 := hr.len
  have hl2 := hr2.len
  have Hl1 := hide hl1
  have Hl2 := hide hl2
  clear hl1 hl2
  have HG := Lib.hid (libGrow (n + m) w h0 hnm)
  rw [Int.natCast_add] at HG
  go_enter Try.func50, Try.ntmps50
  go_wp2
  go_loop [3, 5, 11] (fun s _ i => ∃ k : Nat, k ≤ 2 ∧ i = .int .i64 k ∧ s = .int .i64 (if k = 0 then 0 else if k = 1 then (n : Int) else (n : Int) + (m : Int))) (fun _ _ i => 2 - (intOf i).toNat)
  case atStart => exact ⟨0, Nat.zero_le _, rfl, rfl⟩
  case round =>
    obtain ⟨k, hk, rfl, rfl⟩ := hrel
    obtain rfl | rfl | rfl : k = 0 ∨ k = 1 ∨ k = 2 := by omega
    · simp only [if_true, Int.natCast_zero]
      go_wp2
      go_round
      case rel => exact ⟨1, by omega, rfl, by simp⟩
      case measure => simp [intOf]
    · simp only [Nat.one_ne_zero, if_true, if_false, Int.natCast_one]
      go_wp2
      go_round
      case rel => exact ⟨2, by omega, rfl, by simp⟩
      case measure => simp [intOf]
    · simp only [show (2 : Nat) ≠ 0 from by omega, show (2 : Nat) ≠ 1 from by omega, if_false]
      go_wp2_with (go_at_call 67; refine HG.out.mono ?_; rintro e w1 ⟨r1, rfl, ho1, hb1⟩)
      go_loopw [6, 8, 27] (fun r0 _ i wr => ∃ (k : Nat) (r : Value), k ≤ 2 ∧ r = r0 ∧ i = .int .i64 k ∧ OwnL wr w.heap.size r (if k = 0 then [] else if k = 1 then xs else xs ++ ys) ∧ Below w.heap.size w wr) (fun _ _ i _ => 2 - (intOf i).toNat)
      case atStart => exact ⟨0, _, Nat.zero_le _, rfl, rfl, ho1, hb1⟩
      case round =>
        clear ho1 hb1
        obtain ⟨k, r, hk, rfl, rfl, ho, hb⟩ := hrel
        have hsz := hb.size
        have c0' := (hb.cell (p := ⟨g, 0, none⟩) hglt).trans c0
        have c1' := (hb.cell (p := ⟨g, 1, none⟩) hglt).trans c1
        have hrr := hr.below hb
        have hrr2 := hr2.below hb
        have Hlt := hide ho.lt
        obtain rfl | rfl | rfl : k = 0 ∨ k = 1 ∨ k = 2 := by omega
        · simp only [if_true] at ho
          go_wp2_with (at_builtin; refine appR ho hrr (by simp; omega) hsz rfl rfl rfl rfl ?_; intro v' w3 ho3 hg3 _)
          go_roundw
          case rel => exact ⟨1, _, by omega, rfl, rfl, by simpa using ho3, hb.grown hg3 hsz (fun k e => (Hlt.out k e).1)⟩
          case measure => simp [intOf]
        · simp only [Nat.one_ne_zero, if_true, if_false] at ho
          go_wp2_with (at_builtin; refine appR ho hrr2 (by rw [Hl1.out]; omega) hsz rfl rfl rfl rfl ?_; intro v' w3 ho3 hg3 _)
          go_roundw
          case rel => exact ⟨2, _, by omega, rfl, rfl, by simpa using ho3, hb.grown hg3 hsz (fun k e => (Hlt.out k e).1)⟩
          case measure => simp [intOf]
        · simp only [show (2 : Nat) ≠ 0 from by omega, show (2 : Nat) ≠ 1 from by omega, if_false] at ho
          go_wp2
          go_ret
          exact ⟨_, rfl, ho.own, hb⟩
end Go.Proofs.Ytkbeelbklganaaa
