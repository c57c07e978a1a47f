/- Contracts of wins, l05More and IsRing on both sides. Conditions: lengths at most 2^20. -/
import Derived.Test.YthpboedpoipkcaaDice
import Derived.Test.YthpboedpoipkcaaBeats
import Derived.Deep.RegionHeld3
namespace Go.Proofs.Ythpboedpoipkcaa
open Go.ChangeShapes Go.WideShapes Go.ChangeAt Go.RowKit

def winB (xs ys : List Int) : Bool := decide (((xs.length * ys.length : Nat) : Int) < 2 * ((bt xs ys).1 : Int))
theorem bt1_le (xs ys : List Int) (hn : xs.length ≤ 12) (hm : ys.length ≤ 12) : (bt xs ys).1 ≤ 144 := by
  have h := btAll_sum xs ys xs.length
  have h2 : xs.length * ys.length ≤ 12 * 12 := Nat.mul_le_mul hn hm
  unfold bt
  unfold st3 at h
  omega

set_option maxHeartbeats 400000 in
theorem sMore (A B : Option Addr) (n m c d : Nat) (xs ys : List Int) (w : World) (hr : Rd w A n (iv xs)) (hr2 : Rd w B m (iv ys)) (hn : n ≤ 12) (hm : m ≤ 12) :
    Calls Try.prog 66 #[.slice A n c, .slice B m d] w fun e w' => e = .returned (.bool (winB xs ys)) ∧ ∃ q, w' = w.drewN q := by
  have H := Lib.hid (sBt A B n m c d xs ys w hr hr2 hn hm)
  have hb := bt1_le xs ys (by rw [hr.len]; exact hn) (by rw [hr2.len]; exact hm)
  have hp : n * m ≤ 144 := Nat.mul_le_mul hn hm
  have e1 : IntKind.i64.wrap ((n : Int) * (m : Int)) = ((n * m : Nat) : Int) := by rw [show (n : Int) * (m : Int) = ((n * m : Nat) : Int) from by simp]; exact IntWalk.i64_in _ (by omega)
  have HR : Hid (winB xs ys = decide (((n * m : Nat) : Int) < 2 * ((bt xs ys).1 : Int))) := hide (by rw [winB, hr.len, hr2.len])
  generalize winB xs ys = R at *
  generalize bt xs ys = s at *
  generalize n * m = p at *
  clear hr hr2
  go_enter Try.func66, Try.ntmps66
  go_wp2_with (go_at_call 63; refine H.out.mono ?_; rintro e w2 ⟨rfl, q, rfl⟩)
  go_ret
  exact ⟨ret_bool HR.out.symm, _, rfl⟩
set_option maxHeartbeats 800000 in
theorem iWins (v u : Value) (xs ys : List Int) (w : World) (hv : RV w v xs) (hu : RV w u ys) (hn : xs.length ≤ 12) (hm : ys.length ≤ 12) :
    Calls Try.prog 68 #[.agg #[v], .agg #[u]] w fun e w' => e = .returned (.bool (winB xs ys)) ∧ Below w.heap.size w w' := by
  obtain ⟨A, c, rfl, hr, hc⟩ := hv
  obtain ⟨B, d, rfl, hr2, hd⟩ := hu
  obtain ⟨k1, k2⟩ := two_box w 27 (.slice A xs.length c) (.slice B ys.length d)
  have hbl := two_below w (.cells #[.slice A xs.length c] 27) (.cells #[.slice B ys.length d] 27)
  have H := Lib.hid (iBt A B _ _ c d xs ys _ (hr.below hbl) (hr2.below hbl) hn hm)
  have hb := bt1_le xs ys hn hm
  have hp : xs.length * ys.length ≤ 144 := Nat.mul_le_mul hn hm
  have HR : Hid (winB xs ys = decide (((xs.length * ys.length : Nat) : Int) < 2 * ((bt xs ys).1 : Int))) := hide rfl
  generalize winB xs ys = R at *
  generalize bt xs ys = s at *
  generalize xs.length = n at *
  generalize ys.length = m at *
  have e1 : IntKind.i64.wrap ((n : Int) * (m : Int)) = ((n * m : Nat) : Int) := by rw [show (n : Int) * (m : Int) = ((n * m : Nat) : Int) from by simp]; exact IntWalk.i64_in _ (by omega)
  generalize n * m = p at *
  have HBL := hide hbl
  clear hr hr2 hbl
  have z1 : w.heap.size < ((w.alloc (.cells #[.slice A n c] 27)).alloc (.cells #[.slice B m d] 27)).heap.size := by simp; omega
  have z2 : w.heap.size + 1 < ((w.alloc (.cells #[.slice A n c] 27)).alloc (.cells #[.slice B m d] 27)).heap.size := by simp
  go_enter Try.func68, Try.ntmps68
  go_wp2_with (go_at_call 64; refine H.out.mono ?_; rintro e w2 ⟨rfl, hb2⟩; have j1 := bcell1 hb2 k1 z1; have j2 := bcell1 hb2 k2 z2)
  go_ret
  exact ⟨ret_bool HR.out.symm, HBL.out.trans (hb2.mono HBL.out.size)⟩
end Go.Proofs.Ythpboedpoipkcaa
