/- Contracts of markDie and heldDie. Conditions: lengths at most 2^20. -/
import Derived.Test.YthpboedpoipkcaaDie
import Derived.Test.YthpboedpoipkcaaVal
namespace Go.Proofs.Ythpboedpoipkcaa
open Go.ChangeShapes Go.WideShapes Go.ChangeAt Go.RowKit

theorem Own.alloc {w : World} {lo hi : Nat} {v : Value} {xs : List Int} (h : Own w lo hi v xs) (o : Obj) : Own (w.alloc o) lo hi v xs := h.below ((Below.refl _ _).alloc (Nat.le_refl _) _)
theorem Kept.of_alloc (lo hi : Nat) (w : World) (o : Obj) : Kept lo hi w (w.alloc o) := Kept.below ((Below.refl _ _).alloc (Nat.le_refl _) _) (Nat.le_refl _)
theorem Kept.cell {lo hi b : Nat} {w w' : World} {v : Value} (h : Kept lo hi w w') (hc : w.cell? ⟨b, 0, none⟩ = some v) (hb : b < w.heap.size) (hd : b < lo ∨ hi ≤ b) : w'.cell? ⟨b, 0, none⟩ = some v := by
  rw [← hc]
  simp only [World.cell?]
  rw [h.block b hb hd]
theorem bcell1 {W w1 : World} {B b : Nat} {v : Value} (hb : Below B W w1) (h : W.cell? ⟨b, 0, none⟩ = some v) (hlt : b < B) : w1.cell? ⟨b, 0, none⟩ = some v := (hb.cell (p := ⟨b, 0, none⟩) hlt).trans h
theorem dcell (w : World) (v : Value) (t : TypeId) : (w.alloc (.cells #[v] t)).cell? ⟨w.heap.size, 0, none⟩ = some v := by
  rw [World.cell?_alloc_at _ _ _ _ rfl]; rfl

set_option maxHeartbeats 400000 in
theorem markD (lo hi : Nat) (v : Value) (xs : List Int) (k : Int) (k0 : Nat) (w : World) (hk : k = (k0 : Int)) (ho : Own w lo hi v xs) (hn : xs.length ≤ 1048576) (hk0 : k0 ≤ 1048576 * 1024) :
    Calls Try.prog 24 #[.agg #[v], .int .i64 k] w fun e w' =>
      e = .returned (.int .i64 (k + (xs.length : Int))) ∧ Own w' lo hi v (marks k0 xs.length) ∧ Kept lo hi w w' := by
  have H := Lib.hid (fun W h => markV lo hi v xs k k0 W hk h hn hk0)
  obtain ⟨A, c, hv, -, -, -, -⟩ := ho.form
  obtain ⟨n, HL⟩ : ∃ n, Hid (xs.length = n) := ⟨_, hide rfl⟩
  rw [HL.out] at H hv ⊢
  subst hv
  have hoA := ho.alloc (.cells #[.slice A n c] 27)
  have HK := hide hk
  clear hk
  go_enter Try.func24, Try.ntmps24
  go_wp2_with (go_at_call 40; refine (H.out _ hoA).mono ?_; rintro e w2 ⟨rfl, ho2, hg2⟩)
  go_ret
  exact ⟨rfl, ho2, (Kept.of_alloc lo hi _ _).trans (Kept.grown hg2 fun g hg => ⟨(hoA.1.lt g hg).1, hoA.2 g hg⟩)⟩

set_option maxHeartbeats 400000 in
theorem heldD (v : Value) (n : Nat) (k : Int) (k0 : Nat) (w : World) (hk : k = (k0 : Int)) (hr : RV w v (marks k0 n)) (hn : n ≤ 1048576) (hk0 : k0 ≤ 1048576 * 1024) :
    Calls Try.prog 25 #[.agg #[v], .int .i64 k] w fun e w' => e = .returned (.int .i64 (k + (n : Int))) ∧ Below w.heap.size w w' := by
  have H := Lib.hid (fun W h => heldV v n k k0 W hk h hn hk0)
  obtain ⟨A, c, rfl, hr2, hc⟩ := id hr
  rw [marks_len] at *
  have hrA := hr.below ((Below.refl w.heap.size w).alloc (Nat.le_refl _) (.cells #[.slice A n c] 27))
  have f0 : 0 ≤ k + (n : Int) := by omega
  generalize k + (n : Int) = s at *
  have HK := hide hk
  clear hk hr2 hr
  go_enter Try.func25, Try.ntmps25
  go_wp2_with (go_at_call 41; refine (H.out _ hrA).mono ?_; rintro e w2 ⟨rfl, rfl⟩)
  go_ret
  exact ⟨rfl, (Below.refl _ _).alloc (Nat.le_refl _) _⟩
end Go.Proofs.Ythpboedpoipkcaa
