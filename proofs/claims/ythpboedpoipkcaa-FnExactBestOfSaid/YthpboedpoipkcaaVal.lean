/- The helpers on []int64 once more, in terms of slice values: what the walks of the laws use. Conditions: lengths at most 2^20. -/
import Derived.Test.YthpboedpoipkcaaIs
namespace Go.Proofs.Ythpboedpoipkcaa
open Go.ChangeShapes Go.WideShapes Go.ChangeAt Go.RowKit

/-- The slice value v reads, in w, as the integers xs. -/
def RV (w : World) (v : Value) (xs : List Int) : Prop := ∃ A c, v = .slice A xs.length c ∧ Rd w A xs.length (iv xs) ∧ xs.length ≤ c

theorem RV.below {w w' : World} {v : Value} {xs : List Int} (h : RV w v xs) (hb : Below w.heap.size w w') : RV w' v xs := by
  obtain ⟨A, c, e, hr, hc⟩ := h
  exact ⟨A, c, e, hr.below hb, hc⟩
theorem RV.drewN {w : World} {v : Value} {xs : List Int} (h : RV w v xs) (n : Nat) : RV (w.drewN n) v xs := h
theorem RV.mk {w : World} {A : Option Addr} {n c : Nat} {xs : List Int} (hr : Rd w A n (iv xs)) (hc : n ≤ c) : RV w (.slice A n c) xs := by
  have := hr.len
  subst this
  exact ⟨A, c, rfl, hr, hc⟩
theorem Own.rv {w : World} {lo hi : Nat} {v : Value} {xs : List Int} (h : Own w lo hi v xs) : RV w v xs := by
  obtain ⟨A, c, e, hc, _, hr, _⟩ := h.form
  exact ⟨A, c, e, hr, hc⟩
theorem Bk.rv {w : World} {g n : Nat} {t : TypeId} {xs : List Int} (h : Bk w g t (iv xs)) (hn : xs.length = n) : RV w (.slice (some ⟨g, 0, none⟩) n n) xs := RV.mk (h.rdi hn) (Nat.le_refl _)

theorem below_of_drew {w w' : World} (h : ∃ q, w' = w.drewN q) : Below w.heap.size w w' := by
  obtain ⟨q, rfl⟩ := h
  exact below_drewN (Below.refl _ _) q

/-- one block of the call's own was written: what lies elsewhere stays -/
theorem Own.marked {w w' : World} {lo hi lo' hi' : Nat} {v v' : Value} {xs ys : List Int} (h : Own w lo hi v xs) (hx : Own w lo' hi' v' ys) (hg : w.grownBy w' v'.ownBlock) (hd : hi ≤ lo' ∨ hi' ≤ lo) : Own w' lo hi v xs :=
  h.grown hg fun g e => by
    have h1 := hx.2 g e
    have h2 := (hx.1.lt g e).1
    omega
theorem Below.marked {B lo' hi' : Nat} {w w1 w' : World} {v' : Value} {ys : List Int} (h : Below B w w1) (hB : B ≤ lo') (hB2 : B ≤ w1.heap.size) (hx : Own w1 lo' hi' v' ys) (hg : w1.grownBy w' v'.ownBlock) : Below B w w' :=
  h.grown hg hB2 fun k hk => by
    have h2 := (hx.1.lt k hk).1
    omega

theorem toV (v : Value) (xs : List Int) (w : World) (hr : RV w v xs) (hn : xs.length ≤ 1048576) :
    Calls Try.prog 56 #[v] w fun e w' => ∃ v', e = .returned v' ∧ Own w' w.heap.size w'.heap.size v' xs ∧ Below w.heap.size w w' := by
  obtain ⟨A, c, rfl, hr, hc⟩ := hr
  refine (toI A _ c xs w hr hn).mono ?_
  rintro e w' ⟨g, rfl, hB, hg, hb⟩
  exact ⟨_, rfl, hB.owned hg (by unfold maxLen; omega), hb⟩

theorem eqV (v v' : Value) (xs : List Int) (w : World) (hr : RV w v xs) (hr' : RV w v' xs) (hn : xs.length ≤ 1048576) :
    Calls Try.prog 39 #[v, v'] w fun e w' => e = .returned (.bool true) ∧ Below w.heap.size w w' := by
  obtain ⟨A, c, rfl, hr, _⟩ := hr
  obtain ⟨A', c', rfl, hr', _⟩ := hr'
  exact (eqI A A' _ c c' xs w hr hr' hn).mono fun e w' ⟨h1, h2⟩ => ⟨h1, below_of_drew h2⟩

theorem heldV (v : Value) (n : Nat) (k : Int) (k0 : Nat) (w : World) (hk : k = (k0 : Int)) (hr : RV w v (marks k0 n)) (hn : n ≤ 1048576) (hk0 : k0 ≤ 1048576 * 1024) :
    Calls Try.prog 41 #[v, .int .i64 k] w fun e w' => e = .returned (.int .i64 (k + (n : Int))) ∧ w = w' := by
  obtain ⟨A, c, rfl, hr, _⟩ := hr
  subst hk
  rw [marks_len] at hr ⊢
  exact (heldI A n c k0 w hr hn hk0).mono fun e w' ⟨h1, h2⟩ => ⟨by rw [h1]; simp, h2⟩

theorem markV (lo hi : Nat) (v : Value) (xs : List Int) (k : Int) (k0 : Nat) (w : World) (hk : k = (k0 : Int)) (ho : Own w lo hi v xs) (hn : xs.length ≤ 1048576) (hk0 : k0 ≤ 1048576 * 1024) :
    Calls Try.prog 40 #[v, .int .i64 k] w fun e w' =>
      e = .returned (.int .i64 (k + (xs.length : Int))) ∧ Own w' lo hi v (marks k0 xs.length) ∧ w.grownBy w' v.ownBlock := by
  subst hk
  exact (markI lo hi v xs k0 w ho hn hk0).mono fun e w' ⟨h1, h2⟩ => ⟨by rw [h1]; simp, h2⟩
end Go.Proofs.Ythpboedpoipkcaa
