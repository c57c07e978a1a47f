/- Plain facts for eachDie: a visitor, a run over dice with an early stop, a row that is cut. Conditions: none, these are plain lemmas. -/
import Derived.Test.YthpboedpoipkcaaFindP
import Derived.Test.YthpboedpoipkcaaClone
namespace Go.Proofs.Ythpboedpoipkcaa
open Go.ChangeShapes Go.WideShapes Go.ChangeAt Go.RowKit

theorem own_cut {w : World} {lo n g c k : Nat} {xs : List Int} (h : w.ownsRow lo 2 1 (.slice (some ⟨g, 0, none⟩) n c) n (iv xs)) (hk : k ≤ n) : w.ownsRow lo 2 1 (.slice (some ⟨g, 0, none⟩) k c) k (iv (xs.take k)) := by
  obtain ⟨h1, h2⟩ := h
  rcases h2 with ⟨e, _⟩ | ⟨g', cap, cur, e, hlo, hh, hn, hm, hs, ht⟩
  · cases e
  · injection e with e1 e2 e3
    injection e1 with e1
    injection e1 with e1
    subst e1 e3
    have hl : xs.length = n := by simpa [iv] using h1
    refine ⟨by simp [iv]; omega, .inr ⟨g, c, cur, rfl, hlo, hh, by omega, hm, hs, ?_⟩⟩
    have e : iv (xs.take k) = (iv xs).take k := by simp [iv, List.map_take]
    rw [e, ← ht, List.take_take]
    congr 1
    omega

/-- What a visitor of dice does: its states, what it keeps (the blocks O), its steps, and whether it goes on. -/
structure Vis where
  σ : Type
  inv : σ → (Nat → Prop) → World → Prop
  step : σ → List Int → σ
  go : σ → List Int → Bool
  good : σ → List Int → Prop
  f : FuncId
  cap : Array Value
  lo : Nat
structure Vis.Ok (V : Vis) : Prop where
  ent : ∀ args w, (callFunc V.f args).run Try.prog w = .ok (.enter V.f args) w
  lt : ∀ s O w g, V.inv s O w → O g → V.lo ≤ g ∧ g < w.heap.size
  keep : ∀ s O w w', V.inv s O w → Below V.lo w w' → (∀ g, O g → w'.heap[g]? = w.heap[g]?) → V.inv s O w'
  call : ∀ s O w v xs, V.inv s O w → V.lo ≤ w.heap.size → OwnL w V.lo v xs → (∀ g, v.ownBlock = some g → ¬ O g) → V.good s xs →
    Calls Try.prog V.f (#[.agg #[v]] ++ V.cap) w fun e w' => e = .returned (.bool (V.go s xs)) ∧ Below V.lo w w' ∧ ∃ O', V.inv (V.step s xs) O' w' ∧
      (∀ g, g < w.heap.size → ¬ O g → v.ownBlock ≠ some g → w'.heap[g]? = w.heap[g]?) ∧ (∀ g, O' g → O g ∨ w.heap.size ≤ g ∨ v.ownBlock = some g)
/-- the visitor sees the dice one after the other, until it stops -/
def Vis.run (V : Vis) : List (List Int) → V.σ → V.σ × Bool
  | [], s => (s, true)
  | x :: L, s => bif V.go s x then V.run L (V.step s x) else (V.step s x, false)
theorem Vis.run_append (V : Vis) (L M : List (List Int)) (s : V.σ) : V.run (L ++ M) s = bif (V.run L s).2 then V.run M (V.run L s).1 else V.run L s := by
  induction L generalizing s with
  | nil => rfl
  | cons x L ih =>
    rw [List.cons_append]
    simp only [Vis.run]
    cases h : V.go s x
    · rfl
    · exact ih _
theorem Vis.run_one (V : Vis) (x : List Int) (s : V.σ) : V.run [x] s = (V.step s x, V.go s x) := by
  simp only [Vis.run]
  cases V.go s x <;> rfl
/-- each die of the list is one that the visitor serves, when it comes to it -/
def Vis.Fit (V : Vis) (L : List (List Int)) (s : V.σ) : Prop := ∀ A x B, L = A ++ x :: B → (V.run A s).2 = true → V.good (V.run A s).1 x
theorem Vis.Fit.part {V : Vis} {A B C : List (List Int)} {s s1 : V.σ} (h : V.Fit (A ++ (B ++ C)) s) (h1 : V.run A s = (s1, true)) : V.Fit B s1 := by
  rintro A' x B' rfl hg
  have e : V.run (A ++ A') s = V.run A' s1 := by rw [V.run_append, h1]; rfl
  have := h (A ++ A') x (B' ++ C) (by simp) (by rw [e]; exact hg)
  rw [e] at this
  exact this
theorem Vis.Fit.one {V : Vis} {x : List Int} {s : V.σ} (h : V.Fit [x] s) : V.good s x := h [] x [] rfl rfl
/-- the dice that begin with p -/
def fromL (m : Nat) (p : List Int) (k f : Nat) : List (List Int) := (growL m k f).map fun q => p ++ q
/-- the dice that begin with p and go on with a number from f to g - 1 -/
def partL (m : Nat) (p : List Int) (k f g : Nat) : List (List Int) := (List.range' f (g - f)).flatMap fun (x : Nat) => fromL m (p ++ [(x : Int)]) k x
theorem fromL_zero (m : Nat) (p : List Int) (f : Nat) : fromL m p 0 f = [p] := by simp [fromL, growL]
theorem fromL_succ (m : Nat) (p : List Int) (k f : Nat) : fromL m p (k + 1) f = partL m p k f (m + 1) := by
  simp only [fromL, partL, growL, List.map_flatMap, List.map_map]
  congr 1
  funext x
  refine List.map_congr_left fun q _ => ?_
  simp
theorem partL_start (m : Nat) (p : List Int) (k f : Nat) : partL m p k f f = [] := by simp [partL]
theorem partL_next (m : Nat) (p : List Int) (k : Nat) {f g : Nat} (h : f ≤ g) : partL m p k f (g + 1) = partL m p k f g ++ fromL m (p ++ [(g : Int)]) k g := by
  unfold partL
  rw [show g + 1 - f = (g - f) + 1 by omega, List.range'_concat]
  simp [show f + (g - f) = g by omega]
theorem partL_split (m : Nat) (p : List Int) (k : Nat) {f g h : Nat} (hf : f ≤ g) (hg : g ≤ h) : partL m p k f h = partL m p k f g ++ partL m p k g h := by
  unfold partL
  rw [← List.flatMap_append, show h - f = (g - f) + (h - g) by omega, ← List.range'_append_1, show f + (g - f) = g by omega]
theorem partL_cons (m : Nat) (p : List Int) (k : Nat) {g h : Nat} (hg : g < h) : partL m p k g h = fromL m (p ++ [(g : Int)]) k g ++ partL m p k (g + 1) h := by
  rw [partL_split m p k (Nat.le_succ g) hg, partL_next m p k (Nat.le_refl g), partL_start]
  rfl
/-- the run stops amid a list -/
theorem Vis.run_stop (V : Vis) {A B C : List (List Int)} {s s1 s2 : V.σ} (h1 : V.run A s = (s1, true)) (h2 : V.run B s1 = (s2, false)) : V.run (A ++ (B ++ C)) s = (s2, false) := by
  rw [V.run_append, h1]
  show V.run (B ++ C) s1 = _
  rw [V.run_append, h2]
  rfl
theorem Vis.run_on (V : Vis) {A B : List (List Int)} {s s1 s2 : V.σ} {b : Bool} (h1 : V.run A s = (s1, true)) (h2 : V.run B s1 = (s2, b)) : V.run (A ++ B) s = (s2, b) := by
  rw [V.run_append, h1]
  exact h2
end Go.Proofs.Ythpboedpoipkcaa
