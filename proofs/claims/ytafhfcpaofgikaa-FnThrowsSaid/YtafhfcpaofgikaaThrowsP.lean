/- Plain facts on the throws of the finite law: what is even, and how many rounds are learned. Conditions: none. -/
import Derived.Test.YtafhfcpaofgikaaEven
import Derived.Test.YtafhfcpaofgikaaLearn
import Derived.Test.YtafhfcpaofgikaaB10
namespace Go.Proofs.Ytafhfcpaofgikaa
open Go.ChangeShapes Go.WideShapes Go.ChangeAt Go.RowKit

def thW (a b c : Int) : List Int := [0, a, -c, -a, 0, b, c, -b, 0]
def thV (a b c : Int) : List Int := [0, -a, c, a, 0, -b, -c, b, 0]
def chkT (a b c : Int) : Bool :=
  decide (thrN (thW a b c) = 3) && (!(REvenThrows (thV a b c)).2 && (match REvenThrows (thW a b c) with
    | ([x, y, z], true) => (decide (1 ≤ x ∧ x ≤ 9) && (decide (1 ≤ y ∧ y ≤ 9) && decide (1 ≤ z ∧ z ≤ 9))) &&
        ((List.range 3).all fun i => decide (x * (thW a b c).getD i 0 + y * (thW a b c).getD (3 + i) 0 + z * (thW a b c).getD (6 + i) 0 = 0))
    | _ => false))
theorem chkT_tab : ∀ a b c : Fin 9, chkT (1 + ((a : Nat) : Int)) (1 + ((b : Nat) : Int)) (1 + ((c : Nat) : Int)) = true := by decide +kernel
theorem thW_in {a b c : Int} (ha : 1 ≤ a ∧ a ≤ 9) (hb : 1 ≤ b ∧ b ≤ 9) (hc : 1 ≤ c ∧ c ≤ 9) {i : Nat} (hi : i < 9) : -9 ≤ (thW a b c).getD i 0 ∧ (thW a b c).getD i 0 ≤ 9 := by
  rcases i with _ | _ | _ | _ | _ | _ | _ | _ | _ | _ <;> simp [thW] <;> omega
theorem chkT_t {a b c : Nat} (ha : a < 9) (hb : b < 9) (hc : c < 9) : ∃ es, REvenThrows (thW (1 + (a : Int)) (1 + (b : Int)) (1 + (c : Int))) = (es, true) ∧ es.length = 3 ∧
    (∀ i, i < 3 → 1 ≤ es.getD i 0 ∧ es.getD i 0 ≤ 9) ∧
    (∀ i, i < 3 → es.getD 0 0 * (thW (1 + (a : Int)) (1 + (b : Int)) (1 + (c : Int))).getD i 0 + es.getD 1 0 * (thW (1 + (a : Int)) (1 + (b : Int)) (1 + (c : Int))).getD (3 + i) 0 + es.getD 2 0 * (thW (1 + (a : Int)) (1 + (b : Int)) (1 + (c : Int))).getD (6 + i) 0 = 0) ∧
    thrN (thW (1 + (a : Int)) (1 + (b : Int)) (1 + (c : Int))) = 3 ∧ (REvenThrows (thV (1 + (a : Int)) (1 + (b : Int)) (1 + (c : Int)))).2 = false := by
  have h := chkT_tab ⟨a, ha⟩ ⟨b, hb⟩ ⟨c, hc⟩
  simp only [chkT, Bool.and_eq_true, decide_eq_true_eq, Bool.not_eq_true'] at h
  obtain ⟨h1, h2, h3⟩ := h
  split at h3
  · rename_i x y z hE
    simp only [Bool.and_eq_true, decide_eq_true_eq, List.all_eq_true, List.mem_range] at h3
    obtain ⟨⟨hx, hy, hz⟩, hs⟩ := h3
    refine ⟨[x, y, z], hE, rfl, fun i hi => ?_, fun i hi => hs i hi, h1, h2⟩
    rcases i with _ | _ | _ | i
    · exact hx
    · exact hy
    · exact hz
    · omega
  · cases h3

theorem set3 {p q s : Nat} {j : Nat} (hj : j < 3) (h : p + q + s ≤ 1000) : ∃ p' q' s' : Nat, ([(p : Int), (q : Int), (s : Int)] : List Int).set j (wrap64 (([(p : Int), (q : Int), (s : Int)] : List Int).getD j 0 + 1)) = [(p' : Int), (q' : Int), (s' : Int)] ∧ p' + q' + s' = p + q + s + 1 := by
  rcases j with _ | _ | _ | j
  · refine ⟨p + 1, q, s, ?_, by omega⟩
    have e : wrap64 ((p : Int) + 1) = ((p + 1 : Nat) : Int) := IntWalk.wrap64_in _ ⟨by omega, by omega⟩
    simp only [List.getD, List.getElem?_cons_zero, Option.getD_some, List.set_cons_zero]
    rw [e]
  · refine ⟨p, q + 1, s, ?_, by omega⟩
    have e : wrap64 ((q : Int) + 1) = ((q + 1 : Nat) : Int) := IntWalk.wrap64_in _ ⟨by omega, by omega⟩
    show [(p : Int), wrap64 ((q : Int) + 1), (s : Int)] = _
    rw [e]
  · refine ⟨p, q, s + 1, ?_, by omega⟩
    have e : wrap64 ((s : Int) + 1) = ((s + 1 : Nat) : Int) := IntWalk.wrap64_in _ ⟨by omega, by omega⟩
    show [(p : Int), (q : Int), wrap64 ((s : Int) + 1)] = _
    rw [e]
  · omega
theorem lr_sum (xs : List Int) (k : Nat) (hk : k ≤ 200) : ∃ p q s u v t : Nat, lrN xs 3 k = ([(p : Int), (q : Int), (s : Int)], [(u : Int), (v : Int), (t : Int)]) ∧ p + q + s = k + 1 ∧ u + v + t = k + 1 := by
  induction k with
  | zero => exact ⟨1, 0, 0, 1, 0, 0, rfl, rfl, rfl⟩
  | succ k ih =>
    obtain ⟨p, q, s, u, v, t, h, h1, h2⟩ := ih (by omega)
    obtain ⟨p', q', s', e1, e2⟩ := set3 (p := p) (q := q) (s := s) (rpB_in (xs := xs) (cs := (lrN xs 3 k).2) (n := 3) (by omega)) (by omega)
    obtain ⟨u', v', t', f1, f2⟩ := set3 (p := u) (q := v) (s := t) (rpB_in (xs := xs) (cs := (lrN xs 3 k).1) (n := 3) (by omega)) (by omega)
    refine ⟨p', q', s', u', v', t', ?_, by omega, by omega⟩
    rw [lrN]
    rw [h] at e1 f1 ⊢
    simp only at e1 f1 ⊢
    rw [e1, f1]
theorem sm3 {xs : List Int} {p q s : Nat} (h : xs = [(p : Int), (q : Int), (s : Int)]) (hs : p + q + s ≤ 300) : (∀ k, k ≤ 3 → -1000000 ≤ sm xs k ∧ sm xs k ≤ 1000000) ∧ sm xs 3 = ((p + q + s : Nat) : Int) := by
  subst h
  have h0 : sm [(p : Int), (q : Int), (s : Int)] 0 = 0 := rfl
  have h1 : sm [(p : Int), (q : Int), (s : Int)] 1 = 0 + (p : Int) := rfl
  have h2 : sm [(p : Int), (q : Int), (s : Int)] 2 = 0 + (p : Int) + (q : Int) := rfl
  have h3 : sm [(p : Int), (q : Int), (s : Int)] 3 = 0 + (p : Int) + (q : Int) + (s : Int) := rfl
  refine ⟨fun k hk => ?_, by rw [h3]; omega⟩
  rcases k with _ | _ | _ | _ | k
  · rw [h0]; omega
  · rw [h1]; omega
  · rw [h2]; omega
  · rw [h3]; omega
  · omega
end Go.Proofs.Ytafhfcpaofgikaa
