/- OtherPair as a plain function; its visitor's run. Conditions: none, these are plain lemmas. -/
import Derived.Test.YthpboedpoipkcaaPairV
import Derived.Test.YthpboedpoipkcaaSumC
namespace Go.Proofs.Ythpboedpoipkcaa
open Go.ChangeShapes Go.WideShapes Go.ChangeAt Go.RowKit

theorem pvV_ok (E : PE) (hE : E.Ok) : (pvV E).Ok where
  ent := fun args w => by
    show (callFunc 82 args).run Try.prog w = _
    go_simp
    rfl
  lt := fun s O w b hin hb => PEi.lt hin hb
  keep := fun s O w w' hin hb hk => PEi.keep hin hb hk
  call := fun s O w v xs hin hlo hv hO hg => by
    obtain ⟨rfl, h1, h2, h3⟩ := hg
    exact pvCall E hE O w v xs hin hlo hv hO h1 h2 h3
theorem pv_run (E : PE) (L : List (List Int)) : (pvV E).run L none = (L.findSome? (pairX E.d E.want), (L.findSome? (pairX E.d E.want)).isNone) := by
  induction L with
  | nil => rfl
  | cons x L ih =>
    simp only [Vis.run]
    have h1 : (pvV E).go none x = (pairX E.d E.want x).isNone := rfl
    have h2 : (pvV E).step none x = pairX E.d E.want x := rfl
    rw [h1, h2]
    cases hp : pairX E.d E.want x with
    | none =>
      rw [List.findSome?_cons_of_isNone (by rw [hp]; rfl)]
      exact ih
    | some p =>
      rw [List.findSome?_cons_of_isSome (by rw [hp]; rfl), hp]
      rfl
theorem pv_fit (E : PE) {m : Nat} (hm : m + 1 = E.L) (h20 : E.L ≤ 20) (hn : 1 ≤ E.n) : (pvV E).Fit (growL m E.n 1) none := by
  rintro A x B hL hr
  rw [pv_run] at hr
  have hr : (A.findSome? (pairX E.d E.want)).isNone = true := hr
  rw [pv_run]
  obtain ⟨h1, h2, h3⟩ := grow_mem m E.n 1 x (by rw [hL]; simp)
  have key : ∀ j, j < E.n → 1 ≤ x.getD j 0 ∧ x.getD j 0 ≤ (m : Int) := fun j hj => by
    have := h2 _ (getD_mem' (q := x) (j := j) (by omega))
    omega
  refine ⟨Option.isNone_iff_eq_none.1 hr, h1, fun j hj => ⟨(key 0 (by omega)).1, sorted_at h3 (by omega), by have := (key j hj).2; omega⟩, ?_⟩
  have := (key 0 (by omega)).2
  omega
/-- the counts of a die thrown twice -/
def twoC (d : List Int) : List Int := cnD [d, d] 2
theorem twoC_facts {d : List Int} (hd : dieB d = true) (h6 : d.length ≤ 6) : (twoC d).length = 1 + 2 * lastF d ∧ InB 0 (twoC d) := by
  have hall : ∀ k, k < [d, d].length → dieB ([d, d].getD k []) = true := fun k hk => by
    match k, hk with
    | 0, _ => exact hd
    | 1, _ => exact hd
  obtain ⟨g, -, -, -, p⟩ := cnD_gd hall 2 (Nat.le_refl _)
  have hlen : ∀ k, k ≤ 1 → (cnD [d, d] (k + 1)).length = (cnD [d, d] k).length + lastF d := fun k hk => by
    obtain ⟨g, l1, l2, p1, p2⟩ := cnD_gd hall k (by show k ≤ 2; omega)
    have hdk : [d, d].getD k [] = d := by
      match k, hk with
      | 0, _ => rfl
      | 1, _ => rfl
    have hg := cnK_gd (Gd.zero ((cnD [d, d] k).length + lastF d)) g (fs := d) (fun k' hk' j hj => by
      have h1 := die_mono hd (i := j) (j := d.length - 1) (by omega) (by omega)
      have h2 := die_in hd hj
      unfold lastF
      omega) (cnD [d, d] k).length (Nat.le_refl _)
    rw [cnD, hdk]
    exact hg.len
  refine ⟨?_, fun j => ?_⟩
  · unfold twoC
    rw [hlen 1 (by omega), hlen 0 (by omega)]
    show [1].length + _ + _ = _
    simp
    omega
  · have h1 := g.at j
    have h2 : prD [d, d] 2 = (1 * (d.length : Int)) * (d.length : Int) := rfl
    have h3 : (1 * (d.length : Int)) * (d.length : Int) ≤ 6 * 6 := Int.mul_le_mul (by omega) (by omega) (by omega) (by omega)
    show -((0 : Nat) : Int) ≤ (cnD [d, d] 2).getD j 0 ∧ (cnD [d, d] 2).getD j 0 ≤ 1000
    omega
/-- is the die one that is asked for -/
def okPair (d : List Int) : Bool := dieB d && decide (d.length ≤ 6) && decide (lastF d ≤ 6)
theorem okPair_of {d : List Int} (h : okPair d = true) : dieB d = true ∧ d.length ≤ 6 ∧ lastF d ≤ 6 := by
  simp only [okPair, Bool.and_eq_true, decide_eq_true_eq] at h
  exact ⟨h.1.1, h.1.2, h.2⟩
/-- the other pair of a die -/
def ROther (d : List Int) : Option (List Int × List Int) := bif okPair d then (growL (2 * lastF d) d.length 1).findSome? (pairX d (twoC d)) else none
theorem ROther_yes {d : List Int} (h : okPair d = true) : ROther d = (growL (2 * lastF d) d.length 1).findSome? (pairX d (twoC d)) := by rw [ROther, h]; rfl
theorem ROther_no {d : List Int} (h : okPair d = false) : ROther d = none := by rw [ROther, h]; rfl
/-- the same over one face less -/
theorem ROther_less {d : List Int} (h : okPair d = true) {m : Nat} (hm : m + 1 = 2 * lastF d) : ROther d = (growL m d.length 1).findSome? (pairX d (twoC d)) := by
  rw [ROther_yes h, ← hm]
  obtain ⟨h1, h2, h3⟩ := okPair_of h
  refine grow_less m d.length 1 _ (by omega) fun q hq hmem => ?_
  obtain ⟨g1, g2, g3⟩ := grow_mem (m + 1) d.length 1 q hq
  have hl := (dieB_len h1).1
  obtain ⟨j, hj, e⟩ := List.mem_iff_getElem.1 hmem
  unfold pairX
  rw [divR_big (by omega) ⟨j, hj, by
    rw [(twoC_facts h1 h2).1]
    simp [List.getD, hj, e]
    omega⟩]
end Go.Proofs.Ythpboedpoipkcaa
