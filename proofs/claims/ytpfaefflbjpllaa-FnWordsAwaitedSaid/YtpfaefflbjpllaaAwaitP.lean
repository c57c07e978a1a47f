/- Plain facts on words that are awaited: borders, races, the best rival. Conditions: none, these are plain lemmas. -/
import Derived.Test.YtpfaefflbjpllaaFreeC
import Derived.Test.YtpfaefflbjpllaaRace2
import Derived.Test.YtpfaefflbjpllaaRival
namespace Go.Proofs.Ytpfaefflbjpllaa
open Go.ChangeShapes Go.WideShapes Go.ChangeAt Go.RowKit

theorem inW_eqlen {xs ys : List Int} (hl : xs.length = ys.length) : inW xs ys = eqL xs ys := by
  cases h : eqL xs ys with
  | true =>
    refine inW_t (i := 0) (by omega) ?_
    rw [List.drop_zero, List.take_of_length_le (by omega)]
    exact h
  | false =>
    refine inW_f fun i hi => ?_
    have : i = 0 := by omega
    subst this
    rw [List.drop_zero, List.take_of_length_le (by omega)]
    exact h
theorem ends_len {xs ys : List Int} (hl : xs.length = ys.length) (hne : eqL xs ys = false) : endsB xs ys xs.length = false := by
  unfold endsB
  rw [Nat.sub_self, List.drop_zero, List.take_of_length_le (by omega), hne]
  simp
theorem raceX_pos {xs ys : List Int} {s : Nat} (hs : 2 ≤ s) (hl : xs.length = ys.length) (h1 : 1 ≤ xs.length) (hne : eqL xs ys = false) : 1 ≤ raceX xs ys s := by
  have h2 := psum_self (s := s) ys (by omega)
  have h3 := psum_other hs (xs := ys) (ys := xs) (by omega) (ends_len hl.symm (by rw [eqL_comm]; exact hne))
  unfold raceX
  omega
theorem raceR_facts {xs ys : List Int} {s : Nat} (hs : 2 ≤ s) (hl : xs.length = ys.length) (h1 : 1 ≤ xs.length) (hne : eqL xs ys = false) :
    1 ≤ (raceR xs ys s).1 ∧ 1 ≤ (raceR ys xs s).1 ∧ (raceR xs ys s).2 = (raceR ys xs s).2 ∧ (raceR xs ys s).1 + (raceR ys xs s).1 = (raceR xs ys s).2 ∧ 1 ≤ (raceR xs ys s).2 := by
  have hx := raceX_pos hs hl h1 hne
  have hy := raceX_pos hs hl.symm (by omega) (show eqL ys xs = false by rw [eqL_comm]; exact hne)
  unfold raceR
  simp only
  generalize raceX xs ys s = X at *
  generalize raceX ys xs s = Y at *
  have e1 : Nat.gcd X (X + Y) = Nat.gcd X Y := by simp
  have e2 : Nat.gcd Y (Y + X) = Nat.gcd X Y := by rw [Nat.gcd_comm X Y]; simp
  have e3 : Y + X = X + Y := Nat.add_comm _ _
  rw [e1, e2, e3]
  have d1 := Nat.gcd_dvd_left X Y
  have d2 := Nat.gcd_dvd_right X Y
  have hg : 0 < Nat.gcd X Y := Nat.gcd_pos_of_pos_left _ hx
  generalize Nat.gcd X Y = g at *
  obtain ⟨p, rfl⟩ := d1
  obtain ⟨q, rfl⟩ := d2
  rw [← Nat.mul_add, Nat.mul_div_cancel_left _ hg, Nat.mul_div_cancel_left _ hg, Nat.mul_div_cancel_left _ hg]
  have hp : 0 < p := Nat.pos_of_ne_zero fun e => by subst e; simp at hx
  have hq : 0 < q := Nat.pos_of_ne_zero fun e => by subst e; simp at hy
  omega

/-! ### borders -/
theorem ov_up (es bs : List Int) (k : Nat) : ∀ i, i + 1 < (ov es bs k).length → (ov es bs k).getD i 0 < (ov es bs k).getD (i + 1) 0 := by
  induction k with
  | zero => intro i h; simp [ov_zero] at h
  | succ k ih =>
    cases h : endsB es bs (k + 1) with
    | false => rw [ov_no h]; exact ih
    | true =>
      rw [ov_yes h]
      intro i hi
      rw [List.length_append] at hi
      simp only [List.length_cons, List.length_nil] at hi
      have e1 : (ov es bs k ++ [((k + 1 : Nat) : Int)]).getD i 0 = (ov es bs k).getD i 0 := by simp [List.getD, List.getElem?_append, show i < (ov es bs k).length by omega]
      rw [e1]
      by_cases h2 : i + 1 < (ov es bs k).length
      · have e2 : (ov es bs k ++ [((k + 1 : Nat) : Int)]).getD (i + 1) 0 = (ov es bs k).getD (i + 1) 0 := by simp [List.getD, List.getElem?_append, h2]
        rw [e2]
        exact ih i h2
      · have e3 : i + 1 = (ov es bs k).length := by omega
        have e2 : (ov es bs k ++ [((k + 1 : Nat) : Int)]).getD (i + 1) 0 = ((k + 1 : Nat) : Int) := by rw [e3]; simp [List.getD]
        rw [e2]
        have hm : (ov es bs k).getD i 0 ∈ ov es bs k := by simp [List.getD, show i < (ov es bs k).length by omega]
        have := ov_mem hm
        omega
theorem ov_at {es bs : List Int} {k i : Nat} (hi : i < (ov es bs k).length) : ∃ l : Nat, (ov es bs k).getD i 0 = (l : Int) ∧ 1 ≤ l ∧ l ≤ k ∧ endsB es bs l = true := by
  have hm : (ov es bs k).getD i 0 ∈ ov es bs k := by simp [List.getD, hi]
  unfold ov at hm
  obtain ⟨j, hj, e⟩ := List.mem_map.1 hm
  obtain ⟨h1, h2⟩ := List.mem_filter.1 hj
  have h1 := List.mem_range.1 h1
  exact ⟨j + 1, e.symm, by omega, by omega, h2⟩
theorem ov_self {xs : List Int} (h1 : 1 ≤ xs.length) : 0 < (ov xs xs xs.length).length ∧ (ov xs xs xs.length).getD ((ov xs xs xs.length).length - 1) 0 = (xs.length : Int) := by
  rw [ov_yes' h1 (endsB_self xs)]
  refine ⟨by simp, ?_⟩
  simp [List.getD]
theorem border_same {xs : List Int} {l : Nat} (hl : l ≤ xs.length) (h : endsB xs xs l = true) : eqL (xs.drop (xs.length - l)) (xs.take l) = true := by
  simpa [endsB, hl] using h

/-! ### the best rival -/
def bitW (n c : Nat) : List Int := (List.range n).map fun j => ((c / 2 ^ j % 2 : Nat) : Int)
def rivalB (n c : Nat) : Bool := decide ((brS (bitW n c) (2 ^ n)).1.length = n) && !eqL (brS (bitW n c) (2 ^ n)).1 (bitW n c) && ((brS (bitW n c) (2 ^ n)).1.all fun x => decide (0 ≤ x ∧ x < 2)) &&
  decide ((raceR (brS (bitW n c) (2 ^ n)).1 (bitW n c) 2).2 < 2 * (raceR (brS (bitW n c) (2 ^ n)).1 (bitW n c) 2).1)
theorem rival3 : ∀ c : Fin 8, rivalB 3 c = true := by decide +kernel
theorem rival4 : ∀ c : Fin 16, rivalB 4 c = true := by decide +kernel
theorem rival5 : ∀ c : Fin 32, rivalB 5 c = true := by decide +kernel
def codeW : List Int → Nat
  | [] => 0
  | x :: xs => x.toNat + 2 * codeW xs
theorem bitW_succ (n c : Nat) : bitW (n + 1) c = ((c % 2 : Nat) : Int) :: bitW n (c / 2) := by
  unfold bitW
  rw [List.range_succ_eq_map, List.map_cons, List.map_map]
  congr 1
  · simp
  · refine List.map_congr_left fun j _ => ?_
    simp only [Function.comp]
    rw [Nat.pow_succ, Nat.mul_comm, Nat.div_div_eq_div_mul]
theorem codeW_spec : ∀ (xs : List Int), (∀ x ∈ xs, 0 ≤ x ∧ x < 2) → codeW xs < 2 ^ xs.length ∧ bitW xs.length (codeW xs) = xs
  | [], _ => ⟨by simp [codeW], rfl⟩
  | x :: xs, h => by
    obtain ⟨h1, h2⟩ := codeW_spec xs fun y hy => h y (by simp [hy])
    have h3 := h x (by simp)
    have e1 : codeW (x :: xs) = x.toNat + 2 * codeW xs := rfl
    have e2 : (codeW (x :: xs)) % 2 = x.toNat := by omega
    have e3 : (codeW (x :: xs)) / 2 = codeW xs := by omega
    constructor
    · rw [List.length_cons, Nat.pow_succ]; omega
    · rw [List.length_cons, bitW_succ, e2, e3, h2]
      congr 1
      omega
theorem rival_facts {xs : List Int} (hb : ∀ x ∈ xs, 0 ≤ x ∧ x < 2) (h3 : 3 ≤ xs.length) (h5 : xs.length ≤ 5) :
    (brS xs (2 ^ xs.length)).1.length = xs.length ∧ eqL (brS xs (2 ^ xs.length)).1 xs = false ∧ (∀ x ∈ (brS xs (2 ^ xs.length)).1, 0 ≤ x ∧ x < 2) ∧
      (raceR (brS xs (2 ^ xs.length)).1 xs 2).2 < 2 * (raceR (brS xs (2 ^ xs.length)).1 xs 2).1 := by
  obtain ⟨h1, h2⟩ := codeW_spec xs hb
  have key : rivalB xs.length (codeW xs) = true := by
    have : xs.length = 3 ∨ xs.length = 4 ∨ xs.length = 5 := by omega
    rcases this with e | e | e
    · rw [e] at h1 ⊢; exact rival3 ⟨_, h1⟩
    · rw [e] at h1 ⊢; exact rival4 ⟨_, h1⟩
    · rw [e] at h1 ⊢; exact rival5 ⟨_, h1⟩
  unfold rivalB at key
  rw [h2] at key
  simp only [Bool.and_eq_true, decide_eq_true_eq, Bool.not_eq_true', List.all_eq_true] at key
  exact ⟨key.1.1.1, key.1.1.2, key.1.2, key.2⟩
theorem word_of {xs : List Int} {s n : Nat} (hb : ∀ x ∈ xs, 0 ≤ x ∧ x < (s : Int)) (hl : xs.length = n) (h1 : 1 ≤ n) (h12 : n ≤ 12) (hs : 2 ≤ s) (hs6 : s ≤ 6) : wordB xs (s : Int) = true := by
  unfold wordB
  have : (xs.any fun x => !inB x 0 ((s : Int) - 1)) = false := by
    rw [List.any_eq_false]
    intro x hx
    have := hb x hx
    rw [inB_t (by omega)]
    simp
  rw [this, inB_t (by omega)]
  simp
  omega
end Go.Proofs.Ytpfaefflbjpllaa
