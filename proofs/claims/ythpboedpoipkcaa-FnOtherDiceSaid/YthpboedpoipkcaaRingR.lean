/- FindRing on both sides: the same three dice, a ring, or none. Conditions: none. -/
import Derived.Test.YthpboedpoipkcaaFindI
namespace Go.Proofs.Ythpboedpoipkcaa
open Go.ChangeShapes Go.WideShapes Go.ChangeAt Go.RowKit

theorem dies_all : ∀ n : Fin 2, ∀ m : Fin 6, ((growL (m.val + 1) (n.val + 2) 1).all dieB) = true := by decide +kernel
theorem dieAt_ok {n m : Nat} (hn : 2 ≤ n) (hn3 : n ≤ 3) (hm : 1 ≤ m) (hm6 : m ≤ 6) (i : Nat) : dieB (dieAt n m i) = true := by
  have h1 := dies_all ⟨n - 2, by omega⟩ ⟨m - 1, by omega⟩
  simp only [show n - 2 + 2 = n by omega, show m - 1 + 1 = m by omega, List.all_eq_true] at h1
  have hc := (chain_facts hn hn3 hm hm6).1
  refine h1 _ ?_
  unfold dieAt
  have hlt : min i ((growL m n 1).length - 1) < (growL m n 1).length := by omega
  simp [List.getD, hlt]
theorem ring_of {n m i j k : Nat} (hn : 2 ≤ n) (hn3 : n ≤ 3) (hm : 1 ≤ m) (hm6 : m ≤ 6) (h : ring3 n m i j k = true) : RIsRing [dieAt n m i, dieAt n m j, dieAt n m k] = (true, true) := by
  simp only [ring3, Bool.and_eq_true] at h
  obtain ⟨h1, h2, h3⟩ := h
  have hd : diceB [dieAt n m i, dieAt n m j, dieAt n m k] = true := by
    unfold diceB
    rw [badD_f (fun x hx => ?_)]
    · simp
    · have hx : x < 3 := hx
      match x, hx with
      | 0, _ => exact dieAt_ok hn hn3 hm hm6 i
      | 1, _ => exact dieAt_ok hn hn3 hm hm6 j
      | 2, _ => exact dieAt_ok hn hn3 hm hm6 k
  have hr : ringB [dieAt n m i, dieAt n m j, dieAt n m k] = true := by
    refine ringB_t fun x hx => ?_
    have hx : x < 3 := hx
    match x, hx with
    | 0, _ => simp [lostB, h1]
    | 1, _ => simp [lostB, h2]
    | 2, _ => simp [lostB, h3]
  unfold RIsRing
  rw [hd, hr]
  rfl
theorem first_only {n m N i j k i' j' k' : Nat} (hi : i < N) (hj : j < N) (hk : k < N) (hi' : i' < N) (hj' : j' < N) (hk' : k' < N)
    (h1 : noRing n m N i j k) (h2 : ring3 n m i j k = true) (h3 : noRing n m N i' j' k') (h4 : ring3 n m i' j' k' = true) : i = i' ∧ j = j' ∧ k = k' := by
  by_cases e1 : i' < i ∨ i' = i ∧ (j' < j ∨ j' = j ∧ k' < k)
  · rw [h1 i' j' k' hi' hj' hk' e1] at h4; simp at h4
  · by_cases e2 : i < i' ∨ i = i' ∧ (j < j' ∨ j = j' ∧ k < k')
    · rw [h3 i j k hi hj hk e2] at h2; simp at h2
    · omega
theorem first_none {n m N i j k : Nat} (hi : i < N) (hj : j < N) (hk : k < N) (h2 : ring3 n m i j k = true) (h3 : noRing n m N N 0 0) : False := by
  rw [h3 i j k hi hj hk (.inl hi)] at h2; simp at h2

/-- An own slice of rows, or none at all. -/
def OwnY (w : World) (t : TypeId) (lo hi : Nat) (v : Value) (xss : List (List Int)) : Prop := (xss = [] ∧ v = .slice none 0 0) ∨ OwnX w t lo hi v xss
section
variable {w w' : World} {t : TypeId} {lo hi : Nat} {v : Value} {xss : List (List Int)}
theorem OwnY.rv (h : OwnY w t lo hi v xss) : RVR w v xss := by
  rcases h with ⟨rfl, rfl⟩ | h
  · exact RVR.mk (RdR.nil _ _) (Nat.le_refl _)
  · exact h.rv
theorem OwnY.below (h : OwnY w t lo hi v xss) (hb : Below w.heap.size w w') : OwnY w' t lo hi v xss := by
  rcases h with h | h
  · exact .inl h
  · exact .inr (h.below hb)
end
set_option maxHeartbeats 800000 in
theorem markDY (lo hi : Nat) (v : Value) (xss : List (List Int)) (w : World) (ho : OwnY w 27 lo hi v xss) (htot : tot xss ≤ 1048576) :
    Calls Try.prog 35 #[v, .int .i64 1] w fun e w' => e = .returned (.int .i64 ((mkTo xss xss.length : Nat) : Int)) ∧ Kept lo hi w w' ∧ RVR w' v (mkRows xss) := by
  rcases ho with ⟨rfl, rfl⟩ | h
  · have h1 : ((mkTo ([] : List (List Int)) ([] : List (List Int)).length : Nat) : Int) = 1 := rfl
    have h2 : mkRows [] = [] := rfl
    rw [h1, h2]
    go_enter Try.func35, Try.ntmps35
    go_wp2
    go_loopw [1, 5] (fun m i wr => i = .int .i64 0 ∧ m = .int .i64 1 ∧ wr = w) (fun _ _ _ => 0)
    case atStart => exact ⟨rfl, rfl, rfl⟩
    case round =>
      obtain ⟨rfl, rfl, rfl⟩ := hrel
      go_wp2
      go_ret
      exact ⟨rfl, Kept.refl _ _ _, RVR.mk (RdR.nil _ _) (Nat.le_refl _)⟩
  · exact markDX lo hi v xss w h htot

set_option maxHeartbeats 800000 in
theorem iOut (F M : Int) (w : World) (h : ¬ ((2 ≤ F ∧ F ≤ 3) ∧ 1 ≤ M ∧ M ≤ 6)) : Calls Try.prog 34 #[.int .i64 F, .int .i64 M] w fun e w' => e = .returned (.tuple #[.slice none 0 0, .bool false]) ∧ Below w.heap.size w w' := by
  have H1 := Lib.hid (iIn F 2 3 w)
  have H2 := Lib.hid (iIn M 1 6 w)
  by_cases h1 : 2 ≤ F ∧ F ≤ 3
  · rw [inB_t h1] at H1
    rw [inB_f (by omega)] at H2
    go_enter Try.func34, Try.ntmps34
    go_wp2_with (go_at_call 57; first | (with_reducible refine H1.out.mono ?_; rintro e w' ⟨rfl, rfl⟩) | (with_reducible refine H2.out.mono ?_; rintro e w' ⟨rfl, rfl⟩))
    go_ret2
    exact ⟨rfl, Below.refl _ _⟩
  · rw [inB_f h1] at H1
    go_enter Try.func34, Try.ntmps34
    go_wp2_with (go_at_call 57; first | (with_reducible refine H1.out.mono ?_; rintro e w' ⟨rfl, rfl⟩))
    go_ret2
    exact ⟨rfl, Below.refl _ _⟩
set_option maxHeartbeats 800000 in
theorem sOut (F M : Int) (w : World) (h : ¬ ((2 ≤ F ∧ F ≤ 3) ∧ 1 ≤ M ∧ M ≤ 6)) : Calls Try.prog 33 #[.int .i64 F, .int .i64 M] w fun e w' => e = .returned (.tuple #[.slice none 0 0, .bool false]) ∧ Below w.heap.size w w' := by
  have H1 := Lib.hid (sIn F 2 3 w)
  have H2 := Lib.hid (sIn M 1 6 w)
  by_cases h1 : 2 ≤ F ∧ F ≤ 3
  · rw [inB_t h1] at H1
    rw [inB_f (by omega)] at H2
    go_enter Try.func33, Try.ntmps33
    go_wp2_with (go_at_call 60; first | (with_reducible refine H1.out.mono ?_; rintro e w' ⟨rfl, rfl⟩) | (with_reducible refine H2.out.mono ?_; rintro e w' ⟨rfl, rfl⟩))
    go_ret2
    exact ⟨rfl, Below.refl _ _⟩
  · rw [inB_f h1] at H1
    go_enter Try.func33, Try.ntmps33
    go_wp2_with (go_at_call 60; first | (with_reducible refine H1.out.mono ?_; rintro e w' ⟨rfl, rfl⟩))
    go_ret2
    exact ⟨rfl, Below.refl _ _⟩

/-- both sides of FindRing -/
theorem ring_both (F M : Int) : ∃ xss b, (b = true → RIsRing xss = (true, true) ∧ xss.length = 3) ∧ tot xss ≤ 1048576 ∧
    (∀ W, Calls Try.prog 34 #[.int .i64 F, .int .i64 M] W fun e w' => ∃ r, e = .returned (.tuple #[r, .bool b]) ∧ Below W.heap.size W w' ∧ OwnY w' 27 W.heap.size w'.heap.size r xss) ∧
    (∀ W, Calls Try.prog 33 #[.int .i64 F, .int .i64 M] W fun e w' => ∃ r, e = .returned (.tuple #[r, .bool b]) ∧ Below W.heap.size W w' ∧ RVR w' r xss) := by
  by_cases h : (2 ≤ F ∧ F ≤ 3) ∧ 1 ≤ M ∧ M ≤ 6
  · obtain ⟨⟨h1, h2⟩, h3, h4⟩ := h
    obtain ⟨f, rfl⟩ : ∃ f : Nat, F = f := ⟨F.toNat, by omega⟩
    obtain ⟨m, rfl⟩ : ∃ m : Nat, M = m := ⟨M.toNat, by omega⟩
    have g1 : 2 ≤ f := by omega
    have g2 : f ≤ 3 := by omega
    have g3 : 1 ≤ m := by omega
    have g4 : m ≤ 6 := by omega
    obtain ⟨N, hN⟩ : ∃ N, N = (growL m f 1).length := ⟨_, rfl⟩
    by_cases hr : ∃ i j k, i < N ∧ j < N ∧ k < N ∧ noRing f m N i j k ∧ ring3 f m i j k = true
    · obtain ⟨i, j, k, hi, hj, hk, hno, hri⟩ := hr
      obtain ⟨N', -, -, -, -, hl, -⟩ := dieAt_facts g1 g2 g3 g4
      refine ⟨[dieAt f m i, dieAt f m j, dieAt f m k], true, fun _ => ⟨ring_of g1 g2 g3 g4 hri, rfl⟩, ?_, fun W => (iFind f m N W g1 g2 g3 g4 hN).mono ?_, fun W => (sFind f m N W g1 g2 g3 g4 hN).mono ?_⟩
      · show totTo _ 3 ≤ _
        simp only [totTo, List.getD, List.getElem?_cons_zero, List.getElem?_cons_succ, Option.getD_some, hl]
        simp
        omega
      · rintro e w' ⟨hb, ⟨i', j', k', r, hi', hj', hk', hno', hri', rfl, ho⟩ | ⟨hno', -⟩⟩
        · obtain ⟨rfl, rfl, rfl⟩ := first_only hi hj hk hi' hj' hk' hno hri hno' hri'
          exact ⟨r, rfl, hb, .inr ho⟩
        · exact (first_none hi hj hk hri hno').elim
      · rintro e w' ⟨hb, ⟨i', j', k', r, hi', hj', hk', hno', hri', rfl, ho⟩ | ⟨hno', -⟩⟩
        · obtain ⟨rfl, rfl, rfl⟩ := first_only hi hj hk hi' hj' hk' hno hri hno' hri'
          exact ⟨r, rfl, hb, ho⟩
        · exact (first_none hi hj hk hri hno').elim
    · refine ⟨[], false, (fun h => nomatch h), by decide, fun W => (iFind f m N W g1 g2 g3 g4 hN).mono ?_, fun W => (sFind f m N W g1 g2 g3 g4 hN).mono ?_⟩
      · rintro e w' ⟨hb, ⟨i', j', k', r, hi', hj', hk', hno', hri', rfl, ho⟩ | ⟨-, rfl⟩⟩
        · exact (hr ⟨i', j', k', hi', hj', hk', hno', hri'⟩).elim
        · exact ⟨_, rfl, hb, .inl ⟨rfl, rfl⟩⟩
      · rintro e w' ⟨hb, ⟨i', j', k', r, hi', hj', hk', hno', hri', rfl, ho⟩ | ⟨-, rfl⟩⟩
        · exact (hr ⟨i', j', k', hi', hj', hk', hno', hri'⟩).elim
        · exact ⟨_, rfl, hb, RVR.mk (RdR.nil _ _) (Nat.le_refl _)⟩
  · refine ⟨[], false, (fun h => nomatch h), by decide, fun W => (iOut F M W h).mono ?_, fun W => (sOut F M W h).mono ?_⟩
    · rintro e w' ⟨rfl, hb⟩
      exact ⟨_, rfl, hb, .inl ⟨rfl, rfl⟩⟩
    · rintro e w' ⟨rfl, hb⟩
      exact ⟨_, rfl, hb, RVR.mk (RdR.nil _ _) (Nat.le_refl _)⟩
end Go.Proofs.Ythpboedpoipkcaa
