/- Contracts of AreHands, both sides. Conditions: lengths at most 2^20. -/
import Derived.Test.YtkbeelbklganaaaHands
namespace Go.Proofs.Ytkbeelbklganaaa
open Go.ChangeShapes Go.WideShapes Go.ChangeAt Go.RowKit

theorem any_yes {xs : List Int} {k : Nat} {v : Int} (hk : k < xs.length) (h : xs.getD k 0 = v) : xs.any (v == ·) = true := by
  rw [List.any_eq_true]
  exact ⟨xs[k], List.getElem_mem _, by simp [← h, List.getD, hk]⟩
theorem any_no {xs : List Int} {v : Int} (h : ∀ k, k < xs.length → xs.getD k 0 ≠ v) : xs.any (v == ·) = false := miss_of (v == ·) xs fun j hj => by
  have := h j hj
  simp only [beq_eq_false_iff_ne, ne_eq]
  exact fun e => this e.symm

set_option maxHeartbeats 800000 in
theorem sHas (A : Option Addr) (n c : Nat) (xs : List Int) (v : Int) (w : World) (hr : Rd w A n (iv xs)) (hn : n ≤ 1048576 * 4) :
    Calls Try.prog 75 #[.slice A n c, .int .i64 v] w fun e w' => e = .returned (.bool (xs.any (v == ·))) ∧ w = w' := by
  have hlen := hr.len
  have Hyes : Hid (∀ k, k < n → xs.getD k 0 = v → xs.any (v == ·) = true) := hide fun k hk h => any_yes (by omega) h
  have Hno : Hid ((∀ k, k < n → xs.getD k 0 ≠ v) → xs.any (v == ·) = false) := hide fun h => any_no (by rw [hlen]; exact h)
  generalize xs.any (v == ·) = R at *
  clear hlen
  go_enter Try.func75, Try.ntmps75
  go_wp2
  go_loop [5] (fun i => ∃ k : Nat, k ≤ n ∧ i = .int .i64 k ∧ Hid (∀ j, j < k → xs.getD j 0 ≠ v)) (fun i => n - (intOf i).toNat)
  case atStart => exact ⟨0, Nat.zero_le _, rfl, hide fun j hj => absurd hj (by omega)⟩
  case round =>
    obtain ⟨k, hk, rfl, hfa⟩ := hrel
    by_cases hlt : k < n
    · obtain ⟨ad, rfl, hbl, hc⟩ := hr.int hlt
      generalize hy : xs.getD k 0 = y at *
      have HY := hide hy
      clear hy
      cases hq : (y == v) with
      | true =>
        have HR := hide (Hyes.out k hlt (by rw [HY.out]; simpa using hq))
        go_wp2
        go_ret
        exact ⟨ret_bool HR.out.symm, rfl⟩
      | false =>
        have Hne : Hid (y ≠ v) := hide (by simpa using hq)
        go_wp2
        go_round
        case rel =>
          refine ⟨k + 1, by omega, by go_num, hide fun j hj => ?_⟩
          by_cases e : j = k
          · subst e
            rw [HY.out]; exact Hne.out
          · exact hfa.out j (by omega)
        case measure => simp [intOf]; omega
    · have hkn : k = n := by omega
      have HR := hide (Hno.out (by rw [← hkn]; exact hfa.out))
      clear hkn
      go_wp2
      go_ret
      exact ⟨ret_bool HR.out.symm, rfl⟩

/-- different cards -/
def cardsB (xs : List Int) : Bool := (List.range xs.length).all (cardAt xs)
theorem cardsB_bad {xs : List Int} {k : Nat} (hk : k < xs.length) (h : cardAt xs k = false) : cardsB xs = false := by
  unfold cardsB
  rw [List.all_eq_false]
  exact ⟨k, by simpa using hk, by simp [h]⟩
theorem cardsB_ok {xs : List Int} (ha : ∀ k, k < xs.length → cardAt xs k = true) : cardsB xs = true := by
  unfold cardsB
  rw [List.all_eq_true]
  intro x hx
  exact ha x (by simpa using hx)

set_option maxHeartbeats 800000 in
theorem sCards (A : Option Addr) (n c : Nat) (xs : List Int) (w : World) (hr : Rd w A n (iv xs)) (hn : n ≤ 1048576 * 4) (hcap : n ≤ c) :
    Calls Try.prog 65 #[.slice A n c] w fun e w' => e = .returned (.bool (cardsB xs)) ∧ ∃ q, w' = w.drewN q := by
  have hlen := hr.len
  have Hok : Hid ((∀ k, k < xs.length → cardAt xs k = true) → cardsB xs = true) := hide cardsB_ok
  have Hbad : Hid (∀ k, k < xs.length → cardAt xs k = false → cardsB xs = false) := hide fun k hk h => cardsB_bad hk h
  generalize cardsB xs = R at *
  have Hlen := hide hlen
  clear hlen
  go_enter Try.func65, Try.ntmps65
  go_wp2
  go_loopw [3] (fun i wr => ∃ k : Nat, k ≤ n ∧ i = .int .i64 k ∧ Hid (∀ j, j < k → cardAt xs j = true) ∧ Hid (∃ q, wr = w.drewN q)) (fun i _ => n - (intOf i).toNat)
  case atStart => exact ⟨0, Nat.zero_le _, rfl, hide fun j hj => absurd hj (by omega), hide ⟨0, rfl⟩⟩
  case round =>
    obtain ⟨k, hk, rfl, hfa, hq0⟩ := hrel
    obtain ⟨q0, rfl⟩ := hq0.out
    by_cases hlt : k < n
    · obtain ⟨ad, rfl, hbl, hc⟩ := hr.int hlt
      have hT := hr.take (m := k) hk
      rw [← List.map_take] at hT
      have HC : Hid (cardAt xs k = (inB (xs.getD k 0) 0 51 && !(xs.take k).any (xs.getD k 0 == ·))) := hide rfl
      generalize hy : xs.getD k 0 = y at *
      have HY := hide hy
      clear hy
      have hs0 := fun W => sIn y 0 51 W
      have dk : decide (k < n) = true := decide_eq_true hlt
      have f1 : (0 : Int) ≤ (k : Int) := by omega
      have f2 : (k : Int) ≤ (c : Int) := by omega
      have f3 : k ≤ c := by omega
      cases hq : inB y 0 51 with
      | false =>
        simp only [hq] at hs0
        have HS := Lib.hid hs0
        clear hs0
        have HR := hide (Hbad.out k (by rw [Hlen.out]; exact hlt) (by rw [HC.out, hq]; rfl))
        go_wp2
        go_quiet ((go_at_call 52; refine (HS.out _).mono ?_; rintro e w' ⟨rfl, rfl⟩; exact ⟨rfl, _, rfl⟩))
        go_wp2
        go_ret
        exact ⟨ret_bool HR.out.symm, by repeat (first | exact ⟨_, rfl⟩ | exact drew2 _ _ _)⟩
      | true =>
        simp only [hq] at hs0
        have HS := Lib.hid hs0
        clear hs0
        have hh0 := fun q => sHas (some ad) k c (xs.take k) y (w.drewN q) (hT.drewN q) (by omega)
        cases hq2 : (xs.take k).any (y == ·) with
        | true =>
          simp only [hq2] at hh0
          have HH := Lib.hid hh0
          clear hh0
          have HR := hide (Hbad.out k (by rw [Hlen.out]; exact hlt) (by rw [HC.out, hq2]; simp))
          go_wp2
          go_quiet ((first | (go_at_call 52; refine (HS.out _).mono ?_; rintro e w' ⟨rfl, rfl⟩; exact ⟨rfl, _, rfl⟩) | (go_at_call 75; refine (HH.out _).mono ?_; rintro e w' ⟨rfl, rfl⟩; exact ⟨rfl, _, rfl⟩)))
          go_wp2
          go_ret
          exact ⟨ret_bool HR.out.symm, by repeat (first | exact ⟨_, rfl⟩ | exact drew2 _ _ _)⟩
        | false =>
          simp only [hq2] at hh0
          have HH := Lib.hid hh0
          clear hh0
          have Hg : Hid (cardAt xs k = true) := hide (by rw [HC.out, hq, hq2]; rfl)
          go_wp2
          go_quiet ((first | (go_at_call 52; refine (HS.out _).mono ?_; rintro e w' ⟨rfl, rfl⟩; exact ⟨rfl, _, rfl⟩) | (go_at_call 75; refine (HH.out _).mono ?_; rintro e w' ⟨rfl, rfl⟩; exact ⟨rfl, _, rfl⟩)))
          go_wp2
          go_roundw
          case measure => simp [intOf]; omega
          case rel =>
            refine ⟨k + 1, by omega, by go_num, hide fun j hj => ?_, hide (by repeat (first | exact ⟨_, rfl⟩ | exact drew2 _ _ _))⟩
            by_cases e : j = k
            · subst e
              exact Hg.out
            · exact hfa.out j (by omega)
    · have hkn : k = n := by omega
      have HR := hide (Hok.out (by rw [Hlen.out, ← hkn]; exact hfa.out))
      clear hkn
      go_wp2
      go_ret
      exact ⟨ret_bool HR.out.symm, _, rfl⟩

def RAreHands (xs ys : List Int) : Bool := decide (xs.length = ys.length ∧ xs.length ≤ 6) && cardsB (xs ++ ys)

set_option maxHeartbeats 800000 in
theorem sAreHands0 (v : Value) (xs : List Int) (u : Value) (ys : List Int) (w : World) (hv : RV w v xs) (hu : RV w u ys) (hn : xs.length ≤ 1048576) (hm : ys.length ≤ 1048576) :
    Calls Try.prog 48 #[v, u] w fun e w' => e = .returned (.bool (RAreHands xs ys)) ∧ Below w.heap.size w w' := by
  obtain ⟨A, c, rfl, hr, hc⟩ := hv
  obtain ⟨B, d, rfl, hr2, hd⟩ := hu
  by_cases h1 : xs.length = ys.length
  · by_cases h2 : xs.length ≤ 6
    · have HR : Hid (RAreHands xs ys = cardsB (xs ++ ys)) := hide (by rw [RAreHands, decide_eq_true ⟨h1, h2⟩]; rfl)
      have HC := Lib.hid (fun A L c W (h : Rd W A L (iv (xs ++ ys))) (hc : L ≤ c) => sCards A L c (xs ++ ys) W h (by have := h.len; simp at this; omega) hc)
      rw [← h1] at hr2 hd hm ⊢
      generalize hX : xs.length = n at *
      have HX := hide hX
      have d6 : decide ((n : Int) ≤ 6) = true := decide_eq_true (by omega)
      have d7 : decide (6 < (n : Int)) = false := decide_eq_false (by omega)
      have d8 : decide (6 < n) = false := decide_eq_false (by omega)
      clear hX h1
      go_enter Try.func48, Try.ntmps48
      have tok1 : True := trivial
      go_wp2_with (first
        | (at_builtin; have _t := tok1; refine appR (A := A) (m := n) (c := c) (ys := xs) (lo := w.heap.size) (xs := []) (OwnL.empty w #[] rfl (Nat.le_refl _)) (hr.alloc _) (by simp; omega) (by simp) rfl rfl rfl rfl ?_; intro v1 w1 ho1 hg1 _; have hb1 : Below w.heap.size w w1 := ((Below.refl _ _).alloc (Nat.le_refl _) _).grown hg1 (by simp) (fun k e => by simp [Value.ownBlock] at e; omega); have hr2' := hr2.below hb1; have Hlt1 := hide ho1.lt; rw [List.nil_append] at ho1; clear tok1)
        | (at_builtin; refine appR (A := B) (m := n) (c := d) (ys := ys) ho1 hr2' (by rw [HX.out]; omega) hb1.size rfl rfl rfl rfl ?_; intro v2 w2 ho2 hg2 _; have hb2 : Below w.heap.size w w2 := hb1.grown hg2 hb1.size (fun k e => (Hlt1.out k e).1); obtain ⟨A2, c2, hv2, hc2, _, hrr, _⟩ := ho2.own.form; generalize (xs ++ ys).length = L at hv2 hc2 hrr; subst hv2)
        | (go_at_call 65; refine (HC.out _ _ _ _ hrr hc2).mono ?_; rintro e w' ⟨rfl, q, rfl⟩))
      go_ret
      exact ⟨ret_bool HR.out.symm, below_drewN hb2 _⟩
    · have HR : Hid (RAreHands xs ys = false) := hide (by rw [RAreHands, decide_eq_false (by omega)]; rfl)
      rw [← h1] at hr2 hd hm ⊢
      generalize hX : xs.length = n at *
      have d7 : decide (6 < (n : Int)) = true := decide_eq_true (by omega)
      have d8 : decide (6 < n) = true := decide_eq_true (by omega)
      clear hX h1
      go_enter Try.func48, Try.ntmps48
      go_wp2
      go_ret
      exact ⟨ret_bool HR.out.symm, Below.refl _ _⟩
  · have HR : Hid (RAreHands xs ys = false) := hide (by rw [RAreHands, decide_eq_false (by omega)]; rfl)
    have b1 : ((xs.length : Int) != (ys.length : Int)) = true := by simp; omega
    have b2 : (xs.length != ys.length) = true := by simpa using h1
    generalize xs.length = n at *
    generalize ys.length = m at *
    clear h1
    go_enter Try.func48, Try.ntmps48
    go_wp2
    go_ret
    exact ⟨ret_bool HR.out.symm, Below.refl _ _⟩
theorem sAreHands (v : Value) (xs : List Int) (u : Value) (ys : List Int) (w : World) (hv : RV w v xs) (hu : RV w u ys) (hn : xs.length ≤ 1048576) (hm : ys.length ≤ 1048576) :
    Calls Try.prog 22 #[v, u] w fun e w' => e = .returned (.bool (RAreHands xs ys)) ∧ Below w.heap.size w w' := by
  have H := Lib.hid (sAreHands0 v xs u ys w hv hu hn hm)
  go_enter Try.func22, Try.ntmps22
  go_wp2_with (go_at_call 48; refine H.out.mono ?_; rintro e w' ⟨rfl, hb⟩)
  go_ret
  exact ⟨rfl, hb⟩

theorem cat_cells (w : World) (A B : Option Addr) (n m c d : Nat) : (w.alloc (.cells #[.slice A n c, .slice B m d] 22)).cell? ⟨w.heap.size, 0, none⟩ = some (.slice A n c) ∧ (w.alloc (.cells #[.slice A n c, .slice B m d] 22)).cell? ⟨w.heap.size, 1, none⟩ = some (.slice B m d) := by
  constructor <;> (rw [World.cell?_alloc_at _ _ _ _ rfl]; rfl)
set_option maxHeartbeats 800000 in
theorem iAreHands (v : Value) (xs : List Int) (u : Value) (ys : List Int) (w : World) (hv : RV w v xs) (hu : RV w u ys) (hn : xs.length ≤ 1048576) (hm : ys.length ≤ 1048576) :
    Calls Try.prog 23 #[v, u] w fun e w' => e = .returned (.bool (RAreHands xs ys)) ∧ Below w.heap.size w w' := by
  obtain ⟨A, c, rfl, hr, hc⟩ := hv
  obtain ⟨B, d, rfl, hr2, hd⟩ := hu
  by_cases h1 : xs.length = ys.length
  · by_cases h2 : xs.length ≤ 6
    · by_cases h3 : xs.length = 0
      · have HR : Hid (RAreHands xs ys = true) := hide (by
          have e1 : xs = [] := List.eq_nil_of_length_eq_zero h3
          have e2 : ys = [] := List.eq_nil_of_length_eq_zero (by omega)
          subst e1 e2
          rfl)
        rw [← h1] at hr2 hd hm ⊢
        rw [h3] at *
        clear h1 h2 h3
        go_enter Try.func23, Try.ntmps23
        go_wp2
        go_ret
        exact ⟨ret_bool HR.out.symm, Below.refl _ _⟩
      · have HR : Hid (RAreHands xs ys = handB (xs ++ ys) 2 12) := hide (by
          rw [RAreHands, decide_eq_true ⟨h1, h2⟩, handB, decide_eq_true (by rw [List.length_append]; omega)]; rfl)
        have HC := Lib.hid (fun A L c W (h : Rd W A L (iv (xs ++ ys))) (hc : L ≤ c) => iHand A L c (xs ++ ys) 2 12 W h (by have := h.len; simp at this; omega) hc)
        have Hcat := Lib.hid (libCat2 w.heap.size xs.length ys.length c d A B xs ys _ (hr.alloc (.cells #[.slice A xs.length c, .slice B ys.length d] 22)) (hr2.alloc _) hn hm (by omega) (by omega) (by simp) (by simp) (cat_cells ..).1 (cat_cells ..).2)
        rw [← h1] at hr2 hd hm Hcat ⊢
        generalize hX : xs.length = n at *
        have d6 : decide ((n : Int) ≤ 6) = true := decide_eq_true (by omega)
        have d7 : decide (n ≤ 6) = true := decide_eq_true (by omega)
        have d8 : ((n : Int) == 0) = false := by simp; omega
        have d9 : (n == 0) = false := by simp; omega
        clear hX h1 h3
        go_enter Try.func23, Try.ntmps23
        go_wp2_with (first
          | (go_at_call 50; refine Hcat.out.mono ?_; rintro e w2 ⟨r, rfl, ho2, hb2⟩; obtain ⟨A2, c2, hv2, hc2, _, hrr, _⟩ := ho2.form; generalize (xs ++ ys).length = L at hv2 hc2 hrr; subst hv2)
          | (go_at_call 49; refine (HC.out _ _ _ _ hrr hc2).mono ?_; rintro e w' ⟨rfl, rfl⟩))
        go_ret
        exact ⟨ret_bool HR.out.symm, ((Below.refl _ _).alloc (Nat.le_refl _) _).trans (hb2.mono (by simp))⟩
    · have HR : Hid (RAreHands xs ys = false) := hide (by rw [RAreHands, decide_eq_false (by omega)]; rfl)
      rw [← h1] at hr2 hd hm ⊢
      generalize hX : xs.length = n at *
      have d7 : decide ((n : Int) ≤ 6) = false := decide_eq_false (by omega)
      have d8 : decide (n ≤ 6) = false := decide_eq_false (by omega)
      clear hX h1
      go_enter Try.func23, Try.ntmps23
      go_wp2
      go_ret
      exact ⟨ret_bool HR.out.symm, Below.refl _ _⟩
  · have HR : Hid (RAreHands xs ys = false) := hide (by rw [RAreHands, decide_eq_false (by omega)]; rfl)
    have b1 : ((xs.length : Int) == (ys.length : Int)) = false := by simp; omega
    have b2 : (xs.length == ys.length) = false := by simpa using h1
    generalize xs.length = n at *
    generalize ys.length = m at *
    clear h1
    go_enter Try.func23, Try.ntmps23
    go_wp2
    go_ret
    exact ⟨ret_bool HR.out.symm, Below.refl _ _⟩
end Go.Proofs.Ytkbeelbklganaaa
