/- A function's body from a region on: where a great walk is cut into declarations; and plain facts for the law FnWordsAwaited. Conditions: none. -/
import Derived.Test.YtpfaefflbjpllaaAwaitH
import Derived.Test.YtpfaefflbjpllaaShared
import Derived.Test.YtpfaefflbjpllaaFree2
namespace Go.Proofs.Ytpfaefflbjpllaa
open Go.ChangeShapes Go.WideShapes Go.ChangeAt Go.RowKit

/-- the region that a code begins with -/
def startsAt : Code → Nat
  | .region id _ _ => id
  | .seq a _ => startsAt a
  | .block _ c => startsAt c
  | .loop c => startsAt c
  | _ => 0
/-- a body from region k on -/
def sufK (k : Nat) : Code → Option Code
  | .seq a b => if startsAt a = k then some (.seq a b) else sufK k b
  | _ => none

theorem formN {w : World} {lo hi n : Nat} {v : Value} {xs : List Int} (h : Own w lo hi v xs) (hl : xs.length = n) (h0 : 0 < n) : ∃ g c, v = .slice (some ⟨g, 0, none⟩) n c ∧ n ≤ c ∧ g < w.heap.size ∧ lo ≤ g ∧ ∀ j, j < n → w.cell? ⟨g, j, none⟩ = some (.int .i64 (xs.getD j 0)) := by
  obtain ⟨A, c, e, hc, _, hr, hf⟩ := h.form
  rw [hl] at e hc hr
  obtain ⟨ad, rfl, hb, _⟩ := hr.int (k := 0) h0
  obtain ⟨e2, hlo, _⟩ := hf ad rfl
  refine ⟨ad.block, c, by rw [e]; congr 2, hc, hb, hlo, fun j hj => ?_⟩
  obtain ⟨ad', e3, _, hc'⟩ := hr.int (k := j) hj
  injection e3 with e3
  subst e3
  rw [e2, Addr.add_lit] at hc'
  simpa using hc'

theorem ov_one : ov [1] [1] 1 = [1] := by decide
theorem wait_one {s : Nat} (hs2 : 2 ≤ s) (hs3 : s ≤ 3) : wordB [1] (s : Int) = true ∧ (RWordWait [1] (s : Int)).1 = (s : Int) := by
  have hw : wordB [1] (s : Int) = true := word_of (n := 1) (fun x hx => by rw [List.mem_singleton] at hx; omega) rfl (by omega) (by omega) hs2 (by omega)
  refine ⟨hw, ?_⟩
  rw [RWordWait, if_pos hw]
  show ((psum (s : Int).toNat 0 (ov [1] [1] 1) : Nat) : Int) = _
  rw [ov_one, Int.toNat_natCast]
  simp [psum]
theorem shared_two {ws : List Int} {s S : Nat} {m : Int} (hw : wordB ws (s : Int) = true) (hS : RWordWait ws (s : Int) = ((S : Int), true)) (hs2 : 2 ≤ s) (hs3 : s ≤ 3) (hm : 1 ≤ m ∧ m ≤ 8) :
    RWaitsShared [ws, [1]] (s : Int) m = ([(S : Int), (s : Int)], true) := by
  obtain ⟨h1, h2⟩ := wait_one hs2 hs3
  have hok : wsOk [ws, [1]] (s : Int) m = true := ws_ok (by simp) (inB_t hm) fun k hk => by
    match k, hk with
    | 0, _ => exact hw
    | 1, _ => exact h1
    | k + 2, hk => exact absurd hk (by simp)
  rw [RWaitsShared, if_pos hok]
  show ([(RWordWait ws (s : Int)).1, (RWordWait [1] (s : Int)).1], true) = _
  rw [hS, h2]
theorem raceX_le {xs ys : List Int} {s : Nat} (hs : s ≤ 6) (hl : ys.length ≤ 12) : raceX xs ys s ≤ 26121388032 := by
  have := psum_ov_le hs ys ys (k := ys.length) hl
  unfold raceX
  omega
theorem race_two {xs ys : List Int} {s n : Nat} (hs2 : 2 ≤ s) (hs6 : s ≤ 6) (h1 : 1 ≤ n) (h12 : n ≤ 12) (hx : wordB xs (s : Int) = true) (hy : wordB ys (s : Int) = true) (hlx : xs.length = n) (hly : ys.length = n) :
    ∃ a b c d : Nat, RWordRace xs ys (s : Int) = ((a : Int), (b : Int), !eqL xs ys) ∧ RWordRace ys xs (s : Int) = ((c : Int), (d : Int), !eqL xs ys) ∧ (eqL xs ys = false → 1 ≤ b ∧ b = d ∧ a + c = b ∧ 1 ≤ a ∧ 1 ≤ c ∧ b ≤ 52242776064) := by
  have i1 := inW_eqlen (xs := xs) (ys := ys) (by omega)
  have i2 := inW_eqlen (xs := ys) (ys := xs) (by omega)
  rw [eqL_comm] at i2
  cases hE : eqL xs ys with
  | true =>
    rw [hE] at i1 i2
    refine ⟨0, 0, 0, 0, RWordRace_no (by simp [raceOk, i1]), RWordRace_no (by simp [raceOk, i1, i2]), fun h => by cases h⟩
  | false =>
    rw [hE] at i1 i2
    have f1 := raceR_facts hs2 (by omega) (by omega) hE
    refine ⟨_, _, _, _, RWordRace_yes (by simp [raceOk, hx, hy, i1, i2]), RWordRace_yes (by simp [raceOk, hx, hy, i1, i2]), fun _ => ?_⟩
    rw [Int.toNat_natCast]
    refine ⟨f1.2.2.2.2, f1.2.2.1, f1.2.2.2.1, f1.1, f1.2.1, ?_⟩
    have l1 := raceX_le (xs := xs) (ys := ys) hs6 (by omega)
    have l2 := raceX_le (xs := ys) (ys := xs) hs6 (by omega)
    have l3 : (raceR xs ys s).2 ≤ raceX xs ys s + raceX ys xs s := Nat.div_le_self _ _
    omega
theorem pow_ok : powOk 2 9 = true ∧ powOk 3 9 = true := by decide +kernel
theorem free_facts {ws : List Int} {s t : Nat} (hw : wordB ws (s : Int) = true) (hl : 1 ≤ ws.length) (hs2 : 2 ≤ s) (hs3 : s ≤ 3) (ht : t ≤ 9) :
    RWordFree ws (s : Int) (t : Int) = ((cA ws s t : Int), true) ∧ cA ws s t ≤ s ^ t ∧ s ^ t ≤ 19683 := by
  have hp : powOk (s : Int) t = true := by
    have : s = 2 ∨ s = 3 := by omega
    rcases this with rfl | rfl
    · exact powOk_lt ht pow_ok.1
    · exact powOk_lt ht pow_ok.2
  have h3 : s ^ t ≤ 19683 := by
    have h4 : s ^ t ≤ 3 ^ t := Nat.pow_le_pow_left hs3 t
    have h5 : 3 ^ t ≤ 3 ^ 9 := Nat.pow_le_pow_right (by omega) ht
    have h6 : (3 : Nat) ^ 9 = 19683 := by decide
    omega
  obtain ⟨g1, g2⟩ := free_count (word := ws) (s := s) (t := t) (by omega) (by omega) (by omega)
  refine ⟨?_, g2, h3⟩
  rw [RWordFree, if_pos (by rw [hw, inB_t (by omega), Int.toNat_natCast, hp]; rfl), Int.toNat_natCast, Int.toNat_natCast, g1]
/-- how many of the first x rows are without the word -/
def cX (ws : List Int) (s t x : Nat) : Nat := sumN (fun y => one (inW ws (rowOf s t y) = false)) x
theorem cX_all (ws : List Int) (s t : Nat) : cX ws s t (s ^ t) = cA ws s t := rfl
theorem cX_in {ws : List Int} {s t x : Nat} (h : inW ws (rowOf s t x) = true) : cX ws s t (x + 1) = cX ws s t x := by
  show sumN _ x + one (inW ws (rowOf s t x) = false) = _
  rw [h]; rfl
theorem cX_out {ws : List Int} {s t x : Nat} (h : inW ws (rowOf s t x) = false) : cX ws s t (x + 1) = cX ws s t x + 1 := by
  show sumN _ x + one (inW ws (rowOf s t x) = false) = _
  rw [h]; rfl
theorem cX_le (ws : List Int) (s t x : Nat) : cX ws s t x ≤ x := by
  have := sumN_le (f := fun y => one (inW ws (rowOf s t y) = false)) (g := fun _ => 1) (n := x) (fun i _ => one_le _)
  rw [sumN_const] at this
  unfold cX
  omega
theorem rival_two {bits : List Int} (hb : InM 2 bits) (h3 : 3 ≤ bits.length) (h5 : bits.length ≤ 5) :
    ∃ (r : List Int) (p q : Nat), RBestRival bits = (r, true) ∧ r.length = bits.length ∧ RWordRace r bits 2 = ((p : Int), (q : Int), true) ∧ q < 2 * p ∧ p ≤ q ∧ q ≤ 52242776064 := by
  have hw : wordB bits ((2 : Nat) : Int) = true := word_of hb rfl (by omega) (by omega) (by omega) (by omega)
  have hok : brOk bits = true := by
    unfold brOk
    rw [show wordB bits 2 = true from hw]
    simp
    omega
  obtain ⟨f1, f2, f3, f4⟩ := rival_facts hb h3 h5
  have hwr : wordB (brS bits (2 ^ bits.length)).1 ((2 : Nat) : Int) = true := word_of (fun x hx => by have := f3 x hx; omega) f1 (by omega) (by omega) (by omega) (by omega)
  have hrr := raceR_facts (s := 2) (by omega) f1 (by omega) f2
  have l1 := raceX_le (xs := (brS bits (2 ^ bits.length)).1) (ys := bits) (s := 2) (by omega) (by omega)
  have l2 := raceX_le (xs := bits) (ys := (brS bits (2 ^ bits.length)).1) (s := 2) (by omega) (by omega)
  have l3 : (raceR (brS bits (2 ^ bits.length)).1 bits 2).2 ≤ raceX (brS bits (2 ^ bits.length)).1 bits 2 + raceX bits (brS bits (2 ^ bits.length)).1 2 := Nat.div_le_self _ _
  have i1 := inW_eqlen f1
  have i2 := inW_eqlen f1.symm
  rw [eqL_comm, f2] at i2
  rw [f2] at i1
  refine ⟨_, (raceR (brS bits (2 ^ bits.length)).1 bits 2).1, (raceR (brS bits (2 ^ bits.length)).1 bits 2).2, by rw [RBestRival, if_pos hok], f1, RWordRace_yes ?_, f4, by omega, by omega⟩
  unfold raceOk
  rw [show wordB (brS bits (2 ^ bits.length)).1 2 = true from hwr, show wordB bits 2 = true from hw, i1, i2]
  rfl
theorem lSameV (v u : Value) (xs ys : List Int) (w : World) (hv : RV w v xs) (hu : RV w u ys) (hn : xs.length ≤ 1048576) (hm : ys.length ≤ 1048576) :
    Calls Try.prog 36 #[v, u] w fun e w' => e = .returned (.bool (eqL xs ys)) ∧ ∃ q, w' = w.drewN q := by
  obtain ⟨A, c, rfl, hr, _⟩ := hv
  obtain ⟨B, d, rfl, hr2, _⟩ := hu
  exact lSame A B _ _ c d xs ys w hr hr2 hn hm
theorem drew_more (w : World) (q x q2 : Nat) : ∃ n, (w.drewN (q + x)).drewN q2 = w.drewN (q + n) := ⟨x + q2, by rw [World.drewN_drewN, Nat.add_assoc]⟩


end Go.Proofs.Ytpfaefflbjpllaa
