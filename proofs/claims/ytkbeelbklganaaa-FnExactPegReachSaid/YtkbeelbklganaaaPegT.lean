/- Contracts of PegLeast and PegReach, both sides. Conditions: lengths at most 2^20. -/
import Derived.Test.YtkbeelbklganaaaPegF
import Derived.Maps.OwnSet
import Derived.BigQuiet
namespace Go.Proofs.Ytkbeelbklganaaa
open Go.ChangeShapes Go.WideShapes Go.ChangeAt Go.RowKit Go.Maps

def pegI (b : List Bool) (r : Nat) : Int := if boardB b.length = true then (r : Int) else 0
theorem pow14 {n : Nat} (h : n ≤ 14) : 2 ^ n ≤ 16384 := by
  have : 2 ^ n ≤ 2 ^ 14 := Nat.pow_le_pow_right (by omega) h
  omega
theorem rd_some {w : World} {A : Option Addr} {n : Nat} {xs : List Value} (h : Rd w A n xs) (h0 : 0 < n) : ∃ ad, A = some ad := by
  obtain ⟨ad, e, _⟩ := h.2 h0
  exact ⟨ad, e⟩

set_option maxHeartbeats 800000 in
theorem sPegLeast (A : Option Addr) (n c : Nat) (b : List Bool) (w : World) (hr : Rd w A n (bv b)) (hn : n ≤ 1048576) :
    Calls Try.prog 35 #[.slice A n c] w fun e w' => e = .returned (.tuple #[.int .i64 (pegI b (Lst b.length (toNk b b.length))), .bool (boardB b.length)]) ∧ Below w.heap.size w w' := by
  have HB := Lib.hid (fun W h => sBoard A n c b W h hn)
  have hl := hr.blen
  subst hl
  unfold pegI
  cases hq : boardB b.length with
  | false =>
    rw [hq] at HB
    generalize (if b.length ≤ 14 then toNk b b.length else 0) = x at HB
    rw [if_neg (by simp)]
    clear hq
    go_enter Try.func35, Try.ntmps35
    go_wp2_with (go_at_call 54; refine (HB.out _ hr).mono ?_; rintro e w' ⟨rfl, rfl⟩)
    go_ret2
    exact ⟨rfl, Below.refl _ _⟩
  | true =>
    obtain ⟨h1, h2⟩ := board_of hq
    rw [hq, if_pos h2] at HB
    rw [if_pos rfl]
    have hx2 : toNk b b.length < 2 ^ b.length := toNk_lt b b.length
    have HT := Lib.hid (fun W => sTold b.length W h2)
    have HF := Lib.hid (fun G W tl h3 h4 => sFewest b.length G h2 (ones b.length (toNk b b.length) + 1) (toNk b b.length) W tl (Nat.lt_succ_self _) hx2 h3 h4)
    have HZ := hide (TInv.zero b.length)
    unfold FewPost at HF
    clear hq hx2
    generalize Lst b.length (toNk b b.length) = L at *
    generalize ones b.length (toNk b b.length) = o at *
    go_enter Try.func35, Try.ntmps35
    go_wp2_with fail
    refine (HB.out _ hr).mono ?_
    rintro e w' ⟨rfl, rfl⟩
    go_wp2_with fail
    refine (HT.out _).mono ?_
    rintro e w1 ⟨rfl, hB, hb⟩
    go_wp2_with fail
    refine (HF.out _ _ _ HZ.out hB).mono ?_
    rintro e w2 hpost
    obtain ⟨tl, rfl, _, _, hg⟩ := hpost
    go_wp2
    go_ret2
    exact ⟨rfl, hb.grown hg hb.size (fun k hk => by injection hk with hk; omega)⟩
set_option maxHeartbeats 800000 in
theorem iPegLeast (A : Option Addr) (n c : Nat) (b : List Bool) (w : World) (hr : Rd w A n (bv b)) (hn : n ≤ 1048576) :
    Calls Try.prog 36 #[.slice A n c] w fun e w' => e = .returned (.tuple #[.int .i64 (pegI b (Lst b.length (toNk b b.length))), .bool (boardB b.length)]) ∧ Below w.heap.size w w' := by
  have HB := Lib.hid (fun W => iBoard A n c W hn)
  have hl := hr.blen
  subst hl
  unfold pegI
  cases hq : boardB b.length with
  | false =>
    rw [hq] at HB
    rw [if_neg (by simp)]
    clear hq
    go_enter Try.func36, Try.ntmps36
    go_wp2_with (go_at_call 56; refine (HB.out _).mono ?_; rintro e w' ⟨rfl, rfl⟩)
    go_ret2
    exact ⟨rfl, Below.refl _ _⟩
  | true =>
    obtain ⟨h1, h2⟩ := board_of hq
    rw [hq] at HB
    rw [if_pos rfl]
    obtain ⟨ad, rfl⟩ := rd_some hr h1
    have HF := Lib.hid (fun B W h3 h4 => iLeast b.length B h1 h2 (ones b.length (toNk b b.length) + 1) (toNk b b.length) b ad c W (.map []) (Nat.lt_succ_self _) rfl rfl h3 h4)
    have HZ := hide (And.intro (World.ownsMap_made w Try.prog 3 (plainElem (H := Unit) Try.prog 2)) (PInv.empty b.length))
    have hr2 := hr.alloc (.map #[] 0)
    have hmm := @run_makeMap Try.prog
    have hb : Below w.heap.size w (w.alloc (.map #[] 0)) := (Below.refl _ _).alloc (Nat.le_refl _) _
    clear hq
    unfold LeastPost at HF
    generalize Lst b.length (toNk b b.length) = L at *
    generalize ones b.length (toNk b b.length) = o at *
    go_enter Try.func36, Try.ntmps36
    go_wp2_with fail
    refine (HB.out _).mono ?_
    rintro e w' ⟨rfl, rfl⟩
    go_wp2_with fail
    refine (HF.out _ _ hr2 ⟨HZ.out.1.mono (Nat.zero_le _), HZ.out.2⟩).mono ?_
    rintro e w2 ⟨K', rfl, _, _, _, _, hg⟩
    go_wp2
    go_ret2
    exact ⟨rfl, hb.grown hg hb.size (fun k hk => by injection hk with hk; omega)⟩
set_option maxHeartbeats 800000 in
theorem iPegReach (A : Option Addr) (n c : Nat) (b : List Bool) (S : Nat → Bool) (w : World) (hr : Rd w A n (bv b)) (hn : n ≤ 1048576) (hS : ∀ y, S y = true ↔ Reach b.length (toNk b b.length) y) :
    Calls Try.prog 34 #[.slice A n c] w fun e w' => e = .returned (.tuple #[.int .i64 (pegI b (cntT S (2 ^ b.length))), .bool (boardB b.length)]) ∧ Below w.heap.size w w' := by
  have HB := Lib.hid (fun W => iBoard A n c W hn)
  have hl := hr.blen
  subst hl
  unfold pegI
  cases hq : boardB b.length with
  | false =>
    rw [hq] at HB
    rw [if_neg (by simp)]
    clear hq hS
    go_enter Try.func34, Try.ntmps34
    go_wp2_with (go_at_call 56; refine (HB.out _).mono ?_; rintro e w' ⟨rfl, rfl⟩)
    go_ret2
    exact ⟨rfl, Below.refl _ _⟩
  | true =>
    obtain ⟨h1, h2⟩ := board_of hq
    rw [hq] at HB
    rw [if_pos rfl]
    obtain ⟨ad, rfl⟩ := rd_some hr h1
    have HF := Lib.hid (fun B W h3 h4 => iLeast b.length B h1 h2 (ones b.length (toNk b b.length) + 1) (toNk b b.length) b ad c W (.map []) (Nat.lt_succ_self _) rfl rfl h3 h4)
    have HZ := hide (And.intro (World.ownsMap_made w Try.prog 3 (plainElem (H := Unit) Try.prog 2)) (PInv.empty b.length))
    have hr2 := hr.alloc (.map #[] 0)
    have hmm := @run_makeMap Try.prog
    have hb : Below w.heap.size w (w.alloc (.map #[] 0)) := (Below.refl _ _).alloc (Nat.le_refl _) _
    have HS : Hid (∀ K', PInv b.length K' → hkB K' (toNk b b.length) = true → (∀ y, hkB K' y = true → hkB (.map []) y = true ∨ Reach b.length (toNk b b.length) y) → Maps.size K' = cntT S (2 ^ b.length)) := hide fun K' g1 g2 g3 => by
      rw [g1.2.1]
      refine cntT_same fun y _ => ?_
      rw [Bool.eq_iff_iff, hS]
      constructor
      · intro h
        rcases g3 y h with h4 | h4
        · rw [hkB_empty] at h4; cases h4
        · exact h4
      · exact fun h => g1.closed g2 h
    clear hq hS
    unfold LeastPost at HF
    generalize cntT S (2 ^ b.length) = L at *
    generalize ones b.length (toNk b b.length) = o at *
    go_enter Try.func34, Try.ntmps34
    go_wp2_with fail
    refine (HB.out _).mono ?_
    rintro e w' ⟨rfl, rfl⟩
    go_wp2_with fail
    refine (HF.out _ _ hr2 ⟨HZ.out.1.mono (Nat.zero_le _), HZ.out.2⟩).mono ?_
    rintro e w2 ⟨K', rfl, g1, _, g2, g3, hg⟩
    have hown := g1.1
    have hsz := HS.out K' g1.2 g2 g3
    go_wp2_with (at_len; refine wpList_len_own _ rfl _ 65 rfl 3 2 Try.underlying65 _ w.heap.size 20000 K' rfl hown ?_; rw [hsz])
    go_ret2
    exact ⟨rfl, hb.grown hg hb.size (fun k hk => by injection hk with hk; omega)⟩
end Go.Proofs.Ytkbeelbklganaaa
