/- Contract of ClockDeal, the program's: piles that grow by append, each in a row of its own, and are taken off from the top. Conditions: lengths at most 2^20. -/
import Derived.Test.YtkbeelbklganaaaClockS
import Derived.Test.YtkbeelbklganaaaApp
namespace Go.Proofs.Ytkbeelbklganaaa
open Go.ChangeShapes Go.WideShapes Go.ChangeAt Go.RowKit

theorem info_sl : (Try.prog.info? 22).map (fun i => (i.zero, i.size, i.bytes)) = some (some (.slice none 0 0), 1, 24) := by kernel_rfl
/-- the piles in block g: pile k reads as F k, each in a row of its own -/
def SM (w : World) (g lo P : Nat) (vs : List Value) (F : Nat → List Int) : Prop :=
  Bk w g 22 vs ∧ vs.length = P ∧ g < lo ∧ lo ≤ w.heap.size ∧ (∀ k, k < P → OwnL w lo (vs.getD k undef) (F k)) ∧
    ∀ j k, j < P → k < P → j ≠ k → ∀ b, (vs.getD j undef).ownBlock = some b → (vs.getD k undef).ownBlock ≠ some b
theorem OwnL.keptNe {w w' : World} {lo : Nat} {v : Value} {xs : List Int} {row : Option Nat} (h : OwnL w lo v xs) (hg : w.grownBy w' row) (hr : ∀ g, row = some g → v.ownBlock ≠ some g) : OwnL w' lo v xs := by
  refine World.ownsRow.kept h hg ?_
  cases hv : v.ownBlock with
  | none => exact .inl rfl
  | some g => exact .inr fun e => hr g e.symm hv
theorem getD_setV (vs : List Value) (i j : Nat) (v : Value) : (vs.set i v).getD j undef = if i = j ∧ i < vs.length then v else vs.getD j undef := by
  by_cases h : i = j
  · subst h
    by_cases h2 : i < vs.length
    · simp [List.getD, h2]
    · simp [List.getD, h2]
  · simp [List.getD, List.getElem?_set, h]
theorem SM.start {w : World} {g P : Nat} (h : Bk w g 22 (List.replicate P (.slice none 0 0))) : SM w g (g + 1) P (List.replicate P (.slice none 0 0)) (fun _ => []) := by
  have hk : ∀ k, k < P → (List.replicate P (Value.slice none 0 0)).getD k undef = .slice none 0 0 := fun k hk => by simp [List.getD, hk]
  refine ⟨h, by simp, by omega, h.lt, fun k hk' => by rw [hk k hk']; exact OwnL.nil _ _, fun j k hj _ _ b hb => ?_⟩
  rw [hk j hj] at hb
  cases hb
theorem SM.app {w w4 : World} {g lo P r : Nat} {vs : List Value} {F : Nat → List Int} {v4 : Value} {y : Int} (h : SM w g lo P vs F) (hr : r < P) (ho : OwnL w4 lo v4 (F r ++ [y])) (hg : w.grownBy w4 (vs.getD r undef).ownBlock)
    (hd : v4.ownBlock = (vs.getD r undef).ownBlock ∨ ∀ k, v4.ownBlock = some k → w.heap.size ≤ k) :
    Bk w4 g 22 vs ∧ SM (w4.setCell ⟨g, r, none⟩ v4) g lo P (vs.set r v4) (fun k => if k = r then F r ++ [y] else F k) := by
  obtain ⟨h1, h2, h3, h4, h5, h6⟩ := h
  have hB4 : Bk w4 g 22 vs := h1.grown hg fun e => by have := ((h5 r hr).lt g e.symm).1; omega
  have hg2 : w4.grownBy (w4.setCell ⟨g, r, none⟩ v4) (some g) := ⟨rfl, rfl, rfl, by rw [set_size]; exact Nat.le_refl _, fun i _ hi => Below.heap_setCell w4 ⟨g, r, none⟩ v4 i (fun e => hi (by rw [e]))⟩
  have hrl : r < vs.length := by omega
  refine ⟨hB4, hB4.set r v4, by simp [h2], h3, by rw [set_size]; exact Nat.le_trans h4 hg.size, fun k hk => ?_, fun j k hj hk hjk b hb => ?_⟩
  · rw [getD_setV]
    dsimp only
    by_cases e : r = k
    · subst e
      rw [if_pos ⟨rfl, hrl⟩, if_pos rfl]
      exact ho.keptNe hg2 fun b hb e2 => by injection hb with hb; have := (ho.lt b e2).1; omega
    · rw [if_neg (fun q => e q.1), if_neg (fun q => e q.symm)]
      have o1 := (h5 k hk).keptNe hg fun b hb e2 => h6 r k hr hk e b hb e2
      exact o1.keptNe hg2 fun b hb e2 => by injection hb with hb; have := (o1.lt b e2).1; omega
  · rw [getD_setV] at hb ⊢
    by_cases e : r = j
    · subst e
      rw [if_pos ⟨rfl, hrl⟩] at hb
      rw [if_neg (fun q => hjk q.1)]
      rcases hd with hd | hd
      · rw [hd] at hb; exact h6 r k hr hk hjk b hb
      · intro e2
        have h7 := hd b hb
        have h8 := ((h5 k hk).lt b e2).2
        omega
    · rw [if_neg (fun q => e q.1)] at hb
      by_cases e3 : r = k
      · subst e3
        rw [if_pos ⟨rfl, hrl⟩]
        intro e2
        rcases hd with hd | hd
        · rw [hd] at e2; exact h6 j r hj hr hjk b hb e2
        · have h7 := hd b e2
          have h8 := ((h5 j hj).lt b hb).2
          omega
      · rw [if_neg (fun q => e3 q.1)]
        exact h6 j k hj hk hjk b hb
/-- the piles as they are taken off: only read, but for the slices themselves -/
def SR (w : World) (g P : Nat) (vs : List Value) (F : Nat → List Int) : Prop :=
  Bk w g 22 vs ∧ vs.length = P ∧ ∀ k, k < P → ∃ A c, vs.getD k undef = .slice A (F k).length c ∧ (F k).length ≤ c ∧ Rd w A (F k).length (iv (F k)) ∧ ∀ ad, A = some ad → ad.block ≠ g
theorem SM.sr {w : World} {g lo P : Nat} {vs : List Value} {F : Nat → List Int} (h : SM w g lo P vs F) : SR w g P vs F := by
  refine ⟨h.1, h.2.1, fun k hk => ?_⟩
  obtain ⟨A, c, e, hc, _, hr, hf⟩ := (h.2.2.2.2.1 k hk).own.form
  exact ⟨A, c, e, hc, hr, fun ad ha => by have := (hf ad ha).2.1; have := h.2.2.1; omega⟩
theorem SR.cut {w : World} {g P a v c : Nat} {vs : List Value} {F : Nat → List Int} {A : Option Addr} (h : SR w g P vs F) (ha : a < P) (hv : v ≤ (F a).length) (he : vs.getD a undef = .slice A (F a).length c) :
    SR (w.setCell ⟨g, a, none⟩ (.slice A v c)) g P (vs.set a (.slice A v c)) (fun k => if k = a then (F a).take v else F k) := by
  obtain ⟨h1, h2, h3⟩ := h
  have hal : a < vs.length := by omega
  refine ⟨h1.set a _, by simp [h2], fun k hk => ?_⟩
  rw [getD_setV]
  dsimp only
  by_cases e : a = k
  · subst e
    rw [if_pos ⟨rfl, hal⟩, if_pos rfl]
    obtain ⟨A', c', e2, hc, hr, hn⟩ := h3 a hk
    rw [he] at e2
    injection e2 with e3 _ e4
    subst e3 e4
    have hl : ((F a).take v).length = v := by rw [List.length_take]; omega
    refine ⟨A, c, by rw [hl], by omega, ?_, hn⟩
    rw [hl]
    exact (hr.upto hv).setCell (fun ad ha => hn ad ha) _
  · rw [if_neg (fun q => e q.1), if_neg (fun q => e q.symm)]
    obtain ⟨A', c', e2, hc, hr, hn⟩ := h3 k hk
    exact ⟨A', c', e2, hc, hr.setCell (fun ad ha => hn ad ha) _, hn⟩
theorem SR.congr {w : World} {g P : Nat} {vs : List Value} {F G : Nat → List Int} (h : SR w g P vs F) (he : ∀ k, k < P → F k = G k) : SR w g P vs G :=
  ⟨h.1, h.2.1, fun k hk => by rw [← he k hk]; exact h.2.2 k hk⟩
theorem SM.congr {w : World} {g lo P : Nat} {vs : List Value} {F G : Nat → List Int} (h : SM w g lo P vs F) (he : ∀ k, k < P → F k = G k) : SM w g lo P vs G :=
  ⟨h.1, h.2.1, h.2.2.1, h.2.2.2.1, fun k hk => by rw [← he k hk]; exact h.2.2.2.2.1 k hk, h.2.2.2.2.2⟩
/-- 'append(out, y)', and where the new slice lies -/
theorem app1at {w : World} {ops : Array Oper} {rest : List Oper} {o : Oper} {a : Act} {Q : Exit → Act → World → Prop} {lo B : Nat} {v : Value} {xs : List Int} {y : Int}
    (hB0 : w.heap.size = B) (hown : OwnL w lo v xs) (hn : xs.length ≤ 1048576) (hlo : lo ≤ w.heap.size) (hgd : o.guard = none) {s x : Operand}
    (ho : o.op = .call { callee := .builtin .append, args := #[s, x], argTypes := #[22, 22] })
    (hs : a.eval s = v) (hx : a.eval x = .slice (some ⟨B, 0, none⟩) 1 1)
    (h : ∀ v' w', OwnL w' lo v' (xs ++ [y]) → w.grownBy w' v.ownBlock → (v'.ownBlock = v.ownBlock ∨ ∀ k, v'.ownBlock = some k → w.heap.size ≤ k) → wpList Try.prog ops Q rest (a.put o.dst v') w') :
    wpList Try.prog ops Q (o :: rest) a (w.alloc (.cells #[.int .i64 y] 2)) := by
  subst hB0
  have hB : Bk (w.alloc (.cells #[.int .i64 y] 2)) w.heap.size 2 (iv [y]) := Bk.new w 2 _
  have hz := ((Below.refl w.heap.size w).alloc (Nat.le_refl _) (.cells #[.int .i64 y] 2)).size
  refine appR (hown.below ((Below.refl _ _).alloc (Nat.le_refl _) _)) (hB.rdi (n := 1) rfl) (by omega) (Nat.le_trans hlo hz) hgd ho hs hx ?_
  intro v' w' h1 h2 h3
  refine h v' w' h1 ((World.grownBy_alloc w _ _).trans h2) ?_
  rcases h3 with h3 | h3
  · exact .inl h3
  · refine .inr fun k hk => ?_
    rw [h3] at hk
    injection hk with hk
    omega
/-- how many cards pile k holds behind q whole rounds and r cards more -/
def cnt (q r k : Nat) : Nat := if k < r then q + 1 else q
theorem cnt_step {q r k : Nat} {xs : List Int} {P : Nat} : (if k = r then ckG xs P r (cnt q r r) ++ [xs.getD (q * P + r) 0] else ckG xs P k (cnt q r k)) = ckG xs P k (cnt q (r + 1) k) := by
  by_cases e : k = r
  · subst e
    rw [if_pos rfl, cnt, cnt, if_neg (by omega), if_pos (by omega), ckG_succ]
  · rw [if_neg e, cnt, cnt]
    congr 1
    by_cases h : k < r
    · rw [if_pos h, if_pos (by omega)]
    · rw [if_neg h, if_neg (by omega)]
theorem cnt_turn {q P k : Nat} (h : k < P) : cnt q P k = cnt (q + 1) 0 k := by rw [cnt, cnt, if_pos h, if_neg (by omega)]
end Go.Proofs.Ytkbeelbklganaaa
