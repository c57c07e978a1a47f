/- The state between two calls of eachDie's closure. Conditions: none, these are plain lemmas. -/
import Derived.Test.YthpboedpoipkcaaEachQ
import Derived.Test.YthpboedpoipkcaaFindS
import Derived.Deep.RegionHeld3
import Derived.OneCell
namespace Go.Proofs.Ythpboedpoipkcaa
open Go.ChangeShapes Go.WideShapes Go.ChangeAt Go.RowKit

/-- 'append(out, y)', one integer; where the row then lies -/
theorem app1d {w : World} {ops : Array Oper} {rest : List Oper} {o : Oper} {a : Act} {Q : Exit → Act → World → Prop} {lo : Nat} {v : Value} {xs : List Int} {y : Int}
    (hown : OwnL w lo v xs) (hn : xs.length ≤ 1048576) (hlo : lo ≤ w.heap.size) (hgd : o.guard = none) {s x : Operand}
    (ho : o.op = .call { callee := .builtin .append, args := #[s, x], argTypes := #[22, 22] })
    (hs : a.eval s = v) (hx : a.eval x = .slice (some ⟨w.heap.size, 0, none⟩) 1 1)
    (h : ∀ v' w', OwnL w' lo v' (xs ++ [y]) → w.grownBy w' v.ownBlock → (v'.ownBlock = v.ownBlock ∨ v'.ownBlock = some (w.heap.size + 1)) → wpList Try.prog ops Q rest (a.put o.dst v') w') :
    wpList Try.prog ops Q (o :: rest) a (w.alloc (.cells #[.int .i64 y] 2)) := by
  refine appR (w := w.alloc (.cells #[.int .i64 y] 2)) (lo := lo) (A := some ⟨w.heap.size, 0, none⟩) (m := 1) (c := 1) (v := v) (xs := xs) (ys := [y]) (World.ownsRow.alloc hown _) ?_ (by omega) (by simp; omega) hgd ho hs hx ?_
  · exact (Bk.new w 2 [.int .i64 y]).rdi (xs := [y]) rfl
  · intro v' w' h1 h2 h3
    refine h v' w' h1 ((World.grownBy_alloc w _ _).trans h2) ?_
    simpa using h3

/-- where the captured variables of eachDie's closure lie -/
structure EBx where
  li : Nat
  fa : Nat
  vi : Nat
  le : Nat
  mo : Nat
  gr : Nat
structure EG (V : Vis) (b : EBx) (F m l : Nat) (w : World) (v : Value) (p : List Int) (s : V.σ) (O : Nat → Prop) : Prop where
  li : Bk w b.li 22 [v]
  fa : Bk w b.fa 3 [.int .i64 (F : Int)]
  vi : Bk w b.vi 26 [.func (.func V.f) #[] V.cap]
  le : Bk w b.le 2 [.int .i64 (l : Int)]
  mo : Bk w b.mo 2 [.int .i64 (m : Int)]
  gr : Bk w b.gr 93 [.func (.func 93) #[] #[.pointer (some ⟨b.li, 0, none⟩), .pointer (some ⟨b.fa, 0, none⟩), .pointer (some ⟨b.vi, 0, none⟩), .pointer (some ⟨b.le, 0, none⟩), .pointer (some ⟨b.mo, 0, none⟩), .pointer (some ⟨b.gr, 0, none⟩)]]
  own : OwnL w V.lo v p
  form : ∃ g c, v = .slice (some ⟨g, 0, none⟩) p.length c ∧ p.length ≤ c
  inv : V.inv s O w
  apart : ∀ g, v.ownBlock = some g → ¬ O g ∧ g ≠ b.li ∧ g ≠ b.fa ∧ g ≠ b.vi ∧ g ≠ b.le ∧ g ≠ b.mo ∧ g ≠ b.gr
  box : ¬ O b.li ∧ ¬ O b.fa ∧ ¬ O b.vi ∧ ¬ O b.le ∧ ¬ O b.mo ∧ ¬ O b.gr
  lo : V.lo ≤ b.li ∧ V.lo ≤ w.heap.size
  dis : b.fa ≠ b.li ∧ b.vi ≠ b.li ∧ b.le ≠ b.li ∧ b.mo ≠ b.li ∧ b.gr ≠ b.li

theorem Bk.same {w w' : World} {g : Nat} {t : TypeId} {cs : List Value} (h : Bk w g t cs) (e : w'.heap[g]? = w.heap[g]?) : Bk w' g t cs := e.trans h
theorem OwnL.same {w w' : World} {lo : Nat} {v : Value} {xs : List Int} (h : OwnL w lo v xs) (e : ∀ g, v.ownBlock = some g → w'.heap[g]? = w.heap[g]?) : OwnL w' lo v xs := owns_of_block h e

/-- behind a call of the visitor -/
theorem EG.visited {V : Vis} {b : EBx} {F m l : Nat} {w w1 w2 : World} {v r : Value} {p : List Int} {s s' : V.σ} {O O' : Nat → Prop} (h : EG V b F m l w v p s O) (hr : Own w1 w.heap.size w1.heap.size r p) (h1 : Below w.heap.size w w1)
    (hi : V.inv s' O' w2) (h2 : Below V.lo w1 w2) (hk : ∀ g, g < w1.heap.size → ¬ O g → r.ownBlock ≠ some g → w2.heap[g]? = w1.heap[g]?) (ho : ∀ g, O' g → O g ∨ w1.heap.size ≤ g ∨ r.ownBlock = some g) : EG V b F m l w2 v p s' O' := by
  have hs := h1.size
  have hrg : ∀ g, r.ownBlock = some g → w.heap.size ≤ g := fun g hg => (World.ownsRow.lt hr.1 g hg).1
  have key : ∀ g, g < w.heap.size → ¬ O g → w2.heap[g]? = w.heap[g]? := fun g hg hn => (hk g (by omega) hn (fun e => by have := hrg g e; omega)).trans (h1.block g hg)
  have no : ∀ g, g < w.heap.size → ¬ O g → ¬ O' g := fun g hg hn hg' => by
    rcases ho g hg' with h3 | h3 | h3
    · exact hn h3
    · omega
    · have := hrg g h3; omega
  have l1 := h.li.lt
  have l2 := h.fa.lt
  have l3 := h.vi.lt
  have l4 := h.le.lt
  have l5 := h.mo.lt
  have l6 := h.gr.lt
  obtain ⟨b1, b2, b3, b4, b5, b6⟩ := h.box
  exact ⟨h.li.same (key _ l1 b1), h.fa.same (key _ l2 b2), h.vi.same (key _ l3 b3), h.le.same (key _ l4 b4), h.mo.same (key _ l5 b5), h.gr.same (key _ l6 b6),
    h.own.same fun g hg => key g (World.ownsRow.lt h.own g hg).2 (h.apart g hg).1, h.form, hi,
    fun g hg => ⟨no g (World.ownsRow.lt h.own g hg).2 (h.apart g hg).1, (h.apart g hg).2⟩,
    ⟨no _ l1 b1, no _ l2 b2, no _ l3 b3, no _ l4 b4, no _ l5 b5, no _ l6 b6⟩, ⟨h.lo.1, by have := h2.size; have := h.lo.2; omega⟩, h.dis⟩
/-- behind an append to the list, stored -/
theorem EG.grown {V : Vis} (hV : V.Ok) {b : EBx} {F m l : Nat} {w w1 : World} {v v' : Value} {p : List Int} {f : Int} {s : V.σ} {O : Nat → Prop} (h : EG V b F m l w v p s O) (ho : OwnL w1 V.lo v' (p ++ [f])) (hg : w.grownBy w1 v.ownBlock)
    (hd : v'.ownBlock = v.ownBlock ∨ v'.ownBlock = some (w.heap.size + 1)) : EG V b F m l (w1.setCell ⟨b.li, 0, none⟩ v') v' (p ++ [f]) s O ∧ Below V.lo w (w1.setCell ⟨b.li, 0, none⟩ v') := by
  obtain ⟨b1, b2, b3, b4, b5, b6⟩ := h.box
  obtain ⟨d2, d3, d4, d5, d6⟩ := h.dis
  have l1 := h.li.lt
  have l2 := h.fa.lt
  have l3 := h.vi.lt
  have l4 := h.le.lt
  have l5 := h.mo.lt
  have l6 := h.gr.lt
  have ap := h.apart
  have rg : ∀ g, v.ownBlock = some g → V.lo ≤ g := fun g hg => (World.ownsRow.lt h.own g hg).1
  have hB : Below V.lo w w1 := (Below.refl _ _).grown hg h.lo.2 fun k hk => rg k hk
  have hB2 : Below V.lo w (w1.setCell ⟨b.li, 0, none⟩ v') := hB.setCell h.lo.1 _
  have ap' : ∀ g, v'.ownBlock = some g → ¬ O g ∧ g ≠ b.li ∧ g ≠ b.fa ∧ g ≠ b.vi ∧ g ≠ b.le ∧ g ≠ b.mo ∧ g ≠ b.gr := fun g hg' => by
    rcases hd with e | e
    · exact ap g (e ▸ hg')
    · rw [hg'] at e
      injection e with e
      refine ⟨fun hn => ?_, by omega, by omega, by omega, by omega, by omega, by omega⟩
      have := (hV.lt s O w g h.inv hn).2
      omega
  have far : ∀ g, g < w.heap.size → g ≠ b.li → some g ≠ v.ownBlock → (w1.setCell ⟨b.li, 0, none⟩ v').heap[g]? = w.heap[g]? := fun g hl hn ho' => (Below.heap_setCell _ _ _ _ hn).trans (hg.block g hl ho')
  refine ⟨⟨?_, ?_, ?_, ?_, ?_, ?_, ?_, ?_, ?_, ap', h.box, ⟨h.lo.1, Nat.le_trans h.lo.2 hB2.size⟩, h.dis⟩, hB2⟩
  · exact (h.li.grown hg (fun e => (ap b.li e.symm).2.1 rfl)).set 0 v'
  · exact h.fa.same (far _ l2 d2 fun e => (ap b.fa e.symm).2.2.1 rfl)
  · exact h.vi.same (far _ l3 d3 fun e => (ap b.vi e.symm).2.2.2.1 rfl)
  · exact h.le.same (far _ l4 d4 fun e => (ap b.le e.symm).2.2.2.2.1 rfl)
  · exact h.mo.same (far _ l5 d5 fun e => (ap b.mo e.symm).2.2.2.2.2.1 rfl)
  · exact h.gr.same (far _ l6 d6 fun e => (ap b.gr e.symm).2.2.2.2.2.2 rfl)
  · exact ho.same fun g hg' => Below.heap_setCell _ _ _ _ (ap' g hg').2.1
  · obtain ⟨g, c, e, -, -, hc, -⟩ := owns_form (n := (p ++ [f]).length) ho.own rfl (by simp)
    exact ⟨g, c, e, hc⟩
  · refine hV.keep s O w _ h.inv hB2 fun g hg' => far g (hV.lt s O w g h.inv hg').2 (fun e => b1 (e ▸ hg')) (fun e => (ap g e.symm).1 hg')
/-- behind a cut of the list by its last number, stored -/
theorem EG.cut {V : Vis} (hV : V.Ok) {b : EBx} {F m l g c : Nat} {w : World} {p : List Int} {f : Int} {s : V.σ} {O : Nat → Prop} (h : EG V b F m l w (.slice (some ⟨g, 0, none⟩) (p.length + 1) c) (p ++ [f]) s O) :
    EG V b F m l (w.setCell ⟨b.li, 0, none⟩ (.slice (some ⟨g, 0, none⟩) p.length c)) (.slice (some ⟨g, 0, none⟩) p.length c) p s O ∧ Below V.lo w (w.setCell ⟨b.li, 0, none⟩ (.slice (some ⟨g, 0, none⟩) p.length c)) := by
  obtain ⟨b1, b2, b3, b4, b5, b6⟩ := h.box
  obtain ⟨d2, d3, d4, d5, d6⟩ := h.dis
  have ap := h.apart
  have hB2 : Below V.lo w (w.setCell ⟨b.li, 0, none⟩ (.slice (some ⟨g, 0, none⟩) p.length c)) := (Below.refl _ _).setCell h.lo.1 _
  have far : ∀ g', g' ≠ b.li → (w.setCell ⟨b.li, 0, none⟩ (.slice (some ⟨g, 0, none⟩) p.length c)).heap[g']? = w.heap[g']? := fun g' hn => Below.heap_setCell _ _ _ _ hn
  have ho : OwnL w V.lo (.slice (some ⟨g, 0, none⟩) p.length c) p := by
    have h1 := h.own
    unfold OwnL at h1
    rw [show (p ++ [f]).length = p.length + 1 by simp] at h1
    have h2 := own_cut h1 (k := p.length) (by omega)
    rw [List.take_left] at h2
    exact h2
  refine ⟨⟨?_, h.fa.same (far _ d2), h.vi.same (far _ d3), h.le.same (far _ d4), h.mo.same (far _ d5), h.gr.same (far _ d6), ?_, ?_, ?_, fun g' hg' => ap g' hg', h.box, ⟨h.lo.1, Nat.le_trans h.lo.2 hB2.size⟩, h.dis⟩, hB2⟩
  · exact h.li.set 0 _
  · exact ho.same fun g' hg' => far g' (ap g' hg').2.1
  · obtain ⟨g', c', e, hc⟩ := h.form
    injection e with e1 e2 e3
    subst e3
    simp at hc
    exact ⟨g, c, rfl, by omega⟩
  · refine hV.keep s O w _ h.inv hB2 fun g' hg' => far g' (fun e => b1 (e ▸ hg'))
end Go.Proofs.Ythpboedpoipkcaa
