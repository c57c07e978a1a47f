/- The state between two calls of BestOf's throwing closure. Conditions: none, these are plain lemmas. -/
import Derived.Test.YthpboedpoipkcaaBestQ
import Derived.Test.YthpboedpoipkcaaBestS
import Derived.Test.YthpboedpoipkcaaEachG
namespace Go.Proofs.Ythpboedpoipkcaa
open Go.ChangeShapes Go.WideShapes Go.ChangeAt Go.RowKit

/-- the throws that begin with p -/
def thrL (p : List Int) (ds : List (List Int)) : List (List Int) := (prodL ds).map fun t => p ++ t
/-- of those, the ones whose next number is at place j or later -/
def partB (p D : List Int) (ds : List (List Int)) (j : Nat) : List (List Int) := (D.drop j).flatMap fun x => thrL (p ++ [x]) ds
theorem thrL_nil (p : List Int) : thrL p [] = [p] := by simp [thrL, prodL]
theorem thrL_empty (ds : List (List Int)) : thrL [] ds = prodL ds := by simp [thrL]
theorem thrL_cons (p D : List Int) (ds : List (List Int)) : thrL p (D :: ds) = partB p D ds 0 := by
  simp only [thrL, prodL, partB, List.drop_zero, List.map_flatMap, List.map_map]
  congr 1
  funext x
  congr 1
  funext t
  simp
theorem partB_cons (p D : List Int) (ds : List (List Int)) {j : Nat} (hj : j < D.length) : partB p D ds j = thrL (p ++ [D.getD j 0]) ds ++ partB p D ds (j + 1) := by
  unfold partB
  rw [List.drop_eq_getElem_cons hj, List.flatMap_cons]
  simp [List.getD, hj]
theorem partB_end (p D : List Int) (ds : List (List Int)) : partB p D ds D.length = [] := by simp [partB]
/-- the counts are wide enough and far from their limit -/
structure Fit (k : Nat) (T : List (List Int)) (c : List Int) : Prop where
  len : ∀ t ∈ T, bestN k t < c.length
  bd : ∀ s, 0 ≤ c.getD s 0 ∧ c.getD s 0 + (T.length : Int) ≤ 1000000
  rng : ∀ t ∈ T, ∀ i, i < t.length → 0 ≤ t.getD i 0 ∧ t.getD i 0 ≤ 20
theorem sumP_le (b : List Int → Nat) (s : Nat) : ∀ T : List (List Int), sumP (ind b s) T ≤ T.length := by
  intro T
  induction T with
  | nil => simp [sumP]
  | cons t T ih =>
    simp only [sumP, List.length_cons]
    have : ind b s t ≤ 1 := by unfold ind; split <;> omega
    omega
theorem Fit.left {k : Nat} {A B : List (List Int)} {c : List Int} (h : Fit k (A ++ B) c) : Fit k A c :=
  ⟨fun t ht => h.len t (by simp [ht]), fun s => by have := h.bd s; rw [List.length_append] at this; omega, fun t ht => h.rng t (by simp [ht])⟩
theorem Fit.right {k : Nat} {A B : List (List Int)} {c : List Int} (h : Fit k (A ++ B) c) : Fit k B (runC (bestN k) A c) := by
  refine ⟨fun t ht => by rw [runC_len]; exact h.len t (by simp [ht]), fun s => ?_, fun t ht => h.rng t (by simp [ht])⟩
  have h1 := h.bd s
  rw [runC_get _ s A c fun t ht => h.len t (by simp [ht])]
  have h2 := sumP_le (bestN k) s A
  rw [List.length_append] at h1
  omega

/-- where the captured variables lie -/
structure BB where
  fa : Nat
  di : Nat
  co : Nat
  cn : Nat
  su : Nat
  ke : Nat
  th : Nat
structure BG (b : BB) (w0 : World) (k : Nat) (dv : Value) (w : World) (v : Value) (p cs : List Int) : Prop where
  fa : Bk w b.fa 22 [v]
  di : Bk w b.di 42 [dv]
  co : Bk w b.co 22 [.slice (some ⟨b.cn, 0, none⟩) cs.length cs.length]
  cn : Bk w b.cn 2 (iv cs)
  su : Bk w b.su 79 [.func (.func 88) #[] #[.pointer (some ⟨b.ke, 0, none⟩)]]
  ke : Bk w b.ke 2 [.int .i64 (k : Int)]
  th : Bk w b.th 1 [.func (.func 90) #[] #[.pointer (some ⟨b.fa, 0, none⟩), .pointer (some ⟨b.di, 0, none⟩), .pointer (some ⟨b.co, 0, none⟩), .pointer (some ⟨b.su, 0, none⟩), .pointer (some ⟨b.th, 0, none⟩)]]
  own : OwnL w w0.heap.size v p
  form : ∃ g c, v = .slice (some ⟨g, 0, none⟩) p.length c ∧ p.length ≤ c
  apart : ∀ g, v.ownBlock = some g → g ≠ b.fa ∧ g ≠ b.di ∧ g ≠ b.co ∧ g ≠ b.cn ∧ g ≠ b.su ∧ g ≠ b.ke ∧ g ≠ b.th
  dis : b.di ≠ b.fa ∧ b.co ≠ b.fa ∧ b.cn ≠ b.fa ∧ b.su ≠ b.fa ∧ b.ke ≠ b.fa ∧ b.th ≠ b.fa
  dis2 : b.fa ≠ b.cn ∧ b.di ≠ b.cn ∧ b.co ≠ b.cn ∧ b.su ≠ b.cn ∧ b.ke ≠ b.cn ∧ b.th ≠ b.cn
  lo : w0.heap.size ≤ b.fa ∧ w0.heap.size ≤ b.cn
  base : Below w0.heap.size w0 w

theorem BG.to {b : BB} {w0 w w' : World} {k : Nat} {dv v : Value} {p cs : List Int} (h : BG b w0 k dv w v p cs) (hb : Below w.heap.size w w') : BG b w0 k dv w' v p cs := by
  have l1 := h.fa.lt
  have l2 := h.di.lt
  have l3 := h.co.lt
  have l4 := h.cn.lt
  have l5 := h.su.lt
  have l6 := h.ke.lt
  have l7 := h.th.lt
  exact ⟨h.fa.below hb l1, h.di.below hb l2, h.co.below hb l3, h.cn.below hb l4, h.su.below hb l5, h.ke.below hb l6, h.th.below hb l7, h.own.same fun g hg => hb.block g (World.ownsRow.lt h.own g hg).2, h.form, h.apart, h.dis, h.dis2, h.lo, h.base.trans (hb.mono h.base.size)⟩
/-- behind a count -/
theorem BG.bumped {b : BB} {w0 w : World} {k : Nat} {dv v : Value} {p cs : List Int} (h : BG b w0 k dv w v p cs) (s : Nat) (x : Int) (hx : x = cs.getD s 0 + 1) : BG b w0 k dv (w.setCell ⟨b.cn, s, none⟩ (.int .i64 x)) v p (bmp cs s 1) := by
  obtain ⟨d1, d2, d3, d4, d5, d6⟩ := h.dis2
  have far : ∀ g, g ≠ b.cn → (w.setCell ⟨b.cn, s, none⟩ (.int .i64 x)).heap[g]? = w.heap[g]? := fun g hn => Below.heap_setCell _ _ _ _ hn
  have el : (bmp cs s 1).length = cs.length := by simp [bmp]
  subst hx
  refine ⟨h.fa.same (far _ d1), h.di.same (far _ d2), ?_, h.cn.seti s _, h.su.same (far _ d4), h.ke.same (far _ d5), h.th.same (far _ d6), h.own.same fun g hg => far g (h.apart g hg).2.2.2.1, h.form, h.apart, h.dis, h.dis2, h.lo, h.base.setCell h.lo.2 _⟩
  rw [el]
  exact h.co.same (far _ d3)
/-- behind an append to the throw, stored -/
theorem BG.grown {b : BB} {w0 w w1 : World} {k : Nat} {dv v v' : Value} {p cs : List Int} {f : Int} (h : BG b w0 k dv w v p cs) (ho : OwnL w1 w0.heap.size v' (p ++ [f])) (hg : w.grownBy w1 v.ownBlock)
    (hd : v'.ownBlock = v.ownBlock ∨ v'.ownBlock = some (w.heap.size + 1)) : BG b w0 k dv (w1.setCell ⟨b.fa, 0, none⟩ v') v' (p ++ [f]) cs := by
  obtain ⟨d2, d3, d4, d5, d6, d7⟩ := h.dis
  have l1 := h.fa.lt
  have l2 := h.di.lt
  have l3 := h.co.lt
  have l4 := h.cn.lt
  have l5 := h.su.lt
  have l6 := h.ke.lt
  have l7 := h.th.lt
  have ap := h.apart
  have rg : ∀ g, v.ownBlock = some g → w0.heap.size ≤ g := fun g hg => (World.ownsRow.lt h.own g hg).1
  have hB : Below w0.heap.size w0 w1 := h.base.grown hg h.base.size fun k hk => rg k hk
  have ap' : ∀ g, v'.ownBlock = some g → g ≠ b.fa ∧ g ≠ b.di ∧ g ≠ b.co ∧ g ≠ b.cn ∧ g ≠ b.su ∧ g ≠ b.ke ∧ g ≠ b.th := fun g hg' => by
    rcases hd with e | e
    · exact ap g (e ▸ hg')
    · rw [hg'] at e
      injection e with e
      exact ⟨by omega, by omega, by omega, by omega, by omega, by omega, by omega⟩
  have far : ∀ g, g < w.heap.size → g ≠ b.fa → some g ≠ v.ownBlock → (w1.setCell ⟨b.fa, 0, none⟩ v').heap[g]? = w.heap[g]? := fun g hl hn ho' => (Below.heap_setCell _ _ _ _ hn).trans (hg.block g hl ho')
  refine ⟨?_, ?_, ?_, ?_, ?_, ?_, ?_, ?_, ?_, ap', h.dis, h.dis2, h.lo, hB.setCell h.lo.1 _⟩
  · exact (h.fa.grown hg (fun e => (ap b.fa e.symm).1 rfl)).set 0 v'
  · exact h.di.same (far _ l2 d2 fun e => (ap _ e.symm).2.1 rfl)
  · exact h.co.same (far _ l3 d3 fun e => (ap _ e.symm).2.2.1 rfl)
  · exact h.cn.same (far _ l4 d4 fun e => (ap _ e.symm).2.2.2.1 rfl)
  · exact h.su.same (far _ l5 d5 fun e => (ap _ e.symm).2.2.2.2.1 rfl)
  · exact h.ke.same (far _ l6 d6 fun e => (ap _ e.symm).2.2.2.2.2.1 rfl)
  · exact h.th.same (far _ l7 d7 fun e => (ap _ e.symm).2.2.2.2.2.2 rfl)
  · exact ho.same fun g hg' => Below.heap_setCell _ _ _ _ (ap' g hg').1
  · obtain ⟨g, c, e, -, -, hc, -⟩ := owns_form (n := (p ++ [f]).length) ho.own rfl (by simp)
    exact ⟨g, c, e, hc⟩
/-- behind a cut of the throw by its last number, stored -/
theorem BG.cut {b : BB} {w0 w : World} {k g c : Nat} {dv : Value} {p cs : List Int} {f : Int} (h : BG b w0 k dv w (.slice (some ⟨g, 0, none⟩) (p.length + 1) c) (p ++ [f]) cs) :
    BG b w0 k dv (w.setCell ⟨b.fa, 0, none⟩ (.slice (some ⟨g, 0, none⟩) p.length c)) (.slice (some ⟨g, 0, none⟩) p.length c) p cs := by
  obtain ⟨d2, d3, d4, d5, d6, d7⟩ := h.dis
  have ap := h.apart
  have far : ∀ g', g' ≠ b.fa → (w.setCell ⟨b.fa, 0, none⟩ (.slice (some ⟨g, 0, none⟩) p.length c)).heap[g']? = w.heap[g']? := fun g' hn => Below.heap_setCell _ _ _ _ hn
  have ho : OwnL w w0.heap.size (.slice (some ⟨g, 0, none⟩) p.length c) p := by
    have h1 := h.own
    unfold OwnL at h1
    rw [show (p ++ [f]).length = p.length + 1 by simp] at h1
    have h2 := own_cut h1 (k := p.length) (by omega)
    rw [List.take_left] at h2
    exact h2
  refine ⟨h.fa.set 0 _, h.di.same (far _ d2), h.co.same (far _ d3), h.cn.same (far _ d4), h.su.same (far _ d5), h.ke.same (far _ d6), h.th.same (far _ d7), ?_, ?_, fun g' hg' => ap g' hg', h.dis, h.dis2, h.lo, h.base.setCell h.lo.1 _⟩
  · exact ho.same fun g' hg' => far g' (ap g' hg').1
  · obtain ⟨g', c', e, hc⟩ := h.form
    injection e with e1 e2 e3
    subst e3
    simp at hc
    exact ⟨g, c, rfl, by omega⟩
end Go.Proofs.Ythpboedpoipkcaa
