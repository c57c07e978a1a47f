/- Words for slices whose cells are slices of integers (rows, or structs with one slice). Conditions: none, these are plain lemmas. -/
import Derived.Test.YtjeaiihgedennaaVM
namespace Go.Proofs.Ytjeaiihgedennaa
open Go.ChangeShapes Go.WideShapes Go.ChangeAt Go.RowKit

/-- The slice value with address A reads, in w, as the rows xss: its cells are slices of integers. -/
def RdR (w : World) (A : Option Addr) (n : Nat) (xss : List (List Int)) : Prop :=
  ∃ vs : List Value, xss.length = n ∧ Rd w A n vs ∧ ∀ k v, vs[k]? = some v → RV w v (xss.getD k [])

section
variable {w w' : World} {n : Nat} {A : Option Addr} {xss : List (List Int)}
theorem RdR.below (h : RdR w A n xss) (hb : Below w.heap.size w w') : RdR w' A n xss := by
  obtain ⟨vs, hl, hr, hv⟩ := h
  exact ⟨vs, hl, hr.below hb, fun k v hk => (hv k v hk).below hb⟩
theorem RdR.drewN (h : RdR w A n xss) (q : Nat) : RdR (w.drewN q) A n xss := h
theorem RdR.len (h : RdR w A n xss) : xss.length = n := h.choose_spec.1
theorem RdR.nil (w : World) (A : Option Addr) : RdR w A 0 [] := ⟨[], rfl, Rd.nil _ _, fun k v hk => by simp at hk⟩
theorem RdR.at (h : RdR w A n xss) {k : Nat} (hk : k < n) : ∃ ad B d, A = some ad ∧ ad.block < w.heap.size ∧ w.cell? (ad.add k) = some (.slice B (xss.getD k []).length d) ∧
    Rd w B (xss.getD k []).length (iv (xss.getD k [])) ∧ (xss.getD k []).length ≤ d := by
  obtain ⟨vs, hl, hr, hv⟩ := h
  obtain ⟨ad, u, e, hb, hu, hc⟩ := hr.at hk
  obtain ⟨B, d, rfl, hr2, hd⟩ := hv k u hu
  exact ⟨ad, B, d, e, hb, hc, hr2, hd⟩
end

/-- The rows vs are rows of the call's own that hold xss, one behind the other between the blocks lo and hi. -/
def OwnR (w : World) (lo hi : Nat) (vs : List Value) (xss : List (List Int)) : Prop :=
  vs.length = xss.length ∧ ∃ bs : Nat → Nat, lo ≤ bs 0 ∧ bs xss.length ≤ hi ∧ ∀ k, k < xss.length → bs k ≤ bs (k + 1) ∧ Own w (bs k) (bs (k + 1)) (vs.getD k (.slice none 0 0)) (xss.getD k [])

theorem mono_of {n : Nat} {bs : Nat → Nat} (h : ∀ k, k < n → bs k ≤ bs (k + 1)) : ∀ j, j ≤ n → ∀ i, i ≤ j → bs i ≤ bs j := by
  intro j
  induction j with
  | zero => intro _ i hi; rw [Nat.le_zero.1 hi]; exact Nat.le_refl _
  | succ j ih =>
    intro hj i hi
    by_cases e : i = j + 1
    · rw [e]; exact Nat.le_refl _
    · exact Nat.le_trans (ih (by omega) i (by omega)) (h j (by omega))

/-- w' is w but for the blocks from lo to hi, and new ones -/
structure Kept (lo hi : Nat) (w w' : World) : Prop where
  os : w'.os = w.os
  tape : w'.tape = w.tape
  output : w'.output = w.output
  size : w.heap.size ≤ w'.heap.size
  block : ∀ k, k < w.heap.size → (k < lo ∨ hi ≤ k) → w'.heap[k]? = w.heap[k]?
theorem Kept.refl (lo hi : Nat) (w : World) : Kept lo hi w w := ⟨rfl, rfl, rfl, Nat.le_refl _, fun _ _ _ => rfl⟩
theorem Kept.trans {lo hi : Nat} {a b c : World} (h : Kept lo hi a b) (k : Kept lo hi b c) : Kept lo hi a c :=
  ⟨k.os.trans h.os, k.tape.trans h.tape, k.output.trans h.output, Nat.le_trans h.size k.size, fun i hi' hd => (k.block i (by have := h.size; omega) hd).trans (h.block i hi' hd)⟩
theorem Kept.wide {lo hi lo' hi' : Nat} {a b : World} (h : Kept lo hi a b) (h1 : lo' ≤ lo) (h2 : hi ≤ hi') : Kept lo' hi' a b :=
  ⟨h.os, h.tape, h.output, h.size, fun k hk hd => h.block k hk (by omega)⟩
theorem Kept.grown {lo hi : Nat} {a b : World} {row : Option Nat} (hg : a.grownBy b row) (hr : ∀ g, row = some g → lo ≤ g ∧ g < hi) : Kept lo hi a b :=
  ⟨hg.os, hg.tape, hg.output, hg.size, fun k hk hd => hg.block k hk fun e => by have := hr k e.symm; omega⟩
theorem Kept.below {lo hi B : Nat} {a b : World} (h : Below B a b) (hB : a.heap.size ≤ B) : Kept lo hi a b :=
  ⟨h.os, h.tape, h.output, h.size, fun k hk _ => h.block k (by omega)⟩
theorem Kept.to_below {lo hi B : Nat} {a b c : World} (hab : Below B a b) (h : Kept lo hi b c) (hB : B ≤ lo) (hB2 : B ≤ b.heap.size) : Below B a c :=
  ⟨h.os.trans hab.os, h.tape.trans hab.tape, h.output.trans hab.output, Nat.le_trans hab.size h.size, fun k hk => (h.block k (by omega) (by omega)).trans (hab.block k hk)⟩
theorem owns_of_block {w w' : World} {base size n : Nat} {e : TypeId} {v : Value} {xs : List Value} (h : w.ownsRow base e size v n xs) (hg : ∀ g, v.ownBlock = some g → w'.heap[g]? = w.heap[g]?) : w'.ownsRow base e size v n xs := by
  refine ⟨h.1, ?_⟩
  rcases h.2 with hn | ⟨g, cap, cur, rfl, hb, hgg, rest⟩
  · exact .inl hn
  · exact .inr ⟨g, cap, cur, rfl, hb, (hg g rfl).trans hgg, rest⟩
theorem Own.kept {w w' : World} {lo hi lo' hi' : Nat} {v : Value} {xs : List Int} (h : Own w lo hi v xs) (hk : Kept lo' hi' w w') (hd : hi ≤ lo' ∨ hi' ≤ lo) : Own w' lo hi v xs :=
  ⟨owns_of_block h.1 fun g e => hk.block g (h.1.lt g e).2 (by have := h.2 g e; have := (h.1.lt g e).1; omega), h.2⟩
theorem Own.setCell {w : World} {lo hi : Nat} {v : Value} {xs : List Int} (h : Own w lo hi v xs) {p : Addr} (hp : p.block < lo) (u : Value) : Own (w.setCell p u) lo hi v xs :=
  ⟨owns_of_block h.1 fun g e => Below.heap_setCell w p u g (by have := (h.1.lt g e).1; omega), h.2⟩
theorem OwnR.kept {w w' : World} {lo hi lo' hi' : Nat} {vs : List Value} {xss : List (List Int)} (h : OwnR w lo hi vs xss) (hk : Kept lo' hi' w w') (hd : hi ≤ lo' ∨ hi' ≤ lo) : OwnR w' lo hi vs xss := by
  obtain ⟨hl, bs, h0, h1, hb⟩ := h
  have hm := mono_of (fun k hk => (hb k hk).1)
  refine ⟨hl, bs, h0, h1, fun k hk' => ⟨(hb k hk').1, (hb k hk').2.kept hk ?_⟩⟩
  have a1 := hm xss.length (Nat.le_refl _) (k + 1) (by omega)
  have a2 := hm k (by omega) 0 (by omega)
  omega
theorem OwnR.below {w w' : World} {lo hi : Nat} {vs : List Value} {xss : List (List Int)} (h : OwnR w lo hi vs xss) (hb : Below w.heap.size w w') : OwnR w' lo hi vs xss := by
  obtain ⟨hl, bs, h0, h1, hb'⟩ := h
  exact ⟨hl, bs, h0, h1, fun k hk => ⟨(hb' k hk).1, (hb' k hk).2.below hb⟩⟩
theorem OwnR.setCell {w : World} {lo hi : Nat} {vs : List Value} {xss : List (List Int)} (h : OwnR w lo hi vs xss) {p : Addr} (hp : p.block < lo) (u : Value) : OwnR (w.setCell p u) lo hi vs xss := by
  obtain ⟨hl, bs, h0, h1, hb⟩ := h
  have hm := mono_of (fun k hk => (hb k hk).1)
  exact ⟨hl, bs, h0, h1, fun k hk' => ⟨(hb k hk').1, (hb k hk').2.setCell (by have := hm k (by omega) 0 (by omega); omega) u⟩⟩
theorem OwnR.rd {w : World} {lo hi n : Nat} {A : Option Addr} {vs : List Value} {xss : List (List Int)} (h : OwnR w lo hi vs xss) (hl : xss.length = n) (hr : Rd w A n vs) : RdR w A n xss := by
  obtain ⟨hlv, bs, h0, h1, hb⟩ := h
  refine ⟨vs, hl, hr, fun k v hk => ?_⟩
  have hlt : k < vs.length := (List.getElem?_eq_some_iff.1 hk).1
  have := (hb k (by omega)).2.rv
  rwa [show vs.getD k (.slice none 0 0) = v from by simp [List.getD, hk]] at this

/-- how many rows and integers there are in the first k rows, the rows themselves counted all -/
def totTo (xss : List (List Int)) : Nat → Nat
  | 0 => xss.length
  | k + 1 => totTo xss k + (xss.getD k []).length
def tot (xss : List (List Int)) : Nat := totTo xss xss.length
theorem totTo_mono (xss : List (List Int)) : ∀ j i, i ≤ j → totTo xss i ≤ totTo xss j := by
  intro j
  induction j with
  | zero => intro i hi; rw [Nat.le_zero.1 hi]; exact Nat.le_refl _
  | succ j ih =>
    intro i hi
    by_cases e : i = j + 1
    · rw [e]; exact Nat.le_refl _
    · exact Nat.le_trans (ih i (by omega)) (by simp [totTo])
theorem tot_len (xss : List (List Int)) : xss.length ≤ tot xss := totTo_mono xss _ 0 (Nat.zero_le _)
theorem tot_row {xss : List (List Int)} {k : Nat} (hk : k < xss.length) : (xss.getD k []).length ≤ tot xss := by
  have := totTo_mono xss xss.length (k + 1) (by omega)
  simp only [totTo] at this
  unfold tot
  omega
end Go.Proofs.Ytjeaiihgedennaa
