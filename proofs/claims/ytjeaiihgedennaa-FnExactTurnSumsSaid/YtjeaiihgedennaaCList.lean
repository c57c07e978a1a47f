/- Slices of complex numbers, the laws' helpers on them. Conditions: what is stated. -/
import Derived.Test.YtjeaiihgedennaaCSum
import Derived.Test.YtjeaiihgedennaaConv
import Derived.Deep.QuietTactic
import Derived.BigQuiet
namespace Go.Proofs.Ytjeaiihgedennaa
open Go.ChangeShapes Go.WideShapes Go.ChangeAt Go.RowKit

abbrev cxv (xs : List (Nat × Nat)) : List Value := xs.map fun p => Value.complex .f32 p.1 p.2
theorem cxv_get {xs : List (Nat × Nat)} {k : Nat} (hk : k < xs.length) : (cxv xs)[k]? = some (.complex .f32 (xs.getD k (0, 0)).1 (xs.getD k (0, 0)).2) := by
  simp [cxv, List.getD, hk]
theorem info_c64 : (Try.prog.info? 57).map (fun i => (i.zero, i.size, i.bytes)) = some (some (.complex .f32 0 0), 1, 8) := by kernel_rfl
theorem Rd.cx {w : World} {n : Nat} {A : Option Addr} {xs : List (Nat × Nat)} (h : Rd w A n (cxv xs)) {k : Nat} (hk : k < n) :
    ∃ ad, A = some ad ∧ ad.block < w.heap.size ∧ w.cell? (ad.add k) = some (.complex .f32 (xs.getD k (0, 0)).1 (xs.getD k (0, 0)).2) := by
  obtain ⟨ad, u, e, hb, hu, hc⟩ := h.at hk
  have hl : k < xs.length := by have := h.1; simp [cxv] at this; omega
  rw [cxv_get hl] at hu
  injection hu with hu
  subst hu
  exact ⟨ad, e, hb, hc⟩
def OwnC (w : World) (lo hi : Nat) (v : Value) (xs : List (Nat × Nat)) : Prop :=
  w.ownsRow lo 57 1 v xs.length (cxv xs) ∧ ∀ g, v.ownBlock = some g → g < hi
theorem OwnC.form {w : World} {lo hi : Nat} {v : Value} {xs : List (Nat × Nat)} (h : OwnC w lo hi v xs) : ∃ A c, v = .slice A xs.length c ∧ xs.length ≤ c ∧ c ≤ maxLen ∧ Rd w A xs.length (cxv xs) ∧ (∀ ad, A = some ad → ad = ⟨ad.block, 0, none⟩ ∧ lo ≤ ad.block ∧ ad.block < hi) := by
  obtain ⟨h1, h2⟩ := h
  have h1' := h1
  rcases h1.2 with ⟨rfl, h0⟩ | ⟨g, cap, cur, rfl, hl, _, hn, hm, _⟩
  · rw [h0]
    have : xs = [] := List.eq_nil_of_length_eq_zero h0
    subst this
    exact ⟨none, 0, rfl, by simp, by simp [maxLen], Rd.nil _ _, fun ad h => by cases h⟩
  · exact ⟨some ⟨g, 0, none⟩, cap, rfl, hn, hm, Rd.of_own h1', fun ad h => by injection h with h; subst h; exact ⟨rfl, hl, h2 g rfl⟩⟩
theorem OwnC.below {w w' : World} {lo hi : Nat} {v : Value} {xs : List (Nat × Nat)} (h : OwnC w lo hi v xs) (hb : Below w.heap.size w w') : OwnC w' lo hi v xs :=
  ⟨h.1.kept (grown_of_below hb none) (by cases hv : v.ownBlock <;> simp), h.2⟩
theorem OwnC.grown {w w' : World} {lo hi : Nat} {v : Value} {xs : List (Nat × Nat)} {row : Option Nat} (h : OwnC w lo hi v xs) (hb : w.grownBy w' row) (hr : ∀ g, row = some g → g < lo ∨ hi ≤ g) : OwnC w' lo hi v xs := by
  refine ⟨h.1.kept hb ?_, h.2⟩
  cases hv : v.ownBlock with
  | none => exact .inl rfl
  | some g =>
    refine .inr fun e => ?_
    have h1 := h.2 g hv
    have h2 := (h.1.lt g hv).1
    have := hr g e.symm
    omega
theorem OwnC.drewN {w : World} {lo hi : Nat} {v : Value} {xs : List (Nat × Nat)} (h : OwnC w lo hi v xs) (n : Nat) : OwnC (w.drewN n) lo hi v xs := h
theorem OwnC.lo {w : World} {lo lo' hi : Nat} {v : Value} {xs : List (Nat × Nat)} (h : OwnC w lo hi v xs) (hl : lo' ≤ lo) : OwnC w lo' hi v xs := by
  refine ⟨⟨h.1.1, ?_⟩, h.2⟩
  rcases h.1.2 with hn | ⟨g, cap, cur, hv, hb, rest⟩
  · exact .inl hn
  · exact .inr ⟨g, cap, cur, hv, by omega, rest⟩
theorem OwnC.hi {w : World} {lo hi hi' : Nat} {v : Value} {xs : List (Nat × Nat)} (h : OwnC w lo hi v xs) (hl : hi ≤ hi') : OwnC w lo hi' v xs := ⟨h.1, fun g hg => by have := h.2 g hg; omega⟩
theorem OwnC.nil (w : World) (lo hi : Nat) : OwnC w lo hi (.slice none 0 0) [] := ⟨World.ownsRow_nil _ _ _ _, fun g h => by simp [Value.ownBlock] at h⟩
def OwnLC (w : World) (lo : Nat) (v : Value) (xs : List (Nat × Nat)) : Prop := w.ownsRow lo 57 1 v xs.length (cxv xs)
theorem OwnLC.own {w : World} {lo : Nat} {v : Value} {xs : List (Nat × Nat)} (h : OwnLC w lo v xs) : OwnC w lo w.heap.size v xs := ⟨h, fun g e => (World.ownsRow.lt h g e).2⟩
theorem OwnC.l {w : World} {lo hi : Nat} {v : Value} {xs : List (Nat × Nat)} (h : OwnC w lo hi v xs) : OwnLC w lo v xs := h.1
theorem OwnLC.below {w w' : World} {lo : Nat} {v : Value} {xs : List (Nat × Nat)} (h : OwnLC w lo v xs) (hb : Below w.heap.size w w') : OwnLC w' lo v xs := (h.own.below hb).l
theorem OwnLC.empty (w : World) (cur : Array Value) (hs : cur.size = 0) {lo : Nat} (hl : lo ≤ w.heap.size) : OwnLC (w.alloc (.cells cur 57)) lo (.slice (some ⟨w.heap.size, 0, none⟩) 0 0) [] :=
  World.ownsRow_made w cur 0 hl (by simp [maxLen]) (by simpa using hs)
theorem OwnLC.lt {w : World} {lo : Nat} {v : Value} {xs : List (Nat × Nat)} (h : OwnLC w lo v xs) : ∀ k, v.ownBlock = some k → lo ≤ k ∧ k < w.heap.size := World.ownsRow.lt h
theorem app1C {w : World} {ops : Array Oper} {rest : List Oper} {o : Oper} {a : Act} {Q : Exit → Act → World → Prop} {lo : Nat} {v : Value} {xs : List (Nat × Nat)} {y : Nat × Nat}
    (hown : OwnLC w lo v xs) (hn : xs.length ≤ 1048576) (hlo : lo ≤ w.heap.size) (hgd : o.guard = none) {s x : Operand}
    (ho : o.op = .call { callee := .builtin .append, args := #[s, x], argTypes := #[35, 35] })
    (hs : a.eval s = v) (hx : a.eval x = .slice (some ⟨w.heap.size, 0, none⟩) 1 1)
    (h : ∀ v' w', OwnLC w' lo v' (xs ++ [y]) → w.grownBy w' v.ownBlock → wpList Try.prog ops Q rest (a.put o.dst v') w') :
    wpList Try.prog ops Q (o :: rest) a (w.alloc (.cells #[.complex .f32 y.1 y.2] 57)) := by
  obtain ⟨i0, hi, hz0, hz1, hz2⟩ := info_parts info_c64
  refine wpList_append_own _ hgd s x 35 ho lo 57 i0 (.complex .f32 0 0) 1 8 Try.underlying35 hi hz0 hz1 hz2 rfl (by decide) v xs.length (cxv xs) hs (World.ownsRow.alloc hown _) ⟨w.heap.size, 0, none⟩ 1 1 [.complex .f32 y.1 y.2] hx rfl ?_ ?_ ?_ ?_ ?_ ?_
  · intro j u hj
    match j, hj with
    | 0, hj =>
      simp at hj
      subst hj
      rw [Addr.add_lit, World.cell?_alloc_at _ _ _ _ rfl]
      rfl
  · intro u hu
    simp at hu
    subst hu
    rfl
  · unfold maxLen; omega
  · omega
  · simp; omega
  · intro v' w' h1 h2 _
    refine h v' w' ?_ ?_
    · have e : xs.length + 1 = (xs ++ [y]).length := by simp
      have e2 : cxv xs ++ [.complex .f32 y.1 y.2] = cxv (xs ++ [y]) := by simp [cxv]
      rw [e, e2] at h1
      exact h1
    · exact (World.grownBy_alloc w _ _).trans h2
def RVC (w : World) (v : Value) (xs : List (Nat × Nat)) : Prop := ∃ A c, v = .slice A xs.length c ∧ Rd w A xs.length (cxv xs) ∧ xs.length ≤ c
theorem RVC.below {w w' : World} {v : Value} {xs : List (Nat × Nat)} (h : RVC w v xs) (hb : Below w.heap.size w w') : RVC w' v xs := by
  obtain ⟨A, c, e, hr, hc⟩ := h
  exact ⟨A, c, e, hr.below hb, hc⟩
theorem OwnC.rv {w : World} {lo hi : Nat} {v : Value} {xs : List (Nat × Nat)} (h : OwnC w lo hi v xs) : RVC w v xs := by
  obtain ⟨A, c, e, hc, _, hr, _⟩ := h.form
  exact ⟨A, c, e, hr, hc⟩
theorem OwnC.marked {w w' : World} {lo hi lo' hi' : Nat} {v v' : Value} {xs ys : List (Nat × Nat)} (h : OwnC w lo hi v xs) (hx : OwnC w lo' hi' v' ys) (hg : w.grownBy w' v'.ownBlock) (hd : hi ≤ lo' ∨ hi' ≤ lo) : OwnC w' lo hi v xs :=
  h.grown hg fun g e => by
    have h1 := hx.2 g e
    have h2 := (hx.1.lt g e).1
    omega
theorem OwnC.kept {w w' : World} {lo hi lo' hi' : Nat} {v : Value} {xs : List (Nat × Nat)} (h : OwnC w lo hi v xs) (hk : Kept lo' hi' w w') (hd : hi ≤ lo' ∨ hi' ≤ lo) : OwnC w' lo hi v xs :=
  ⟨owns_of_block h.1 fun g e => hk.block g (h.1.lt g e).2 (by have := h.2 g e; have := (h.1.lt g e).1; omega), h.2⟩
theorem Below.markedC {B lo' hi' : Nat} {w w1 w' : World} {v' : Value} {ys : List (Nat × Nat)} (h : Below B w w1) (hB : B ≤ lo') (hB2 : B ≤ w1.heap.size) (hx : OwnC w1 lo' hi' v' ys) (hg : w1.grownBy w' v'.ownBlock) : Below B w w' :=
  h.grown hg hB2 fun k hk => by
    have h2 := (hx.1.lt k hk).1
    omega
end Go.Proofs.Ytjeaiihgedennaa
