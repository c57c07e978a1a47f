/- Words for memory that all texts of this seat use: a slice that reads as a list of cells, rows that the call owns, what a draw leaves. Conditions: none, these are plain lemmas. -/
import Derived.Test.YtjeaiihgedennaaChecked
import Derived.WalkKit
import Derived.ProofKit
import Derived.OpenShut
import Derived.Outline
import Derived.Deep.QuietTactic
import Derived.BigQuiet
import Derived.RegionTactic
import Derived.ChangeAlike
import Derived.Deep.AppendLies
import Derived.Deep.Draws
import Derived.Deep.DeepCutAuto
import Derived.Deep.OwnRows
import Derived.Maps.AppendAt
import Derived.Laws.OwnMore
import Derived.Laws.MakeOwn
import Derived.WalkSmall
import Derived.WalkSpells
import Derived.WalkLawsBesides
import Derived.Lib.Hide
import Derived.Shelf.Abstract
namespace Go.Proofs.Ytjeaiihgedennaa
open Go.ChangeShapes Go.WideShapes Go.ChangeAt Go.RowKit

theorem hide {p : Prop} (h : p) : Hid p := h

theorem add_block (a : Addr) (n : Nat) : (a.add n).block = a.block := by unfold Addr.add; split <;> rfl
theorem add_add' (a : Addr) (i j : Nat) : (a.add i).add j = a.add (i + j) := by
  unfold Addr.add
  by_cases hi : i = 0 <;> by_cases hj : j = 0 <;> simp [hi, hj, Nat.add_assoc]

/-- integers as cells -/
abbrev iv (xs : List Int) : List Value := xs.map (Value.int .i64)
/-- The slice value with address A and length n reads, in w, as the cells xs. -/
def Rd (w : World) (A : Option Addr) (n : Nat) (xs : List Value) : Prop :=
  xs.length = n ∧ (0 < n → ∃ ad, A = some ad ∧ ad.block < w.heap.size ∧ ∀ j u, xs[j]? = some u → w.cell? (ad.add j) = some u)

section
variable {w w' : World} {n : Nat} {A : Option Addr} {xs : List Value}
theorem Rd.nil (w : World) (A : Option Addr) : Rd w A 0 [] := ⟨rfl, fun h => absurd h (by omega)⟩
theorem Rd.at (h : Rd w A n xs) {k : Nat} (hk : k < n) : ∃ ad u, A = some ad ∧ ad.block < w.heap.size ∧ xs[k]? = some u ∧ w.cell? (ad.add k) = some u := by
  obtain ⟨ad, e, hb, hc⟩ := h.2 (by omega)
  have hl : k < xs.length := by rw [h.1]; exact hk
  exact ⟨ad, xs[k], e, hb, List.getElem?_eq_getElem hl, hc k _ (List.getElem?_eq_getElem hl)⟩
theorem Rd.keep (h : Rd w A n xs) (hs : w.heap.size ≤ w'.heap.size) (hk : ∀ ad, A = some ad → ad.block < w.heap.size → ∀ p : Addr, p.block = ad.block → w'.cell? p = w.cell? p) : Rd w' A n xs :=
  ⟨h.1, fun hn => by
    obtain ⟨ad, e, hb, hc⟩ := h.2 hn
    exact ⟨ad, e, Nat.lt_of_lt_of_le hb hs, fun j u hu => (hk ad e hb _ (add_block _ _)).trans (hc j u hu)⟩⟩
theorem Rd.below (h : Rd w A n xs) (hb : Below w.heap.size w w') : Rd w' A n xs := h.keep hb.size fun _ _ hl p hp => hb.cell (p := p) (by omega)
theorem Rd.drew (h : Rd w A n xs) : Rd w.drew A n xs := h
theorem Rd.drewN (h : Rd w A n xs) (k : Nat) : Rd (w.drewN k) A n xs := h
theorem Rd.alloc (h : Rd w A n xs) (o : Obj) : Rd (w.alloc o) A n xs := h.below ((Below.refl _ _).alloc (Nat.le_refl _) o)
theorem Rd.grown (h : Rd w A n xs) {row : Option Nat} (hg : w.grownBy w' row) (hr : ∀ g ad, row = some g → A = some ad → ad.block ≠ g) : Rd w' A n xs :=
  h.keep hg.size fun ad ha hl p hp => World.cell?_of_block (hg.block p.block (by omega) (fun e => hr _ ad e.symm ha hp.symm))
theorem Rd.setCell (h : Rd w A n xs) {p : Addr} (hp : ∀ ad, A = some ad → ad.block ≠ p.block) (u : Value) : Rd (w.setCell p u) A n xs :=
  h.keep (by simp [World.setCell]) fun ad ha _ q hq => World.cell?_setCell_other w p q u (fun e => hp ad ha (by rw [← hq, e]))
/-- a cut 's[k:m]' or 's[k:]', where the model writes the address with an 'if' -/
theorem Rd.cut (h : Rd w A n xs) {k m cap : Nat} (hk : k ≤ m) (hm : m ≤ n) (hc : n ≤ cap) :
    Rd w (if cap = k then A else A.map (·.add k)) (m - k) ((xs.drop k).take (m - k)) := by
  have hl := h.1
  refine ⟨by simp; omega, fun hn => ?_⟩
  obtain ⟨ad, rfl, hb, hcell⟩ := h.2 (by omega)
  rw [if_neg (by omega)]
  refine ⟨ad.add k, rfl, by rw [add_block]; exact hb, fun j u hu => ?_⟩
  rw [add_add']
  refine hcell _ u ?_
  rw [List.getElem?_take] at hu
  split at hu
  · rw [← hu, List.getElem?_drop]
  · cases hu
theorem Rd.take (h : Rd w A n xs) {m : Nat} (hm : m ≤ n) : Rd w A m (xs.take m) := by
  have hl := h.1
  refine ⟨by simp; omega, fun hn => ?_⟩
  obtain ⟨ad, rfl, hb, hcell⟩ := h.2 (by omega)
  refine ⟨ad, rfl, hb, fun j u hu => hcell _ u ?_⟩
  rw [List.getElem?_take] at hu
  split at hu
  · exact hu
  · cases hu
theorem Rd.of_own {base : Nat} {e : TypeId} {c : Nat} (h : w.ownsRow base e 1 (.slice A n c) n xs) : Rd w A n xs := by
  refine ⟨by simpa using h.1, fun hn => ?_⟩
  rcases h.2 with ⟨_, h0⟩ | ⟨g, cap, cur, hv, _, hg, _⟩
  · omega
  · have hA : A = some ⟨g, 0, none⟩ := by injection hv
    subst hA
    exact ⟨_, rfl, (Array.getElem?_eq_some_iff.1 hg).1, h.cells (g := g) rfl⟩
theorem Rd.from {w : World} {n k cap : Nat} {A : Option Addr} {xs : List Int} (h : Rd w A n (iv xs)) (hk : k ≤ n) (hc : n ≤ cap) :
    Rd w (if cap = k then A else A.map (·.add k)) (n - k) (iv (xs.drop k)) := by
  have hl : xs.length = n := by simpa using h.1
  have hcut := h.cut (k := k) (m := n) (cap := cap) hk (Nat.le_refl _) hc
  rwa [show ((iv xs).drop k).take (n - k) = iv (xs.drop k) from by rw [List.take_of_length_le (by simp; omega)]; simp] at hcut
theorem Rd.upto {w : World} {n k : Nat} {A : Option Addr} {xs : List Int} (h : Rd w A n (iv xs)) (hk : k ≤ n) : Rd w A k (iv (xs.take k)) := by
  have htk := h.take (m := k) hk
  rwa [← List.map_take] at htk
theorem Rd.part {w : World} {n k m cap : Nat} {A : Option Addr} {xs : List Int} (h : Rd w A n (iv xs)) (hk : k ≤ m) (hm : m ≤ n) (hc : n ≤ cap) :
    Rd w (if cap = k then A else A.map (·.add k)) (m - k) (iv ((xs.drop k).take (m - k))) := by
  have hcut := h.cut (k := k) (m := m) (cap := cap) hk hm hc
  rwa [show ((iv xs).drop k).take (m - k) = iv ((xs.drop k).take (m - k)) from by simp] at hcut
end

/-- Block g of w holds just the cells cs, of element type t, none of them frozen. -/
def Bk (w : World) (g : Nat) (t : TypeId) (cs : List Value) : Prop := w.heap[g]? = some (.cells cs.toArray t (0, 0))

section
variable {w w' : World} {g : Nat} {t : TypeId} {cs : List Value}
theorem Bk.lt (h : Bk w g t cs) : g < w.heap.size := (Array.getElem?_eq_some_iff.1 h).1
theorem Bk.cell (h : Bk w g t cs) (i : Nat) : w.cell? ⟨g, i, none⟩ = cs[i]? := by
  have := cell_of_row w g i cs.toArray t (0, 0) h
  simpa using this
theorem Bk.free (h : Bk w g t cs) (i : Nat) : w.frozen? ⟨g, i, none⟩ = false := by
  unfold Bk at h
  simp [World.frozen?, h]
theorem Bk.new (w : World) (t : TypeId) (cs : List Value) : Bk (w.alloc (.cells cs.toArray t)) w.heap.size t cs := heap_alloc_new w _
theorem Bk.drew (h : Bk w g t cs) : Bk w.drew g t cs := h
theorem Bk.drewN (h : Bk w g t cs) (n : Nat) : Bk (w.drewN n) g t cs := h
theorem Bk.alloc (h : Bk w g t cs) (o : Obj) : Bk (w.alloc o) g t cs := (Below.heap_alloc w o g h.lt).trans h
theorem Bk.set (h : Bk w g t cs) (i : Nat) (u : Value) : Bk (w.setCell ⟨g, i, none⟩ u) g t (cs.set i u) := by
  unfold Bk at h ⊢
  simp [World.setCell, Array.getElem?_modify, h]
theorem Bk.far (h : Bk w g t cs) {p : Addr} (hp : g ≠ p.block) (u : Value) : Bk (w.setCell p u) g t cs := (Below.heap_setCell w p u g hp).trans h
theorem Bk.below {B : Nat} (h : Bk w g t cs) (hb : Below B w w') (hg : g < B) : Bk w' g t cs := (hb.block g hg).trans h
theorem Bk.grown {row : Option Nat} (h : Bk w g t cs) (hb : w.grownBy w' row) (hg : some g ≠ row) : Bk w' g t cs := (hb.block g h.lt hg).trans h
theorem Bk.rd (h : Bk w g t cs) : Rd w (some ⟨g, 0, none⟩) cs.length cs :=
  ⟨rfl, fun _ => ⟨_, rfl, h.lt, fun j u hu => by rw [Addr.add_lit]; simpa [h.cell] using hu⟩⟩
theorem Bk.own {base : Nat} (h : Bk w g t cs) (hb : base ≤ g) (hm : cs.length ≤ maxLen) : w.ownsRow base t 1 (.slice (some ⟨g, 0, none⟩) cs.length cs.length) cs.length cs :=
  ⟨by simp, .inr ⟨g, cs.length, cs.toArray, rfl, hb, h, Nat.le_refl _, hm, by simp, by simp⟩⟩
theorem Bk.of_grown {base : Nat} {n : Nat} {z : Value} (h : w.ownsRow base t 1 (.slice (some ⟨g, 0, none⟩) n n) n (madeCells #[z] n).toList) : Bk w g t (List.replicate n z) := by
  obtain ⟨h1, h2⟩ := h
  rcases h2 with ⟨hv, _⟩ | ⟨g', cap, cur, hv, _, hg, _, _, hsz, htk⟩
  · cases hv
  · injection hv with e1 _ e3
    injection e1 with e1
    injection e1 with e1
    subst e1 e3
    unfold Bk
    rw [toList_madeCells_one] at htk
    rw [hg]
    have : cur = (List.replicate n z).toArray := by
      apply Array.ext'
      rw [List.toList_toArray]
      have e2 : cur.toList.take (n * 1) = cur.toList := by
        apply List.take_of_length_le
        simp; omega
      rw [e2] at htk
      simpa using htk
    rw [this]
end

theorem below_drewN {B : Nat} {a w : World} (h : Below B a w) (n : Nat) : Below B a (w.drewN n) := ⟨h.os, h.tape, h.output, h.size, h.block⟩
theorem bcell {W w1 : World} (hb : Below W.heap.size W w1) : (∀ b o, b < W.heap.size → w1.cell? ⟨b, o, none⟩ = W.cell? ⟨b, o, none⟩) ∧ (∀ b o, b < W.heap.size → w1.frozen? ⟨b, o, none⟩ = W.frozen? ⟨b, o, none⟩) :=
  ⟨fun b o h => hb.cell (p := ⟨b, o, none⟩) h, fun b o h => hb.frozen (p := ⟨b, o, none⟩) h⟩
theorem grown_of_below {a w : World} (h : Below a.heap.size a w) (row : Option Nat) : a.grownBy w row := ⟨h.os, h.tape, h.output, h.size, fun i hi _ => h.block i hi⟩

theorem drew2 (w : World) (n m : Nat) : ∃ k, (w.drewN n).drewN m = w.drewN k := ⟨_, World.drewN_drewN ..⟩
theorem wrap_div (a b : Nat) (h : a ≤ 4611686018427387904) : wrap64 ((a : Int) / (b : Int)) = ((a / b : Nat) : Int) := by
  have h1 : a / b ≤ a := Nat.div_le_self a b
  rw [← Int.natCast_ediv]
  generalize a / b = q at *
  exact IntWalk.wrap64_in _ ⟨by omega, by omega⟩
theorem ret_int {k : IntKind} {a b : Int} (h : a = b) : Ending.returned (.int k a) = .returned (.int k b) := by rw [h]
theorem ret_bool {a b : Bool} (h : a = b) : Ending.returned (.bool a) = .returned (.bool b) := by rw [h]

theorem iv_one (xs : List Int) : ∀ u ∈ iv xs, u.oneCell' = true := ints_oneCell .i64 xs
theorem iv_get {xs : List Int} {k : Nat} (hk : k < xs.length) : (iv xs)[k]? = some (.int .i64 (xs.getD k 0)) := by
  simp [iv, List.getD, hk]
theorem Rd.int {w : World} {n : Nat} {A : Option Addr} {xs : List Int} (h : Rd w A n (iv xs)) {k : Nat} (hk : k < n) :
    ∃ ad, A = some ad ∧ ad.block < w.heap.size ∧ w.cell? (ad.add k) = some (.int .i64 (xs.getD k 0)) := by
  obtain ⟨ad, u, e, hb, hu, hc⟩ := h.at hk
  have hl : k < xs.length := by have := h.1; simp [iv] at this; omega
  rw [iv_get hl] at hu
  injection hu with hu
  subst hu
  exact ⟨ad, e, hb, hc⟩
theorem Rd.len {w : World} {n : Nat} {A : Option Addr} {xs : List Int} (h : Rd w A n (iv xs)) : xs.length = n := by simpa [iv] using h.1
theorem Bk.int {w : World} {g : Nat} {t : TypeId} {xs : List Int} (h : Bk w g t (iv xs)) {k : Nat} (hk : k < xs.length) :
    w.cell? ⟨g, k, none⟩ = some (.int .i64 (xs.getD k 0)) := by rw [h.cell, iv_get hk]
theorem Bk.seti {w : World} {g : Nat} {t : TypeId} {xs : List Int} (h : Bk w g t (iv xs)) (i : Nat) (x : Int) : Bk (w.setCell ⟨g, i, none⟩ (.int .i64 x)) g t (iv (xs.set i x)) := by
  have := h.set i (.int .i64 x)
  rw [← List.map_set] at this
  exact this
theorem Bk.rdi {w : World} {g n : Nat} {t : TypeId} {xs : List Int} (h : Bk w g t (iv xs)) (hn : xs.length = n) : Rd w (some ⟨g, 0, none⟩) n (iv xs) := by
  have := h.rd
  rwa [show (iv xs).length = n from by simpa [iv] using hn] at this
/-- What the frame of a law tells of a slice of integers that came in. -/
theorem rd_of_row {w : World} {a : Option Addr} {len cap : Nat} {zs : List Int}
    (h : (a = none ∧ len = 0 ∧ cap = 0 ∧ zs = []) ∨ ∃ x, a = some x ∧ len ≤ cap ∧ cap ≤ maxLen ∧ zs.length = cap ∧ (∀ i, i < zs.length → w.cell? (x.add i) = some (.int .i64 (zs.getD i 0))) ∧ ∀ n ∈ zs, (Lit.int .i64 n).wf = true) :
    ∃ xs : List Int, xs.length = len ∧ Rd w a len (iv xs) ∧ len ≤ cap ∧ len ≤ 9223372036854775807 ∧ ∀ n ∈ xs, (Lit.int .i64 n).wf = true := by
  rcases h with ⟨rfl, rfl, rfl, rfl⟩ | ⟨x, rfl, hl, hm, hz, hc, hw⟩
  · exact ⟨[], rfl, Rd.nil _ _, Nat.le_refl _, by omega, fun n h => by cases h⟩
  · unfold maxLen at hm
    refine ⟨zs.take len, by simp; omega, ⟨by simp [iv]; omega, fun hn => ⟨x, rfl, ?_, fun j u hu => ?_⟩⟩, hl, by omega, fun n hn => hw n (List.mem_of_mem_take hn)⟩
    · have := World.block_lt_of_cell? w _ (hc 0 (by omega))
      rwa [add_block] at this
    · have hj : j < len := by
        have := (List.getElem?_eq_some_iff.1 hu).1
        simp [iv] at this
        omega
      rw [hc j (by omega), ← hu, iv_get (by simp; omega)]
      congr 2
      simp [List.getD, List.getElem?_take, hj]
theorem rep_iv (n : Nat) (x : Int) : List.replicate n (Value.int .i64 x) = iv (List.replicate n x) := by simp [iv]
theorem take_snoc' {α : Type} [Inhabited α] (xs : List α) (d : α) (k : Nat) (h : k < xs.length) : xs.take (k + 1) = xs.take k ++ [xs.getD k d] := by
  rw [List.take_succ_eq_append_getElem h]; simp [List.getD, h]

/-- A slice of integers that the call owns, with its block from lo on and below hi. -/
def Own (w : World) (lo hi : Nat) (v : Value) (xs : List Int) : Prop :=
  w.ownsRow lo 2 1 v xs.length (iv xs) ∧ ∀ g, v.ownBlock = some g → g < hi

theorem Own.form {w : World} {lo hi : Nat} {v : Value} {xs : List Int} (h : Own w lo hi v xs) : ∃ A c, v = .slice A xs.length c ∧ xs.length ≤ c ∧ c ≤ maxLen ∧ Rd w A xs.length (iv xs) ∧ (∀ ad, A = some ad → ad = ⟨ad.block, 0, none⟩ ∧ lo ≤ ad.block ∧ ad.block < hi) := by
  obtain ⟨h1, h2⟩ := h
  have h1' := h1
  rcases h1.2 with ⟨rfl, h0⟩ | ⟨g, cap, cur, rfl, hl, _, hn, hm, _⟩
  · rw [h0]
    have : xs = [] := List.eq_nil_of_length_eq_zero h0
    subst this
    exact ⟨none, 0, rfl, by simp, by simp [maxLen], Rd.nil _ _, fun ad h => by cases h⟩
  · exact ⟨some ⟨g, 0, none⟩, cap, rfl, hn, hm, Rd.of_own h1', fun ad h => by injection h with h; subst h; exact ⟨rfl, hl, h2 g rfl⟩⟩

theorem Own.below {w w' : World} {lo hi : Nat} {v : Value} {xs : List Int} (h : Own w lo hi v xs) (hb : Below w.heap.size w w') : Own w' lo hi v xs :=
  ⟨h.1.kept (grown_of_below hb none) (by cases hv : v.ownBlock <;> simp), h.2⟩
theorem Own.grown {w w' : World} {lo hi : Nat} {v : Value} {xs : List Int} {row : Option Nat} (h : Own w lo hi v xs) (hb : w.grownBy w' row) (hr : ∀ g, row = some g → g < lo ∨ hi ≤ g) : Own w' lo hi v xs := by
  refine ⟨h.1.kept hb ?_, h.2⟩
  cases hv : v.ownBlock with
  | none => exact .inl rfl
  | some g =>
    refine .inr fun e => ?_
    have h1 := h.2 g hv
    have h2 := (h.1.lt g hv).1
    have := hr g e.symm
    omega
theorem Own.drewN {w : World} {lo hi : Nat} {v : Value} {xs : List Int} (h : Own w lo hi v xs) (n : Nat) : Own (w.drewN n) lo hi v xs := h
theorem Own.drew {w : World} {lo hi : Nat} {v : Value} {xs : List Int} (h : Own w lo hi v xs) : Own w.drew lo hi v xs := h
theorem Own.lo {w : World} {lo lo' hi : Nat} {v : Value} {xs : List Int} (h : Own w lo hi v xs) (hl : lo' ≤ lo) : Own w lo' hi v xs := by
  refine ⟨⟨h.1.1, ?_⟩, h.2⟩
  rcases h.1.2 with hn | ⟨g, cap, cur, hv, hb, rest⟩
  · exact .inl hn
  · exact .inr ⟨g, cap, cur, hv, by omega, rest⟩
theorem Own.hi {w : World} {lo hi hi' : Nat} {v : Value} {xs : List Int} (h : Own w lo hi v xs) (hl : hi ≤ hi') : Own w lo hi' v xs := ⟨h.1, fun g hg => by have := h.2 g hg; omega⟩
theorem Own.nil (w : World) (lo hi : Nat) : Own w lo hi (.slice none 0 0) [] := ⟨World.ownsRow_nil _ _ _ _, fun g h => by simp [Value.ownBlock] at h⟩
theorem Bk.owned {w : World} {g lo : Nat} {xs : List Int} (h : Bk w g 2 (iv xs)) (hl : lo ≤ g) (hm : xs.length ≤ maxLen) : Own w lo w.heap.size (.slice (some ⟨g, 0, none⟩) xs.length xs.length) xs := by
  refine ⟨?_, fun k hk => ?_⟩
  · have := h.own hl (by simpa [iv] using hm)
    simpa [iv] using this
  · have h2 : g = k := by simpa [Value.ownBlock] using hk
    have := h.lt
    omega
theorem Own.rd {w : World} {lo hi n c : Nat} {A : Option Addr} {xs : List Int} (h : Own w lo hi (.slice A n c) xs) : Rd w A n (iv xs) ∧ xs.length = n ∧ n ≤ c := by
  obtain ⟨A', c', hv, hc, _, hr, _⟩ := h.form
  injection hv with h1 h2 h3
  subst h1 h2 h3
  exact ⟨hr, rfl, hc⟩

theorem info_i64 : (Try.prog.info? 2).map (fun i => (i.zero, i.size, i.bytes)) = some (some (.int .i64 0), 1, 8) := by kernel_rfl

/-- A slice of integers whose block is one of the call's own, from lo on: what a loop carries. -/
def OwnL (w : World) (lo : Nat) (v : Value) (xs : List Int) : Prop := w.ownsRow lo 2 1 v xs.length (iv xs)
theorem OwnL.own {w : World} {lo : Nat} {v : Value} {xs : List Int} (h : OwnL w lo v xs) : Own w lo w.heap.size v xs := ⟨h, fun g e => (World.ownsRow.lt h g e).2⟩
theorem Own.l {w : World} {lo hi : Nat} {v : Value} {xs : List Int} (h : Own w lo hi v xs) : OwnL w lo v xs := h.1
theorem OwnL.below {w w' : World} {lo : Nat} {v : Value} {xs : List Int} (h : OwnL w lo v xs) (hb : Below w.heap.size w w') : OwnL w' lo v xs := (h.own.below hb).l
theorem OwnL.nil (w : World) (lo : Nat) : OwnL w lo (.slice none 0 0) [] := World.ownsRow_nil _ _ _ _
theorem OwnL.lt {w : World} {lo : Nat} {v : Value} {xs : List Int} (h : OwnL w lo v xs) : ∀ k, v.ownBlock = some k → lo ≤ k ∧ k < w.heap.size := World.ownsRow.lt h
theorem OwnL.empty (w : World) (cur : Array Value) (hs : cur.size = 0) {lo : Nat} (hl : lo ≤ w.heap.size) : OwnL (w.alloc (.cells cur 2)) lo (.slice (some ⟨w.heap.size, 0, none⟩) 0 0) [] :=
  World.ownsRow_made w cur 0 hl (by simp [maxLen]) (by simpa using hs)

/-- 'append(out, y)', one integer: behind the new one-cell block that the translation lays -/
theorem app1 {w : World} {ops : Array Oper} {rest : List Oper} {o : Oper} {a : Act} {Q : Exit → Act → World → Prop} {lo : Nat} {v : Value} {xs : List Int} {y : Int}
    (hown : OwnL w lo v xs) (hn : xs.length ≤ 1048576) (hlo : lo ≤ w.heap.size) (hgd : o.guard = none) {s x : Operand}
    (ho : o.op = .call { callee := .builtin .append, args := #[s, x], argTypes := #[45, 45] })
    (hs : a.eval s = v) (hx : a.eval x = .slice (some ⟨w.heap.size, 0, none⟩) 1 1)
    (h : ∀ v' w', OwnL w' lo v' (xs ++ [y]) → w.grownBy w' v.ownBlock → wpList Try.prog ops Q rest (a.put o.dst v') w') :
    wpList Try.prog ops Q (o :: rest) a (w.alloc (.cells #[.int .i64 y] 2)) := by
  obtain ⟨i0, hi, hz0, hz1, hz2⟩ := info_parts info_i64
  refine wpList_append_own _ hgd s x 45 ho lo 2 i0 (.int .i64 0) 1 8 Try.underlying45 hi hz0 hz1 hz2 rfl (by decide) v xs.length (iv xs) hs (World.ownsRow.alloc hown _) ⟨w.heap.size, 0, none⟩ 1 1 [.int .i64 y] hx rfl ?_ ?_ ?_ ?_ ?_ ?_
  · intro j u hj
    match j, hj with
    | 0, hj =>
      simp at hj
      subst hj
      rw [Addr.add_lit, World.cell?_alloc_at _ _ _ _ rfl]
      rfl
  · intro u hu
    simp at hu
    subst hu
    rfl
  · unfold maxLen; omega
  · omega
  · simp; omega
  · intro v' w' h1 h2 _
    refine h v' w' ?_ ?_
    · have e : xs.length + 1 = (xs ++ [y]).length := by simp
      have e2 : iv xs ++ [.int .i64 y] = iv (xs ++ [y]) := by simp [iv]
      rw [e, e2] at h1
      exact h1
    · exact (World.grownBy_alloc w _ _).trans h2

/-- 'make([]int64, n)': a new block of n zeros -/
theorem mk1 {w : World} {ops : Array Oper} {rest : List Oper} {o : Oper} {a : Act} {Q : Exit → Act → World → Prop} {n : Nat} (hn : n ≤ 1048576) (hgd : o.guard = none) {l c : Operand}
    (ho : o.op = Op.makeSlice 45 l c) (hl : a.eval l = .int .i64 (n : Int)) (hc : a.eval c = .int .i64 (n : Int))
    (h : ∀ w', Bk w' w.heap.size 2 (iv (List.replicate n 0)) → Below w.heap.size w w' → w.heap.size < w'.heap.size → wpList Try.prog ops Q rest (a.put o.dst (.slice (some ⟨w.heap.size, 0, none⟩) n n)) w') :
    wpList Try.prog ops Q (o :: rest) a w := by
  obtain ⟨i0, hi, hz0, hz1, hz2⟩ := info_parts info_i64
  refine wpList_make_full _ hgd l c 45 ho w.heap.size 2 i0 (.int .i64 0) 1 Try.underlying45 hi hz0 hz1 _ _ _ _ n hl hc rfl rfl ?_ ?_ (Nat.le_refl _) ?_
  · rw [hz2]; omega
  · unfold maxLen; omega
  · intro w' h1 h2
    rw [Nat.mul_one] at h1
    have hB := Bk.of_grown h1
    rw [rep_iv] at hB
    exact h w' hB ((Below.refl _ _).grown h2 (Nat.le_refl _) (fun k e => by cases e)) hB.lt
theorem Bk.setb {w : World} {g : Nat} {t : TypeId} {xs : List Int} (h : Bk w g t (iv xs)) {p : Addr} (hp : g ≠ p.block) (u : Value) : Bk (w.setCell p u) g t (iv xs) := h.far hp u
theorem set_size (w : World) (a : Addr) (u : Value) : (w.setCell a u).heap.size = w.heap.size := by simp [World.setCell]
end Go.Proofs.Ytjeaiihgedennaa
