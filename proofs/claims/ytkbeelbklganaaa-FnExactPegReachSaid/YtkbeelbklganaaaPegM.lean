/- Boards as numbers: what a move makes of them, how many pegs are left at least, what can be reached. Conditions: none, these are plain lemmas. -/
import Derived.Test.YtkbeelbklganaaaPegL
import Derived.Maps.OwnSet
namespace Go.Proofs.Ytkbeelbklganaaa
open Go.ChangeShapes Go.WideShapes Go.ChangeAt Go.RowKit

/-! ### counting -/
def updT (T : Nat → Bool) (i : Nat) (v : Bool) : Nat → Bool := fun j => if j = i then v else T j
theorem updT_at (T : Nat → Bool) (i : Nat) (v : Bool) : updT T i v i = v := by simp [updT]
theorem updT_ne {T : Nat → Bool} {i j : Nat} {v : Bool} (h : j ≠ i) : updT T i v j = T j := by simp [updT, h]
def cntT (T : Nat → Bool) : Nat → Nat
  | 0 => 0
  | n + 1 => cntT T n + (if T n = true then 1 else 0)
theorem cntT_le (T : Nat → Bool) (n : Nat) : cntT T n ≤ n := by
  induction n with
  | zero => simp [cntT]
  | succ n ih => rw [cntT]; split <;> omega
theorem cntT_same {T U : Nat → Bool} {n : Nat} (h : ∀ j, j < n → T j = U j) : cntT T n = cntT U n := by
  induction n with
  | zero => rfl
  | succ n ih => rw [cntT, cntT, ih fun j hj => h j (by omega), h n (by omega)]
theorem cntT_t {T : Nat → Bool} {i n : Nat} (h : i < n) (hT : T i = false) : cntT (updT T i true) n = cntT T n + 1 := by
  induction n with
  | zero => omega
  | succ n ih =>
    rw [cntT, cntT]
    by_cases e : i = n
    · subst e
      rw [cntT_same (U := T) (fun j hj => updT_ne (by omega)), updT_at, hT]
      simp
    · rw [ih (by omega), updT_ne (by omega)]
      omega
theorem cntT_f {T : Nat → Bool} {i n : Nat} (h : i < n) (hT : T i = true) : cntT (updT T i false) n + 1 = cntT T n := by
  have e : updT (updT T i false) i true = T := by
    funext j
    by_cases hj : j = i
    · subst hj; rw [updT_at, hT]
    · rw [updT_ne hj, updT_ne hj]
  have := cntT_t (T := updT T i false) h (updT_at T i false)
  rw [e] at this
  omega
theorem cntT_zero {T : Nat → Bool} {n : Nat} (h : ∀ j, j < n → T j = false) : cntT T n = 0 := by
  induction n with
  | zero => rfl
  | succ n ih => rw [cntT, ih fun j hj => h j (by omega), h n (by omega)]; simp

/-! ### moves -/
/-- a board behind a move -/
def mvd (x f t : Nat) : Nat := (x ^^^ (x &&& (2 ^ f ||| 2 ^ ((f + t) / 2)))) ||| 2 ^ t
theorem mvd_bit (x f t i : Nat) : (mvd x f t).testBit i = if i = t then true else if i = (f + t) / 2 then false else if i = f then false else x.testBit i := by
  unfold mvd
  rw [Nat.testBit_or, Nat.testBit_xor, Nat.testBit_and, Nat.testBit_or, Nat.testBit_two_pow, Nat.testBit_two_pow, Nat.testBit_two_pow]
  generalize (f + t) / 2 = m
  by_cases h1 : i = t
  · subst h1; simp
  · have h1' : ¬ t = i := fun e => h1 e.symm
    by_cases h2 : i = m
    · subst h2
      cases x.testBit i <;> simp [h1, h1']
    · have h2' : ¬ m = i := fun e => h2 e.symm
      by_cases h3 : i = f
      · subst h3
        cases x.testBit i <;> simp [h1, h1', h2, h2']
      · have h3' : ¬ f = i := fun e => h3 e.symm
        cases x.testBit i <;> simp [h1, h1', h2, h2', h3, h3']
def mvP (n : Nat) (T : Nat → Bool) : Nat → List (Nat × Nat)
  | 0 => []
  | k + 1 => mvP n T k ++ (if T k = true then
      (if (decide (2 ≤ k) && (T (k - 1) && !T (k - 2))) = true then [(k, k - 2)] else []) ++
      (if (decide (k + 2 < n) && (T (k + 1) && !T (k + 2))) = true then [(k, k + 2)] else []) else [])
def flatP (ps : List (Nat × Nat)) : List Int := ps.flatMap fun p => [(p.1 : Int), (p.2 : Int)]
theorem flatP_app (a b : List (Nat × Nat)) : flatP (a ++ b) = flatP a ++ flatP b := by simp [flatP]
theorem flatP_nil : flatP [] = [] := rfl
theorem flatP_one (a b : Nat) : flatP [(a, b)] = [(a : Int), (b : Int)] := rfl
theorem mvN_flat (n : Nat) (T : Nat → Bool) (k : Nat) : mvN n T k = flatP (mvP n T k) := by
  induction k with
  | zero => rfl
  | succ k ih =>
    rw [mvN, mvS, mvP, flatP_app, ← ih]
    by_cases hT : T k = true
    · rw [if_pos hT, if_pos hT, flatP_app, ← List.append_assoc]
      have e1 : m1 T k (mvN n T k) = mvN n T k ++ flatP (if (decide (2 ≤ k) && (T (k - 1) && !T (k - 2))) = true then [(k, k - 2)] else []) := by
        unfold m1
        split
        · rename_i h
          have h2 : 2 ≤ k := by
            simp only [Bool.and_eq_true, decide_eq_true_eq] at h
            exact h.1
          rw [flatP_one]
          congr 3
          omega
        · rw [flatP_nil, List.append_nil]
      rw [e1]
      unfold m2
      split
      · rw [flatP_one]; rfl
      · rw [flatP_nil, List.append_nil]
    · rw [if_neg hT, if_neg hT, flatP_nil, List.append_nil]
def okM (n : Nat) (T : Nat → Bool) (p : Nat × Nat) : Prop := p.1 < n ∧ p.2 < n ∧ T p.1 = true ∧ T ((p.1 + p.2) / 2) = true ∧ T p.2 = false ∧ (p.1 + 2 = p.2 ∨ p.2 + 2 = p.1)
theorem mvP_ok {n : Nat} {T : Nat → Bool} {k : Nat} (hk : k ≤ n) : ∀ p ∈ mvP n T k, okM n T p := by
  induction k with
  | zero => intro p hp; cases hp
  | succ k ih =>
    intro p hp
    rw [mvP, List.mem_append] at hp
    rcases hp with hp | hp
    · exact ih (by omega) p hp
    · by_cases hT : T k = true
      · rw [if_pos hT, List.mem_append] at hp
        rcases hp with hp | hp
        · split at hp
          · rename_i h
            simp only [Bool.and_eq_true, decide_eq_true_eq, Bool.not_eq_true'] at h
            obtain ⟨h1, h2, h3⟩ := h
            rw [List.mem_singleton] at hp
            subst hp
            refine ⟨by show k < n; omega, by show k - 2 < n; omega, hT, ?_, h3, .inr (by show k - 2 + 2 = k; omega)⟩
            show T ((k + (k - 2)) / 2) = true
            rw [show (k + (k - 2)) / 2 = k - 1 by omega]
            exact h2
          · cases hp
        · split at hp
          · rename_i h
            simp only [Bool.and_eq_true, decide_eq_true_eq, Bool.not_eq_true'] at h
            obtain ⟨h1, h2, h3⟩ := h
            rw [List.mem_singleton] at hp
            subst hp
            refine ⟨by show k < n; omega, by show k + 2 < n; omega, hT, ?_, h3, .inl rfl⟩
            show T ((k + (k + 2)) / 2) = true
            rw [show (k + (k + 2)) / 2 = k + 1 by omega]
            exact h2
          · cases hp
      · rw [if_neg hT] at hp; cases hp
def ones (n x : Nat) : Nat := cntT x.testBit n
theorem mvd_ones {n x f t : Nat} (h : okM n x.testBit (f, t)) : ones n (mvd x f t) + 1 = ones n x := by
  obtain ⟨h1, h2, h3, h4, h5, h6⟩ := h
  simp only at h1 h2 h3 h4 h5 h6
  unfold ones
  have e : (mvd x f t).testBit = updT (updT (updT x.testBit f false) ((f + t) / 2) false) t true := by
    funext i
    rw [mvd_bit]
    unfold updT
    rfl
  rw [e]
  have hm : (f + t) / 2 < n := by omega
  have a3 : updT (updT x.testBit f false) ((f + t) / 2) false t = false := by rw [updT_ne (by omega), updT_ne (by omega), h5]
  have a2 : updT x.testBit f false ((f + t) / 2) = true := by rw [updT_ne (by omega), h4]
  have b1 := cntT_f h1 h3
  have b2 := cntT_f hm a2
  have b3 := cntT_t h2 a3
  omega
theorem mvd_lt {n x f t : Nat} (hx : x < 2 ^ n) (ht : t < n) : mvd x f t < 2 ^ n := by
  refine Nat.lt_pow_two_of_testBit _ fun i hi => ?_
  rw [mvd_bit, if_neg (by omega)]
  split
  · rfl
  · split
    · rfl
    · exact Nat.testBit_lt_two_pow (Nat.lt_of_lt_of_le hx (Nat.pow_le_pow_right (by omega) hi))
/-- the boards behind one move -/
def nxP (n x : Nat) : List (Nat × Nat) := mvP n x.testBit n
def nx (n x : Nat) : List Nat := (nxP n x).map fun p => mvd x p.1 p.2
theorem nx_ones {n x y : Nat} (h : y ∈ nx n x) : ones n y + 1 = ones n x := by
  obtain ⟨p, hp, rfl⟩ := List.mem_map.1 h
  exact mvd_ones (mvP_ok (Nat.le_refl n) p hp)
theorem nx_lt {n x y : Nat} (hx : x < 2 ^ n) (h : y ∈ nx n x) : y < 2 ^ n := by
  obtain ⟨p, hp, rfl⟩ := List.mem_map.1 h
  exact mvd_lt hx (mvP_ok (Nat.le_refl n) p hp).2.1

/-! ### the least number of pegs -/
def lst (n : Nat) : Nat → Nat → Nat
  | 0, x => ones n x
  | k + 1, x => (nx n x).foldl (fun a y => min a (lst n k y)) (ones n x)
theorem foldl_same {α : Type} {f g : Nat → α → Nat} : ∀ {ys : List α} {a : Nat}, (∀ a, ∀ y ∈ ys, f a y = g a y) → ys.foldl f a = ys.foldl g a
  | [], _, _ => rfl
  | y :: ys, a, h => by
    rw [List.foldl_cons, List.foldl_cons, h a y (by simp)]
    exact foldl_same fun a z hz => h a z (by simp [hz])
theorem nx_none {n x : Nat} (h : ones n x = 0) : nx n x = [] := by
  match hq : nx n x with
  | [] => rfl
  | y :: ys =>
    have := nx_ones (n := n) (x := x) (y := y) (by rw [hq]; simp)
    omega
theorem lst_zero {n x : Nat} (h : ones n x = 0) (k : Nat) : lst n k x = 0 := by
  cases k with
  | zero => exact h
  | succ k => rw [lst, nx_none h, h]; rfl
theorem lst_same (n : Nat) : ∀ (k k' x : Nat), ones n x ≤ k → ones n x ≤ k' → lst n k x = lst n k' x
  | 0, k', x, h, _ => by rw [lst_zero (by omega), lst_zero (by omega)]
  | k + 1, 0, x, _, h => by rw [lst_zero (by omega), lst_zero (by omega)]
  | k + 1, k' + 1, x, h, h' => by
    rw [lst, lst]
    refine foldl_same fun a y hy => ?_
    have := nx_ones hy
    rw [lst_same n k k' y (by omega) (by omega)]
def Lst (n x : Nat) : Nat := lst n (ones n x) x
theorem Lst_eq (n x : Nat) : Lst n x = (nx n x).foldl (fun a y => min a (Lst n y)) (ones n x) := by
  show lst n (ones n x) x = _
  rw [lst_same n _ (ones n x + 1) x (Nat.le_refl _) (by omega), lst]
  refine foldl_same fun a y hy => ?_
  have := nx_ones hy
  rw [lst_same n (ones n x) (ones n y) y (by omega) (Nat.le_refl _)]
  rfl
/-- behind the first j moves -/
def Lpt (n x j : Nat) : Nat := ((nx n x).take j).foldl (fun a y => min a (Lst n y)) (ones n x)
theorem Lpt_zero (n x : Nat) : Lpt n x 0 = ones n x := rfl
theorem Lpt_succ {n x j : Nat} (h : j < (nx n x).length) : Lpt n x (j + 1) = min (Lpt n x j) (Lst n ((nx n x).getD j 0)) := by
  unfold Lpt
  rw [take_snoc' _ 0 j h, List.foldl_append]
  rfl
theorem Lpt_all (n x : Nat) : Lpt n x (nx n x).length = Lst n x := by
  unfold Lpt
  rw [List.take_length, ← Lst_eq]
theorem Lst_le (n x : Nat) : Lst n x ≤ ones n x := by
  rw [Lst_eq]
  generalize ones n x = a
  induction nx n x generalizing a with
  | nil => exact Nat.le_refl _
  | cons y ys ih =>
    rw [List.foldl_cons]
    exact Nat.le_trans (ih _) (Nat.min_le_left _ _)
theorem Lpt_le (n x j : Nat) : Lpt n x j ≤ ones n x := by
  unfold Lpt
  generalize ones n x = a
  induction (nx n x).take j generalizing a with
  | nil => exact Nat.le_refl _
  | cons y ys ih =>
    rw [List.foldl_cons]
    exact Nat.le_trans (ih _) (Nat.min_le_left _ _)
theorem nx_len (n x : Nat) : (nx n x).length = (nxP n x).length := by simp [nx]
theorem nx_get {n x j : Nat} (h : j < (nxP n x).length) : (nx n x).getD j 0 = mvd x ((nxP n x).getD j (0, 0)).1 ((nxP n x).getD j (0, 0)).2 := by
  simp [nx, List.getD, h]
theorem flatP_get : ∀ {ps : List (Nat × Nat)} {j : Nat}, j < ps.length → (flatP ps).getD (2 * j) 0 = ((ps.getD j (0, 0)).1 : Int) ∧ (flatP ps).getD (2 * j + 1) 0 = ((ps.getD j (0, 0)).2 : Int)
  | [], j, h => absurd h (by simp)
  | p :: ps, 0, _ => ⟨rfl, rfl⟩
  | p :: ps, j + 1, h => by
    have ih := flatP_get (ps := ps) (j := j) (by simpa using h)
    have e : flatP (p :: ps) = [(p.1 : Int), (p.2 : Int)] ++ flatP ps := rfl
    rw [e]
    have e1 : 2 * (j + 1) = 2 * j + 2 := by omega
    rw [e1]
    simpa [List.getD] using ih
theorem flatP_len (ps : List (Nat × Nat)) : (flatP ps).length = 2 * ps.length := by
  induction ps with
  | nil => rfl
  | cons p ps ih =>
    show ([(p.1 : Int), (p.2 : Int)] ++ flatP ps).length = _
    rw [List.length_append, ih]
    simp; omega

/-! ### what can be reached -/
def Reach (n x y : Nat) : Prop := ∀ S : Nat → Prop, S x → (∀ a b, S a → b ∈ nx n a → S b) → S y
theorem Reach.refl (n x : Nat) : Reach n x x := fun _ h _ => h
theorem Reach.step {n x y z : Nat} (h : y ∈ nx n x) (h2 : Reach n y z) : Reach n x z := fun S h0 h1 => h2 S (h1 x y h0 h) h1
theorem Reach.snoc {n x y z : Nat} (h : Reach n x y) (h2 : z ∈ nx n y) : Reach n x z := fun S h0 h1 => h1 y z (h S h0 h1) h2
theorem Reach.in {n x y : Nat} (h : Reach n x y) {S : Nat → Prop} (h0 : S x) (h1 : ∀ a b, S a → b ∈ nx n a → S b) : S y := h S h0 h1

/-! ### the program's memory: a map -/
abbrev pk (y : Nat) : Lit := .int .i64 (y : Int)
def hkB (K : DataW Unit) (y : Nat) : Bool := Maps.has K (pk y)
def PInv (n : Nat) (K : DataW Unit) : Prop :=
  Maps.Tidy K ∧ Maps.size K = cntT (hkB K) (2 ^ n) ∧ (∀ y, hkB K y = true → y < 2 ^ n) ∧ (∀ y, hkB K y = true → K.atKey (pk y) (.lit (.int .i64 0)) = .lit (.int .i64 (Lst n y : Int))) ∧
    ∀ y, hkB K y = true → ∀ z ∈ nx n y, hkB K z = true
theorem pk_key (y : Nat) : WideAt.IsKeyLit (pk y) := by trivial
theorem pk_ne {y z : Nat} (h : y ≠ z) : pk y ≠ pk z := fun e => by
  injection e with _ e
  omega
theorem hkB_put {K : DataW Unit} (hK : Maps.IsMap K) (x : Nat) (d : DataW Unit) : hkB (K.put (pk x) d) = updT (hkB K) x true := by
  funext y
  unfold hkB updT
  by_cases h : y = x
  · subst h; rw [if_pos rfl]; exact Maps.has_put_same hK (pk_key y) d
  · rw [if_neg h]; exact Maps.has_put_other (pk_ne h) d
theorem hkB_empty (y : Nat) : hkB (.map []) y = false := rfl
theorem PInv.empty (n : Nat) : PInv n (.map []) := by
  have e : cntT (hkB (.map [])) (2 ^ n) = 0 := cntT_zero (fun y _ => hkB_empty y)
  refine ⟨Maps.tidy_empty, by rw [e]; rfl, fun y h => ?_, fun y h => ?_, fun y h => ?_⟩ <;> (rw [hkB_empty] at h; cases h)
theorem PInv.put {n : Nat} {K : DataW Unit} (h : PInv n K) {x : Nat} (hx : x < 2 ^ n) (hall : ∀ z ∈ nx n x, hkB K z = true) : PInv n (K.put (pk x) (.lit (.int .i64 (Lst n x : Int)))) := by
  obtain ⟨h1, h2, h3, h4, h5⟩ := h
  have hm := h1.isMap
  refine ⟨h1.put (pk_key x) _, ?_, fun y => ?_, fun y => ?_, fun y => ?_⟩
  · rw [Maps.size_put h1, hkB_put hm, h2]
    cases hq : hkB K x with
    | true =>
      rw [if_pos (show Maps.has K (pk x) = true from hq)]
      exact cntT_same fun j _ => by
        by_cases e : j = x
        · subst e; rw [updT_at, hq]
        · rw [updT_ne e]
    | false =>
      have : ¬ Maps.has K (pk x) = true := fun e => by
        rw [show Maps.has K (pk x) = hkB K x from rfl, hq] at e
        cases e
      rw [if_neg this, cntT_t hx hq]
  · rw [hkB_put hm]
    by_cases e : y = x
    · subst e; exact fun _ => hx
    · rw [updT_ne e]; exact h3 y
  · rw [hkB_put hm]
    by_cases e : y = x
    · subst e; exact fun _ => Maps.atKey_put_same hm (pk_key y) _ _
    · rw [updT_ne e, Maps.atKey_put_other (pk_ne e)]; exact h4 y
  · rw [hkB_put hm]
    intro hy z hz
    by_cases e2 : z = x
    · subst e2; exact updT_at _ _ _
    · rw [updT_ne e2]
      by_cases e : y = x
      · subst e; exact hall z hz
      · rw [updT_ne e] at hy; exact h5 y hy z hz
theorem PInv.size {n : Nat} {K : DataW Unit} (h : PInv n K) (hn : n ≤ 14) : Maps.size K ≤ 16384 := by
  have h1 := cntT_le (hkB K) (2 ^ n)
  have h2 : 2 ^ n ≤ 2 ^ 14 := Nat.pow_le_pow_right (by omega) hn
  rw [h.2.1]
  omega
theorem PInv.closed {n : Nat} {K : DataW Unit} (h : PInv n K) {x y : Nat} (hx : hkB K x = true) (hr : Reach n x y) : hkB K y = true := hr.in (S := fun y => hkB K y = true) hx fun a b ha hb => h.2.2.2.2 a ha b hb

/-! ### the reference's memories: a table of least numbers, a table of what was seen -/
def TInv (n : Nat) (tl : List Int) : Prop := tl.length = 2 ^ n ∧ ∀ y, y < 2 ^ n → tl.getD y 0 = 0 ∨ tl.getD y 0 = (Lst n y : Int)
theorem getD_set (xs : List Int) (i j : Nat) (x : Int) : (xs.set i x).getD j 0 = if i = j ∧ i < xs.length then x else xs.getD j 0 := by
  by_cases h : i = j
  · subst h
    by_cases h2 : i < xs.length
    · simp [List.getD, h2]
    · simp [List.getD, h2]
  · simp [List.getD, List.getElem?_set, h]
theorem TInv.zero (n : Nat) : TInv n (List.replicate (2 ^ n) 0) := ⟨by simp, fun y hy => .inl (by
  rw [List.getD, List.getElem?_replicate, if_pos hy]; rfl)⟩
theorem TInv.set {n : Nat} {tl : List Int} (h : TInv n tl) {x : Nat} : TInv n (tl.set x (Lst n x : Int)) := by
  refine ⟨by simp [h.1], fun y hy => ?_⟩
  rw [getD_set]
  by_cases e : x = y ∧ x < tl.length
  · rw [if_pos e]; exact .inr (by rw [e.1])
  · rw [if_neg e]; exact h.2 y hy
def seenL (n : Nat) (S : Nat → Bool) : List Int := (List.range (2 ^ n)).map fun y => if S y = true then 1 else 0
theorem seenL_len (n : Nat) (S : Nat → Bool) : (seenL n S).length = 2 ^ n := by simp [seenL]
theorem seenL_get {n y : Nat} (S : Nat → Bool) (h : y < 2 ^ n) : (seenL n S).getD y 0 = if S y = true then 1 else 0 := by simp [seenL, List.getD, h]
theorem seenL_set {n y : Nat} (S : Nat → Bool) (h : y < 2 ^ n) : (seenL n S).set y 1 = seenL n (updT S y true) := by
  apply List.ext_getElem
  · simp [seenL]
  · intro i h1 h2
    have hi : i < 2 ^ n := by simpa [seenL] using h2
    rw [List.getElem_set]
    by_cases e : y = i
    · subst e; simp [seenL, updT_at]
    · rw [if_neg e]
      simp [seenL, updT_ne (T := S) (v := true) (fun q : i = y => e q.symm)]
theorem seenL_zero (n : Nat) : List.replicate (2 ^ n) (0 : Int) = seenL n (fun _ => false) := by
  apply List.ext_getElem
  · simp [seenL]
  · intro i h1 h2
    simp [seenL]
def BInv (n x : Nat) (S : Nat → Bool) (ys : List Nat) : Prop := (∀ y, S y = true ↔ y ∈ ys) ∧ ys.length = cntT S (2 ^ n) ∧ (∀ y ∈ ys, y < 2 ^ n ∧ Reach n x y) ∧ x ∈ ys
theorem BInv.one {n x : Nat} (hx : x < 2 ^ n) : BInv n x (updT (fun _ => false) x true) [x] := by
  refine ⟨fun y => ?_, ?_, fun y hy => ?_, by simp⟩
  · by_cases e : y = x
    · subst e; simp [updT_at]
    · simp [updT_ne e, e]
  · rw [cntT_t hx rfl, cntT_zero (fun _ _ => rfl)]; rfl
  · rw [List.mem_singleton] at hy
    subst hy
    exact ⟨hx, Reach.refl n y⟩
theorem BInv.add {n x y z : Nat} {S : Nat → Bool} {ys : List Nat} (h : BInv n x S ys) (hy : y ∈ ys) (hz : z ∈ nx n y) (hS : S z = false) : BInv n x (updT S z true) (ys ++ [z]) := by
  obtain ⟨h1, h2, h3, h4⟩ := h
  have hzl := nx_lt (h3 y hy).1 hz
  refine ⟨fun w => ?_, ?_, fun w hw => ?_, List.mem_append.2 (.inl h4)⟩
  · rw [List.mem_append, List.mem_singleton]
    by_cases e : w = z
    · subst e; simp [updT_at]
    · rw [updT_ne e, h1]; simp [e]
  · rw [cntT_t hzl hS, List.length_append, h2]; rfl
  · rw [List.mem_append, List.mem_singleton] at hw
    rcases hw with hw | hw
    · exact h3 w hw
    · subst hw; exact ⟨hzl, (h3 y hy).2.snoc hz⟩
theorem BInv.len {n x : Nat} {S : Nat → Bool} {ys : List Nat} (h : BInv n x S ys) : ys.length ≤ 2 ^ n := by rw [h.2.1]; exact cntT_le _ _
/-- all that lies behind the first ones is seen -/
def Shut (n : Nat) (S : Nat → Bool) (ys : List Nat) (k : Nat) : Prop := ∀ i, i < k → ∀ z ∈ nx n (ys.getD i 0), S z = true
theorem Shut.zero (n : Nat) (S : Nat → Bool) (ys : List Nat) : Shut n S ys 0 := fun i h => absurd h (by omega)
theorem Shut.add {n k z : Nat} {S : Nat → Bool} {ys : List Nat} (h : Shut n S ys k) (hk : k ≤ ys.length) : Shut n (updT S z true) (ys ++ [z]) k := fun i hi w hw => by
  have e : (ys ++ [z]).getD i 0 = ys.getD i 0 := by simp [List.getD, List.getElem?_append, show i < ys.length by omega]
  rw [e] at hw
  by_cases e2 : w = z
  · subst e2; exact updT_at _ _ _
  · rw [updT_ne e2]; exact h i hi w hw
/-- the first moves of the one at hand are seen -/
def Half (n : Nat) (S : Nat → Bool) (y j : Nat) : Prop := ∀ i, i < j → S ((nx n y).getD i 0) = true
theorem Half.zero (n : Nat) (S : Nat → Bool) (y : Nat) : Half n S y 0 := fun i h => absurd h (by omega)
theorem Half.add {n y j z : Nat} {S : Nat → Bool} (h : Half n S y j) : Half n (updT S z true) y j := fun i hi => by
  by_cases e2 : (nx n y).getD i 0 = z
  · rw [e2]; exact updT_at _ _ _
  · rw [updT_ne e2]; exact h i hi
theorem Half.snoc {n y j : Nat} {S : Nat → Bool} (h : Half n S y j) (h2 : S ((nx n y).getD j 0) = true) : Half n S y (j + 1) := fun i hi => by
  by_cases e : i = j
  · subst e; exact h2
  · exact h i (by omega)
theorem Shut.snoc {n k : Nat} {S : Nat → Bool} {ys : List Nat} (h : Shut n S ys k) (h2 : Half n S (ys.getD k 0) (nx n (ys.getD k 0)).length) : Shut n S ys (k + 1) := fun i hi z hz => by
  by_cases e : i = k
  · subst e
    obtain ⟨j, hj, rfl⟩ := List.getElem_of_mem hz
    have := h2 j hj
    generalize nx n (ys.getD i 0) = L at *
    rw [show L.getD j 0 = L[j] by simp [List.getD, hj]] at this
    exact this
  · exact h i (by omega) z hz
theorem BInv.done {n x : Nat} {S : Nat → Bool} {ys : List Nat} (h : BInv n x S ys) (hs : Shut n S ys ys.length) (y : Nat) : S y = true ↔ Reach n x y := by
  constructor
  · intro hy; exact (h.2.2.1 y ((h.1 y).1 hy)).2
  · intro hr
    refine hr.in (S := fun y => S y = true) ((h.1 x).2 h.2.2.2) fun a b ha hb => ?_
    obtain ⟨j, hj, e⟩ := List.getElem_of_mem ((h.1 a).1 ha)
    refine hs j hj b ?_
    rw [show ys.getD j 0 = a by simp [List.getD, hj, e]]
    exact hb
end Go.Proofs.Ytkbeelbklganaaa
