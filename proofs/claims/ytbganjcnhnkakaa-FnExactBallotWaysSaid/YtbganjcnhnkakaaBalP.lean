/- Ballots, plainly: how many ways there are; and a map keyed by pairs of numbers. Conditions: none, these are plain lemmas. -/
import Derived.Test.YtbganjcnhnkakaaNum
import Derived.Maps.OwnOps
import Derived.Maps.OwnSet
import Derived.DeepKeys4
import Derived.StillTailTactics
namespace Go.Proofs.Ytbganjcnhnkakaa
open Go.ChangeShapes Go.WideShapes Go.ChangeAt Go.RowKit Go.Maps

def cnd (t : Bool) (i k : Nat) : Bool := if t = true then decide (k ≤ i) else decide (k < i)
def wCol (t : Bool) (prev : Nat → Nat) (i : Nat) : Nat → Nat
  | 0 => prev 0
  | k + 1 => if cnd t i (k + 1) = true then prev (k + 1) + wCol t prev i k else 0
def wB (t : Bool) : Nat → Nat → Nat
  | 0 => fun k => if k = 0 then 1 else 0
  | i + 1 => wCol t (wB t i) (i + 1)
theorem wB_00 (t : Bool) : wB t 0 0 = 1 := rfl
theorem wB_0 (t : Bool) (k : Nat) : wB t 0 (k + 1) = 0 := rfl
theorem wB_i0 (t : Bool) (i : Nat) : wB t (i + 1) 0 = wB t i 0 := rfl
theorem wB_y {t : Bool} {i k : Nat} (h : cnd t (i + 1) (k + 1) = true) : wB t (i + 1) (k + 1) = wB t i (k + 1) + wB t (i + 1) k := by
  show (if cnd t (i + 1) (k + 1) = true then _ else 0) = _
  rw [if_pos h]; rfl
theorem wB_n {t : Bool} {i k : Nat} (h : cnd t (i + 1) (k + 1) = false) : wB t (i + 1) (k + 1) = 0 := by
  show (if cnd t (i + 1) (k + 1) = true then _ else 0) = _
  rw [if_neg (by rw [h]; simp)]
theorem wB_le (t : Bool) : ∀ i k, wB t i k ≤ 2 ^ (i + k)
  | 0, 0 => by rw [wB_00]; exact Nat.le_refl _
  | 0, k + 1 => by rw [wB_0]; exact Nat.zero_le _
  | i + 1, 0 => by
    rw [wB_i0]
    have h1 := wB_le t i 0
    have h2 : 2 ^ (i + 0) ≤ 2 ^ (i + 1 + 0) := Nat.pow_le_pow_right (by omega) (by omega)
    omega
  | i + 1, k + 1 => by
    have e : 2 ^ (i + 1 + (k + 1)) = 2 ^ (i + k + 1) + 2 ^ (i + k + 1) := by rw [show i + 1 + (k + 1) = (i + k + 1) + 1 by omega, Nat.pow_succ]; omega
    cases h : cnd t (i + 1) (k + 1) with
    | false => rw [wB_n h]; exact Nat.zero_le _
    | true =>
      rw [wB_y h]
      have h1 := wB_le t i (k + 1)
      have h2 := wB_le t (i + 1) k
      rw [show i + (k + 1) = i + k + 1 by omega] at h1
      rw [show i + 1 + k = i + k + 1 by omega] at h2
      omega
  termination_by i k => i + k
theorem wB_60 {t : Bool} {i k : Nat} (h : i + k ≤ 60) : wB t i k ≤ 1152921504606846976 := by
  have h1 := wB_le t i k
  have h2 : 2 ^ (i + k) ≤ 2 ^ 60 := Nat.pow_le_pow_right (by omega) h
  have h3 : (2 : Nat) ^ 60 = 1152921504606846976 := by decide
  omega
/-! ### the reference's row -/
/-- the row behind the first k entries of line i -/
def rowW (t : Bool) (B i k : Nat) : List Int := (List.range (B + 1)).map fun j => if j < k then (wB t i j : Int) else if i = 0 then 0 else (wB t (i - 1) j : Int)
theorem rowW_len (t : Bool) (B i k : Nat) : (rowW t B i k).length = B + 1 := by simp [rowW]
theorem rowW_get {t : Bool} {B i k j : Nat} (h : j ≤ B) : (rowW t B i k).getD j 0 = if j < k then (wB t i j : Int) else if i = 0 then 0 else (wB t (i - 1) j : Int) := by
  simp [rowW, List.getD, show j < B + 1 by omega]
theorem rowW_set {t : Bool} {B i k : Nat} (_h : k ≤ B) : (rowW t B i k).set k (wB t i k : Int) = rowW t B i (k + 1) := by
  apply List.ext_getElem
  · simp [rowW]
  · intro j h1 h2
    have hj : j < B + 1 := by simpa [rowW] using h2
    rw [List.getElem_set]
    by_cases e : k = j
    · subst e; simp [rowW]
    · rw [if_neg e]
      simp only [rowW, List.getElem_map, List.getElem_range]
      by_cases h : j < k
      · rw [if_pos h, if_pos (by omega)]
      · rw [if_neg h, if_neg (show ¬ j < k + 1 by omega)]
theorem rowW_next (t : Bool) (B i : Nat) : rowW t B i (B + 1) = rowW t B (i + 1) 0 := by
  unfold rowW
  refine List.map_congr_left fun j hj => ?_
  have hj := List.mem_range.1 hj
  rw [if_pos hj, if_neg (by omega), if_neg (by omega)]
  rfl
theorem rowW_start (t : Bool) (B : Nat) : List.replicate (B + 1) (0 : Int) = rowW t B 0 0 := by
  apply List.ext_getElem
  · simp [rowW]
  · intro j h1 h2
    simp [rowW]
/-! ### the program's map -/
def kk (a c : Int) : Lit := .string (keyBytes [.int .i64 a, .int .i64 c])
theorem laidOutT : laidOutB Try.prog = true := by kernel_rfl
theorem rowT : (36 : TypeId) < Try.prog.types.size := of_decide_eq_true (by kernel_rfl)
theorem wideT : (match Try.prog.underlying 36 with | some (.array _ _) | some (.struct _) => true | _ => false) = true := by rw [Try.underlying36]
theorem lawP : Keyed Try.prog 36 := Keyed.of_law (deep_law_laid laidOutT (m := 2) (by omega) rowT (by kernel_rfl) wideT)
theorem cellsT : Try.prog.cellsOf 36 = 2 := by kernel_rfl
theorem cellsI : Try.prog.cellsOf 2 = 1 := by kernel_rfl
theorem deepT : Try.prog.keyType 36 = true := by kernel_rfl
theorem formedT {c0 c1 : Value} : (Value.agg #[c0, c1]).formed Try.prog 36 = true := by simp [Value.formed, Try.underlying36, cellsT]
theorem zeroE (w : World) : (zeroValue 2).run Try.prog w = .ok (.int .i64 0) w := by kernel_rfl
theorem kk_of {a c : Int} (ha : (Lit.int .i64 a).wf = true) (hc : (Lit.int .i64 c).wf = true) : keyOf Try.prog 36 (.agg #[.int .i64 a, .int .i64 c]) = some (kk a c) := by
  have hs : ∃ m, Try.prog.types.size + 1 = m + 2 := ⟨_, rfl⟩
  obtain ⟨m, hm⟩ := hs
  unfold keyOf
  rw [Try.underlying36]
  simp only [deepT, formedT, Bool.and_self, if_true]
  rw [hm]
  simp [Program.keyLits, Try.underlying36, Try.underlying2, cellsT, cellsI, Value.cells, ha, hc, kk, List.range, List.range.loop]
/-- what the map in block b holds -/
def MapF (w : World) (b n : Nat) (f : Int → Int → Nat) : Prop :=
  ∃ D : DataW Unit, w.ownsMap Try.prog 36 (plainElem Try.prog 2) b n D ∧ ∀ a c, (Lit.int .i64 a).wf = true → (Lit.int .i64 c).wf = true → D.atKey (kk a c) (.lit (.int .i64 0)) = .lit (.int .i64 (f a c : Int))
def done (B i k : Nat) (a c : Int) : Bool := decide (0 ≤ a ∧ 0 ≤ c ∧ ((a < i ∧ c ≤ B) ∨ (a = i ∧ c < k) ∨ (a = 0 ∧ c = 0)))
def fS (t : Bool) (B i k : Nat) (a c : Int) : Nat := if done B i k a c = true then wB t a.toNat c.toNat else 0
theorem fS_y {t : Bool} {B i k : Nat} {a c : Int} (h : 0 ≤ a ∧ 0 ≤ c ∧ ((a < i ∧ c ≤ B) ∨ (a = i ∧ c < k) ∨ (a = 0 ∧ c = 0))) : fS t B i k a c = wB t a.toNat c.toNat := by rw [fS, done, decide_eq_true h, if_pos rfl]
theorem fS_n {t : Bool} {B i k : Nat} {a c : Int} (h : ¬ (0 ≤ a ∧ 0 ≤ c ∧ ((a < i ∧ c ≤ B) ∨ (a = i ∧ c < k) ∨ (a = 0 ∧ c = 0)))) : fS t B i k a c = 0 := by rw [fS, done, decide_eq_false h, if_neg (by simp)]
theorem fS_start (t : Bool) (B : Nat) (a c : Int) : fS t B 0 0 a c = if a = 0 ∧ c = 0 then 1 else 0 := by
  by_cases h : a = 0 ∧ c = 0
  · obtain ⟨rfl, rfl⟩ := h
    rw [fS_y (by omega), if_pos ⟨rfl, rfl⟩]; rfl
  · rw [fS_n (by omega), if_neg h]
theorem fS_step (t : Bool) (B i k : Nat) (a c : Int) : fS t B i (k + 1) a c = if a = i ∧ c = k then wB t i k else fS t B i k a c := by
  by_cases h : a = i ∧ c = k
  · obtain ⟨rfl, rfl⟩ := h
    rw [fS_y (by omega), if_pos ⟨rfl, rfl⟩]; simp
  · rw [if_neg h]
    by_cases h2 : 0 ≤ a ∧ 0 ≤ c ∧ ((a < i ∧ c ≤ B) ∨ (a = i ∧ c < k) ∨ (a = 0 ∧ c = 0))
    · rw [fS_y h2, fS_y (by omega)]
    · rw [fS_n h2, fS_n (by omega)]
theorem fS_next (t : Bool) (B i : Nat) (a c : Int) : fS t B i (B + 1) a c = fS t B (i + 1) 0 a c := by
  by_cases h2 : 0 ≤ a ∧ 0 ≤ c ∧ ((a < i ∧ c ≤ B) ∨ (a = i ∧ c < (B + 1 : Nat)) ∨ (a = 0 ∧ c = 0))
  · rw [fS_y h2, fS_y (by omega)]
  · rw [fS_n h2, fS_n (by omega)]
theorem fS_skip {t : Bool} {B i k : Nat} (h : (i = 0 ∧ k = 0) ∨ wB t i k = 0) (a c : Int) : fS t B i (k + 1) a c = fS t B i k a c := by
  rw [fS_step]
  by_cases e : a = i ∧ c = k
  · rw [if_pos e]
    obtain ⟨rfl, rfl⟩ := e
    rcases h with ⟨rfl, rfl⟩ | h
    · rw [fS_y (by omega)]; rfl
    · rw [h]
      by_cases h0 : i = 0 ∧ k = 0
      · obtain ⟨rfl, rfl⟩ := h0
        rw [fS_y (by omega)]; simpa using h.symm
      · rw [fS_n (by omega)]
  · rw [if_neg e]
/-- the sum that the program reckons is what is sought -/
theorem fS_sum {t : Bool} {B i k : Nat} (hi : i + k ≠ 0) (hk : k ≤ B) (hc : cnd t i k = true) : fS t B i k ((i : Int) - 1) k + fS t B i k i ((k : Int) - 1) = wB t i k := by
  match i, k with
  | 0, 0 => exact absurd rfl hi
  | 0, k + 1 => unfold cnd at hc; split at hc <;> simp at hc
  | i + 1, 0 =>
    rw [fS_y (by omega), fS_n (by omega), wB_i0]
    have e : (((i + 1 : Nat) : Int) - 1).toNat = i := by omega
    rw [e]
    simp
  | i + 1, k + 1 =>
    rw [fS_y (by omega), fS_y (by omega), wB_y hc]
    have e : (((i + 1 : Nat) : Int) - 1).toNat = i := by omega
    have e2 : (((k + 1 : Nat) : Int) - 1).toNat = k := by omega
    rw [e, e2]
    simp
theorem wB_no {t : Bool} {i k : Nat} (hc : cnd t i k = false) (h : i + k ≠ 0) : wB t i k = 0 := by
  match i, k with
  | 0, 0 => exact absurd rfl h
  | 0, k + 1 => rfl
  | i + 1, 0 => unfold cnd at hc; split at hc <;> simp at hc
  | i + 1, k + 1 => exact wB_n hc
theorem kk_inj {a c a' c' : Int} (ha : (Lit.int .i64 a).wf = true) (hc : (Lit.int .i64 c).wf = true) (ha' : (Lit.int .i64 a').wf = true) (hc' : (Lit.int .i64 c').wf = true) (h : kk a c = kk a' c') : a = a' ∧ c = c' := by
  have h1 := kk_of ha hc
  have h2 := kk_of ha' hc'
  rw [h] at h1
  have e := lawP.inj h1 h2
  simp at e
  exact e
theorem kk_key {a c : Int} (ha : (Lit.int .i64 a).wf = true) (hc : (Lit.int .i64 c).wf = true) : WideAt.IsKeyLit (kk a c) := lawP.key (kk_of ha hc)
theorem MapF.put {w w' : World} {b n n' v : Nat} {f g : Int → Int → Nat} {a0 c0 : Int} {D : DataW Unit} (ha0 : (Lit.int .i64 a0).wf = true) (hc0 : (Lit.int .i64 c0).wf = true) (hD : w.ownsMap Try.prog 36 (plainElem Try.prog 2) b n D)
    (hf : ∀ a c, (Lit.int .i64 a).wf = true → (Lit.int .i64 c).wf = true → D.atKey (kk a c) (.lit (.int .i64 0)) = .lit (.int .i64 (f a c : Int)))
    (hD' : w'.ownsMap Try.prog 36 (plainElem Try.prog 2) b n' (D.put (kk a0 c0) (.lit (.int .i64 (v : Int))))) (hg : ∀ a c, g a c = if a = a0 ∧ c = c0 then v else f a c) : MapF w' b n' g := by
  refine ⟨_, hD', fun a c ha hc => ?_⟩
  rw [hg]
  by_cases e : a = a0 ∧ c = c0
  · obtain ⟨rfl, rfl⟩ := e
    rw [if_pos ⟨rfl, rfl⟩, atKey_put_same hD.isMap (kk_key ha hc)]
  · rw [if_neg e, atKey_put_other (fun h => e (kk_inj ha hc ha0 hc0 h)), hf a c ha hc]
theorem MapF.look {w : World} {b n : Nat} {f : Int → Int → Nat} (h : MapF w b n f) {a c : Int} (ha : (Lit.int .i64 a).wf = true) (hc : (Lit.int .i64 c).wf = true) :
    (Instr.lookup 37 (.map (some b)) (.agg #[.int .i64 a, .int .i64 c]) false).run Try.prog w = .ok (.int .i64 (f a c : Int)) w := by
  obtain ⟨D, hD, hf⟩ := h
  obtain ⟨v, h1, h2, _⟩ := hD.lookup_int lawP Try.underlying37 Try.underlying2 (zeroE _) (kk_of ha hc)
  rw [hf a c ha hc] at h2
  injection h2 with h2
  injection h2 with _ h2
  rw [h1, ← h2]
/-- an entry of a map that is written out -/
theorem wpList_insert_own (w : World) {ops : Array Oper} {rest : List Oper} {o : Oper} {a : Act} {Q : Exit → Act → World → Prop}
    (hg : o.guard = none) (m x v : Operand) (t : TypeId) (hop : o.op = Op.insert t m x v)
    (k e : TypeId) (K : Keyed Try.prog k) (ht : Try.prog.underlying t = some (.map k e)) (R : Value → Option (DataW Unit × List MemPlace)) (b n : Nat) (D : DataW Unit)
    (hm : a.eval m = .map (some b)) (hown : w.ownsMap Try.prog k R b n D) (hn : n < maxLen) (key val : Value) (kl : Lit) (hx : a.eval x = key) (hv : a.eval v = val) (hkey : keyOf Try.prog k key = some kl)
    (d : DataW Unit) (ps : List MemPlace) (hval : R val = some (d, ps))
    (hK : ∀ w', w'.ownsMap Try.prog k R b (n + 1) (D.put kl d) → w.grownBy w' (some b) → wpList Try.prog ops Q rest (a.put o.dst undef) w') :
    wpList Try.prog ops Q (o :: rest) a w := by
  obtain ⟨w', hrun, hown', hgr⟩ := hown.update K ht hn hkey hval
  refine wpList_plain hg fun K' hK' => ?_
  unfold Oper.wp
  simp [execOp, hop, hm, hx, hv, hrun, Result.andThen]
  exact hK' _ _ (hK w' hown' hgr)
end Go.Proofs.Ytbganjcnhnkakaa
