/- A list of counts divided by a die, as plain lists. Conditions: none, these are plain lemmas. -/
import Derived.Test.YthpboedpoipkcaaSumP
import Derived.Test.YthpboedpoipkcaaNext
namespace Go.Proofs.Ythpboedpoipkcaa
open Go.ChangeShapes Go.WideShapes Go.ChangeAt Go.RowKit

/-- each number lies between -b and 1000 -/
def InB (b : Nat) (xs : List Int) : Prop := ∀ j, -(b : Int) ≤ xs.getD j 0 ∧ xs.getD j 0 ≤ 1000
theorem InB.mono {a b : Nat} {xs : List Int} (h : InB a xs) (hab : a ≤ b) : InB b xs := fun j => by have := h j; omega
theorem bmp_len (xs : List Int) (j : Nat) (x : Int) : (bmp xs j x).length = xs.length := by simp [bmp]
theorem bmp_get (xs : List Int) (j k : Nat) (x : Int) (hj : j < xs.length) : (bmp xs j x).getD k 0 = if k = j then xs.getD j 0 + x else xs.getD k 0 := by
  unfold bmp
  by_cases e : k = j
  · subst e
    simp [List.getD, hj]
  · rw [if_neg e]
    simp [List.getD, List.getElem?_set_ne (fun h => e h.symm)]
theorem InB.bmp {b : Nat} {xs : List Int} (h : InB b xs) (j : Nat) : InB (b + 1) (bmp xs j (-1)) := fun k => by
  by_cases hj : j < xs.length
  · rw [bmp_get _ _ _ _ hj]
    have h1 := h j
    have h2 := h k
    split <;> omega
  · have e : Go.Proofs.Ythpboedpoipkcaa.bmp xs j (-1) = xs := by unfold Go.Proofs.Ythpboedpoipkcaa.bmp; rw [List.set_eq_of_length_le (by omega)]
    rw [e]
    have := h k
    omega
theorem cnF_len (fs : List Int) (x : Nat) (c : Int) (left : List Int) (j : Nat) : (cnF fs x c left j).length = left.length := by
  induction j with
  | zero => rfl
  | succ j ih => rw [cnF, bmp_len, ih]
theorem InB.cnF {b : Nat} {left : List Int} (h : InB b left) (fs : List Int) (x j : Nat) : InB (b + j) (cnF fs x (-1) left j) := by
  induction j with
  | zero => exact h
  | succ j ih => exact ih.bmp _
/-- how many of the first j faces are the first one -/
def cntE (fs : List Int) : Nat → Nat
  | 0 => 0
  | j + 1 => cntE fs j + if fs.getD j 0 = fs.getD 0 0 then 1 else 0
theorem cntE_le (fs : List Int) (j : Nat) : cntE fs j ≤ j := by
  induction j with
  | zero => exact Nat.le_refl _
  | succ j ih => rw [cntE]; split <;> omega
theorem cntE_pos (fs : List Int) {j : Nat} (h : 0 < j) : 0 < cntE fs j := by
  induction j with
  | zero => omega
  | succ j ih =>
    rw [cntE]
    by_cases e : j = 0
    · subst e; simp
    · have := ih (by omega); omega
/-- r times 1 less at each place x + f -/
def decR (x : Nat) (fs left : List Int) : Nat → List Int
  | 0 => left
  | r + 1 => cnF fs x (-1) (decR x fs left r) fs.length
theorem decR_len (x : Nat) (fs left : List Int) (r : Nat) : (decR x fs left r).length = left.length := by
  induction r with
  | zero => rfl
  | succ r ih => rw [decR, cnF_len, ih]
theorem InB.decR {b : Nat} {left : List Int} (h : InB b left) (x : Nat) (fs : List Int) (r : Nat) : InB (b + r * fs.length) (decR x fs left r) := by
  induction r with
  | zero => simpa [Go.Proofs.Ythpboedpoipkcaa.decR] using h
  | succ r ih => rw [Go.Proofs.Ythpboedpoipkcaa.decR, Nat.succ_mul, ← Nat.add_assoc]; exact ih.cnF _ _ _
/-- each place x + f lies in the list -/
def fitB (L x : Nat) (fs : List Int) : Bool := (List.range fs.length).all fun j => decide (x + (fs.getD j 0).toNat < L)
theorem fitB_no {L x j : Nat} {fs : List Int} (hj : j < fs.length) (h : ¬ x + (fs.getD j 0).toNat < L) : fitB L x fs = false := by
  unfold fitB
  rw [List.all_eq_false]
  exact ⟨j, List.mem_range.2 hj, by simpa using h⟩
theorem fitB_yes {L x : Nat} {fs : List Int} (h : ∀ j, j < fs.length → x + (fs.getD j 0).toNat < L) : fitB L x fs = true := by
  unfold fitB
  rw [List.all_eq_true]
  intro j hj
  exact decide_eq_true (h j (List.mem_range.1 hj))
theorem fitB_at {L x j : Nat} {fs : List Int} (h : fitB L x fs = true) (hj : j < fs.length) : x + (fs.getD j 0).toNat < L := by
  unfold fitB at h
  rw [List.all_eq_true] at h
  exact of_decide_eq_true (h j (List.mem_range.2 hj))
/-- the number at the place of the first face goes down by how often that face is there -/
theorem cnF_first {fs left : List Int} {x k : Nat} (hk : k = x + (fs.getD 0 0).toNat) (hs : ∀ j, j < fs.length → fs.getD 0 0 ≤ fs.getD j 0) (h0 : 0 ≤ fs.getD 0 0) (hfit : fitB left.length x fs = true) (j : Nat) (hj : j ≤ fs.length) :
    (cnF fs x (-1) left j).getD k 0 = left.getD k 0 - (cntE fs j : Nat) := by
  induction j with
  | zero => simp [cnF, cntE]
  | succ j ih =>
    have hlt := fitB_at hfit (j := j) (by omega)
    rw [cnF, bmp_get _ _ _ _ (by rw [cnF_len]; exact hlt), ih (by omega), cntE]
    have h1 := hs j (by omega)
    by_cases e : fs.getD j 0 = fs.getD 0 0
    · rw [if_pos e, e, if_pos hk]
      rw [← hk, ih (by omega)]
      omega
    · rw [if_neg e, if_neg (by omega)]
      omega
theorem decR_first {fs left : List Int} {x k : Nat} (hk : k = x + (fs.getD 0 0).toNat) (hs : ∀ j, j < fs.length → fs.getD 0 0 ≤ fs.getD j 0) (h0 : 0 ≤ fs.getD 0 0) (hfit : fitB left.length x fs = true) (r : Nat) :
    (decR x fs left r).getD k 0 = left.getD k 0 - ((r * cntE fs fs.length : Nat) : Int) := by
  induction r with
  | zero => simp [decR]
  | succ r ih =>
    rw [decR, cnF_first hk hs h0 (by rw [decR_len]; exact hfit) _ (Nat.le_refl _), ih, Nat.succ_mul]
    omega
/-- the counts at place k are taken away; none if that does not go -/
def stepP (fs : List Int) (k : Nat) (s : List Int × List Int) : Option (List Int × List Int) :=
  if s.1.getD k 0 = 0 then some s
  else if s.1.getD k 0 < 0 ∨ s.1.getD k 0 % (cntE fs fs.length : Nat) ≠ 0 ∨ k < (fs.getD 0 0).toNat + 1 ∨ fs.length < s.2.length + (s.1.getD k 0 / (cntE fs fs.length : Nat)).toNat ∨ fitB s.1.length (k - (fs.getD 0 0).toNat) fs = false then none
  else some (decR (k - (fs.getD 0 0).toNat) fs s.1 (s.1.getD k 0 / (cntE fs fs.length : Nat)).toNat, s.2 ++ List.replicate (s.1.getD k 0 / (cntE fs fs.length : Nat)).toNat ((k - (fs.getD 0 0).toNat : Nat) : Int))
def divP (fs want : List Int) : Nat → Option (List Int × List Int)
  | 0 => some (want, [])
  | k + 1 => (divP fs want k).bind (stepP fs k)
def endP (fs : List Int) (s : List Int × List Int) : Option (List Int) := if s.2.length = fs.length then some s.2 else none
/-- the die that makes the counts with another one -/
def divR (fs want : List Int) : Option (List Int) := (divP fs want want.length).bind (endP fs)
theorem divP_none {fs want : List Int} {k j : Nat} (h : divP fs want k = none) (hj : k ≤ j) : divP fs want j = none := by
  induction j with
  | zero => rw [Nat.le_zero.1 hj] at h; exact h
  | succ j ih =>
    by_cases e : k = j + 1
    · subst e; exact h
    · rw [divP, ih (by omega)]; rfl
theorem divR_none {fs want : List Int} {k : Nat} (h : divP fs want k = none) (hk : k ≤ want.length) : divR fs want = none := by
  unfold divR
  rw [divP_none h hk]
  rfl
theorem divR_step {fs want : List Int} {k : Nat} {s : List Int × List Int} (h : divP fs want k = some s) (h2 : stepP fs k s = none) (hk : k < want.length) : divR fs want = none :=
  divR_none (k := k + 1) (by rw [divP, h]; exact h2) hk
theorem divP_step {fs want : List Int} {k : Nat} {s t : List Int × List Int} (h : divP fs want k = some s) (h2 : stepP fs k s = some t) : divP fs want (k + 1) = some t := by rw [divP, h]; exact h2
theorem divR_end {fs want : List Int} {s : List Int × List Int} (h : divP fs want want.length = some s) : divR fs want = if s.2.length = fs.length then some s.2 else none := by unfold divR; rw [h]; rfl
/-- what holds of the numbers on the way -/
structure DivI (fs want : List Int) (k : Nat) (s : List Int × List Int) : Prop where
  eq : divP fs want k = some s
  len : s.1.length = want.length
  inb : InB (s.2.length * fs.length) s.1
  out : s.2.length ≤ fs.length
  nn : ∀ y ∈ s.2, 1 ≤ y ∧ y ≤ (k : Int)
theorem DivI.start {fs want : List Int} (h : InB 0 want) : DivI fs want 0 (want, []) := ⟨rfl, rfl, by simpa using h, by simp, fun y hy => by simp at hy⟩
theorem DivI.zero {fs want : List Int} {k : Nat} {s : List Int × List Int} (h : DivI fs want k s) (h0 : s.1.getD k 0 = 0) : DivI fs want (k + 1) s :=
  ⟨divP_step h.eq (by rw [stepP, if_pos h0]), h.len, h.inb, h.out, fun y hy => by have := h.nn y hy; omega⟩
theorem DivI.next {fs want : List Int} {k q : Nat} {s : List Int × List Int} (h : DivI fs want k s) (h0 : 0 < s.1.getD k 0) (hq : s.1.getD k 0 = ((q * cntE fs fs.length : Nat) : Int)) (hx : (fs.getD 0 0).toNat + 1 ≤ k) (hl : s.2.length + q ≤ fs.length) (hf : fitB s.1.length (k - (fs.getD 0 0).toNat) fs = true) :
    DivI fs want (k + 1) (decR (k - (fs.getD 0 0).toNat) fs s.1 q, s.2 ++ List.replicate q ((k - (fs.getD 0 0).toNat : Nat) : Int)) := by
  have hm : 0 < cntE fs fs.length := by
    rcases Nat.eq_zero_or_pos (cntE fs fs.length) with e | e
    · rw [e, Nat.mul_zero] at hq; omega
    · exact e
  have e1 : s.1.getD k 0 / ((cntE fs fs.length : Nat) : Int) = (q : Int) := by
    rw [hq, Int.natCast_mul]; exact Int.mul_ediv_cancel _ (by omega)
  have e2 : s.1.getD k 0 % ((cntE fs fs.length : Nat) : Int) = 0 := by rw [hq, Int.natCast_mul]; exact Int.mul_emod_left _ _
  refine ⟨divP_step h.eq ?_, by rw [decR_len]; exact h.len, ?_, by simp; omega, ?_⟩
  · unfold stepP
    rw [if_neg (by omega), if_neg (by
      rw [e1, e2, hf, Int.toNat_natCast]
      rintro (h | h | h | h | h)
      · omega
      · exact h rfl
      · omega
      · omega
      · cases h), e1]
    rfl
  · have := h.inb.decR (k - (fs.getD 0 0).toNat) fs q
    rw [List.length_append, List.length_replicate, Nat.add_mul]
    exact this
  · intro y hy
    rcases List.mem_append.1 hy with hy | hy
    · have := h.nn y hy; omega
    · rw [List.mem_replicate] at hy
      omega
end Go.Proofs.Ythpboedpoipkcaa
