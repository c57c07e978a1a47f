/- Plain facts on the moves that the finite law draws, and on the winning move. Conditions: what is stated. -/
import Derived.Test.YtajpieblbijciaaHeapsP
namespace Go.Proofs.Ytajpieblbijciaa
open Go.ChangeShapes Go.WideShapes Go.ChangeAt Go.RowKit

/-- drawn moves, the last of them -/
def MV (ms : List Int) (at_ : Int) : Prop := (∀ i, i < ms.length → mvBad ms i = false) ∧ 0 ≤ at_ ∧ at_ ≤ 3 * (ms.length : Int) ∧ ∀ i, i < ms.length → ms.getD i 0 ≤ at_
theorem MV_nil : MV [] 0 := ⟨fun i h => absurd h (by simp), by omega, by simp, fun i h => absurd h (by simp)⟩
theorem MV_app {ms : List Int} {at_ x : Int} (h : MV ms at_) (hl : ms.length ≤ 10) (h1 : at_ < x) (h2 : x ≤ at_ + 3) : MV (ms ++ [x]) x := by
  obtain ⟨a, b, c, d⟩ := h
  refine ⟨fun i hi => ?_, by omega, by simp; omega, fun i hi => ?_⟩
  · have hi2 : i < ms.length + 1 := by simpa using hi
    by_cases e : i < ms.length
    · have := a i e
      unfold mvBad at this ⊢
      rw [getD_app, getD_app, if_pos e, if_pos (by omega)]
      exact this
    · have hie : i = ms.length := by omega
      unfold mvBad
      rw [getD_app, getD_app, if_neg e, if_pos hie, inB_t (by omega)]
      by_cases h0 : 0 < i
      · have := d (i - 1) (by omega)
        rw [if_pos (by omega), decide_eq_false (p := x ≤ ms.getD (i - 1) 0) (by omega)]
        simp
      · simp [h0]
  · have hi2 : i < ms.length + 1 := by simpa using hi
    rw [getD_app]
    by_cases e : i < ms.length
    · rw [if_pos e]
      have := d i e
      omega
    · rw [if_neg e, if_pos (by omega)]
      omega
theorem MV_moves {ms : List Int} {at_ : Int} (h : MV ms at_) (h1 : 1 ≤ ms.length) (h2 : ms.length ≤ 8) : movesB ms = true := by
  rw [movesB_all h.1]
  simp [h1, h2]
theorem mem_getD {xs : List Int} {m : Int} (h : m ∈ xs) : ∃ b, b < xs.length ∧ xs.getD b 0 = m := by
  obtain ⟨j, hj, e⟩ := List.getElem_of_mem h
  exact ⟨j, hj, by simp [List.getD, hj, e]⟩
theorem getD_mem {xs : List Int} {b : Nat} (h : b < xs.length) : xs.getD b 0 ∈ xs := by simp [List.getD, h]
theorem moves_pos {ms : List Int} (h : movesB ms = true) : ∀ m ∈ ms, 1 ≤ m := fun m hm => by
  obtain ⟨b, hb, e⟩ := mem_getD hm
  have := (movesB_of h).2.2 b hb
  omega
theorem tvL_mem {ms out : List Int} {k : Nat} {v : Int} : v ∈ tvL ms out k ms.length ↔ ∃ m, m ∈ ms ∧ m ≤ (k : Int) ∧ out.getD (k - m.toNat) 0 = v := by
  unfold tvL
  rw [List.take_length]
  simp only [List.mem_map, List.mem_filter, decide_eq_true_eq]
  constructor
  · rintro ⟨m, ⟨h1, h2⟩, h3⟩; exact ⟨m, h1, h2, h3⟩
  · rintro ⟨m, h1, h2, h3⟩; exact ⟨m, ⟨h1, h2⟩, h3⟩
theorem hasI_mem {xs : List Int} {v : Int} : hasI xs v = true ↔ v ∈ xs := by unfold hasI; simp
theorem hx_same {ms hs : List Int} {K K' : Nat} (h : ∀ i, i < hs.length → (hs.getD i 0).toNat < K ∧ (hs.getD i 0).toNat < K') (k : Nat) (hk : k ≤ hs.length) : hxTo (tvTo ms K) hs k = hxTo (tvTo ms K') hs k := by
  induction k with
  | zero => rfl
  | succ k ih =>
    rw [hxTo, hxTo, ih (by omega), tv_eq ms (h k (by omega)).1 (h k (by omega)).2]
theorem xr_hx {vals hs : List Int} {V : Nat → Nat} {k : Nat} (h : ∀ i, i < k → vals.getD (hs.getD i 0).toNat 0 = (V i : Int)) : xr ((List.range k).map V) = hxTo vals hs k := by
  induction k with
  | zero => rfl
  | succ k ih =>
    have ih := ih fun i hi => h i (by omega)
    unfold xr at ih ⊢
    rw [List.range_succ, List.map_append, List.foldl_append, ih, hxTo, h k (by omega)]
    rfl
theorem heap_facts {ms hs : List Int} {n : Nat} (hm : movesB ms = true) (hL : ms.length ≤ 4) (h1 : 1 ≤ hs.length) (h4 : hs.length ≤ 4) (hn : n ≤ 29) (hin : ∀ i, i < hs.length → 0 ≤ hs.getD i 0 ∧ hs.getD i 0 ≤ (n : Int)) :
    (hxTo (tvTo ms (n + 1)) hs hs.length = 0 ∧ RHeapMove hs ms = (0, 0, false)) ∨
    (hxTo (tvTo ms (n + 1)) hs hs.length ≠ 0 ∧ ∃ a b, a < hs.length ∧ b < ms.length ∧ RHeapMove hs ms = ((a : Int), ms.getD b 0, true) ∧ ms.getD b 0 ≤ hs.getD a 0 ∧
      bits .xor .i64 (bits .xor .i64 (hxTo (tvTo ms (n + 1)) hs hs.length) ((tvTo ms (n + 1)).getD (hs.getD a 0).toNat 0)) ((tvTo ms (n + 1)).getD ((hs.getD a 0).toNat - (ms.getD b 0).toNat) 0) = 0) := by
  have hpos := moves_pos hm
  have hok : hmOk hs ms = true := by
    have hany : hs.any (fun h => !inB h 0 200) = false := by
      rw [List.any_eq_false]
      intro h hh
      obtain ⟨b, hb, e⟩ := mem_getD hh
      have := hin b hb
      rw [inB_t (by omega)]
      simp
    unfold hmOk
    rw [hm, hany]
    simp
    omega
  have hR : RHeapMove hs ms = hmFind (tvTo ms 201) (hxTo (tvTo ms (n + 1)) hs hs.length) hs ms := by
    rw [RHeapMove, if_pos hok, hx_same (K := 201) (K' := n + 1) (fun i hi => by have := hin i hi; omega) _ (Nat.le_refl _)]
  rw [hR]
  obtain ⟨V, hV⟩ : ∃ V : Nat → Nat, ∀ i, V i = mex (tvL ms (tvTo ms 201) (hs.getD i 0).toNat ms.length) := ⟨_, fun i => rfl⟩
  have hv : ∀ i, i < hs.length → (tvTo ms 201).getD (hs.getD i 0).toNat 0 = (V i : Int) := fun i hi => by
    have := hin i hi
    rw [hV, tv_mex (by omega) hpos]
  have hlt : ∀ h, mex (tvL ms (tvTo ms 201) h ms.length) < 5 := fun h => by
    have := (mex_spec (tvL ms (tvTo ms 201) h ms.length)).2.2
    have := tvL_len ms (tvTo ms 201) h ms.length
    omega
  have hv2 : ∀ i, i < hs.length → (tvTo ms (n + 1)).getD (hs.getD i 0).toNat 0 = (V i : Int) := fun i hi => by
    have := hin i hi
    rw [← hv i hi, tv_eq ms (K := n + 1) (K' := 201) (by omega) (by omega)]
  have hxr : xr ((List.range hs.length).map V) = hxTo (tvTo ms (n + 1)) hs hs.length := xr_hx hv2
  have hnim := nim_all (vs := (List.range hs.length).map V) (by simpa using h1) (by simpa using h4) (fun v hv => by
    obtain ⟨i, _, e⟩ := List.mem_map.1 hv
    rw [← e, hV]
    exact hlt _)
  unfold nimB at hnim
  rw [hxr] at hnim
  generalize hall : hxTo (tvTo ms (n + 1)) hs hs.length = all at *
  rcases hm_cases (tvTo ms 201) all hs ms with hno | ⟨a, b, ha, hb, hit, hfind⟩
  · left
    refine ⟨?_, hmFind_no hno⟩
    rw [Bool.or_eq_true] at hnim
    rcases hnim with h0 | h0
    · simpa using h0
    · exfalso
      simp only [List.any_eq_true, List.mem_range, decide_eq_true_eq, List.length_map, List.length_range] at h0
      obtain ⟨i, hi, y, hy, hx⟩ := h0
      have e : ((List.range hs.length).map V).getD i 0 = V i := by simp [List.getD, hi]
      rw [e] at hy hx
      have hh := (mex_spec (tvL ms (tvTo ms 201) (hs.getD i 0).toNat ms.length)).2.1 y (by rw [← hV]; exact hy)
      rw [hasI_mem, tvL_mem] at hh
      obtain ⟨m, hmm, hmk, hmv⟩ := hh
      obtain ⟨b, hb, eb⟩ := mem_getD hmm
      have hbad := hno i hi b hb
      have hin2 := hin i hi
      rw [eb] at hbad
      unfold hmHit at hbad
      rw [hv i hi, hmv, hx, decide_eq_true (p := m ≤ hs.getD i 0) (by omega)] at hbad
      simp at hbad
  · right
    have hit2 := hit
    unfold hmHit at hit2
    simp only [Bool.and_eq_true, decide_eq_true_eq] at hit2
    obtain ⟨hle, hx⟩ := hit2
    have hin2 := hin a ha
    have hp := hpos (ms.getD b 0) (getD_mem hb)
    refine ⟨fun h0 => ?_, a, b, ha, hb, hfind, hle, ?_⟩
    · have hy : (tvTo ms 201).getD ((hs.getD a 0).toNat - (ms.getD b 0).toNat) 0 = (mex (tvL ms (tvTo ms 201) ((hs.getD a 0).toNat - (ms.getD b 0).toNat) ms.length) : Int) := tv_mex (by omega) hpos
      rw [h0, hv a ha, hy] at hx
      have hva : V a < 5 := by rw [hV]; exact hlt _
      have := nim0 ⟨V a, hva⟩ ⟨_, hlt ((hs.getD a 0).toNat - (ms.getD b 0).toNat)⟩ hx
      have he : mex (tvL ms (tvTo ms 201) ((hs.getD a 0).toNat - (ms.getD b 0).toNat) ms.length) = V a := by simpa using congrArg Fin.val this
      have hmem : (V a : Int) ∈ tvL ms (tvTo ms 201) (hs.getD a 0).toNat ms.length := tvL_mem.2 ⟨ms.getD b 0, getD_mem hb, by omega, by rw [hy, he]⟩
      have hf := (mex_spec (tvL ms (tvTo ms 201) (hs.getD a 0).toNat ms.length)).1
      rw [← hV, hasI_mem.2 hmem] at hf
      cases hf
    · rw [tv_eq ms (K := n + 1) (K' := 201) (by omega) (by omega), tv_eq ms (K := n + 1) (K' := 201) (j := (hs.getD a 0).toNat - (ms.getD b 0).toNat) (by omega) (by omega)]
      exact hx
end Go.Proofs.Ytajpieblbijciaa
