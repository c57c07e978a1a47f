/- The walk of spec.OtherPair. Conditions: sizes at most 2^20. -/
import Derived.Test.YthpboedpoipkcaaPairI
import Derived.Test.YthpboedpoipkcaaDivS
import Derived.Test.YthpboedpoipkcaaFindS
namespace Go.Proofs.Ythpboedpoipkcaa
open Go.ChangeShapes Go.WideShapes Go.ChangeAt Go.RowKit

/-- the two values read as the pair -/
def PairRd (w : World) (v1 v2 : Value) : Option (List Int × List Int) → Prop
  | none => v1 = .slice none 0 0 ∧ v2 = .slice none 0 0
  | some (x, y) => RV w v1 x ∧ RV w v2 y
theorem findSome_none {β : Type} {G : List Int → Option β} {L : List (List Int)} (h : ∀ j, j < L.length → G (L.getD j []) = none) : L.findSome? G = none := by
  rw [List.findSome?_eq_none_iff]
  intro x hx
  obtain ⟨j, hj, e⟩ := List.mem_iff_getElem.1 hx
  have := h j hj
  simpa [List.getD, hj, e] using this
theorem findSome_first {β : Type} {G : List Int → Option β} {p : β} : ∀ {L : List (List Int)} {i : Nat}, i < L.length → (∀ j, j < i → G (L.getD j []) = none) → G (L.getD i []) = some p → L.findSome? G = some p
  | [], i, hi, _, _ => by simp at hi
  | x :: L, 0, _, _, h => by
    have h : G x = some p := h
    rw [List.findSome?_cons_of_isSome (by rw [h]; rfl), h]
  | x :: L, i + 1, hi, hno, h => by
    have h0 : G x = none := hno 0 (by omega)
    rw [List.findSome?_cons_of_isNone (by rw [h0]; rfl)]
    exact findSome_first (by simpa using hi) (fun j hj => hno (j + 1) (by omega)) h
/-- the lists by their place; behind the end the last one -/
def lisA (m n i : Nat) : List Int := (growL m n 1).getD (min i ((growL m n 1).length - 1)) []
theorem lisA_facts {m n : Nat} (hm : 1 ≤ m) : ∃ N, N = (growL m n 1).length ∧ 0 < N ∧ lisA m n 0 = List.replicate n 1 ∧ (∀ i, i < N → lisA m n i = (growL m n 1).getD i []) ∧ (∀ i, lisA m n i ∈ growL m n 1) ∧
    (∀ i, i < N → nextB (lisA m n i) (m : Int) = decide (i + 1 < N) ∧ nextL (lisA m n i) (m : Int) = lisA m n (i + 1)) := by
  obtain ⟨h0, h1, h2⟩ := chain_gen (m := m) (n := n) (f := 1) hm
  have hat : ∀ i, i < (growL m n 1).length → lisA m n i = (growL m n 1).getD i [] := fun i hi => by unfold lisA; rw [Nat.min_eq_left (by omega)]
  have hmem : ∀ i, lisA m n i ∈ growL m n 1 := fun i => by
    unfold lisA
    have : min i ((growL m n 1).length - 1) < (growL m n 1).length := by omega
    simp [List.getD, this]
  refine ⟨_, rfl, h0, by rw [hat 0 h0]; exact h1, hat, hmem, fun i hi => ?_⟩
  rw [hat i hi]
  refine ⟨(h2 i hi).1, ?_⟩
  by_cases hlt : i + 1 < (growL m n 1).length
  · rw [hat _ hlt]
    exact (h2 i hi).2 hlt
  · have hb := (h2 i hi).1
    rw [decide_eq_false hlt] at hb
    have hl := (grow_mem m n 1 _ (hat i hi ▸ hmem i)).1
    have h0 : npos ((growL m n 1).getD i []) (m : Int) n = 0 := by
      unfold nextB at hb; rw [hl] at hb; simpa using hb
    rw [(next_no hl h0).2]
    unfold lisA
    rw [Nat.min_eq_right (by omega), show (growL m n 1).length - 1 = i by omega]

set_option maxRecDepth 100000 in
set_option maxHeartbeats 3200000 in
theorem sOther0 (A : Option Addr) (n c : Nat) (d : List Int) (w : World) (hr : Rd w A n (iv d)) (hc : n ≤ c) (hn : n ≤ 1048576) :
    Calls Try.prog 46 #[.agg #[.slice A n c]] w fun e w' => ∃ r1 r2, e = .returned (.tuple #[.agg #[r1], .agg #[r2], .bool (ROther d).isSome]) ∧ Below w.heap.size w w' ∧ PairRd w' r1 r2 (ROther d) := by
  have hl := hr.len
  have hb3 : Below w.heap.size w (((w.alloc (.cells #[.slice A n c] 27)).alloc (.cells #[.slice none 0 0] 27)).alloc (.cells #[.slice none 0 0] 27)) := (((Below.refl _ _).alloc (Nat.le_refl _) _).alloc (by simp) _).alloc (by simp; omega) _
  have B1 : Bk (((w.alloc (.cells #[.slice A n c] 27)).alloc (.cells #[.slice none 0 0] 27)).alloc (.cells #[.slice none 0 0] 27)) w.heap.size 27 [.slice A n c] := ((Bk.new w 27 [.slice A n c]).alloc _).alloc _
  obtain ⟨B2, B3⟩ := three w (.cells #[.slice A n c] 27) 27 (.slice none 0 0) (.slice none 0 0)
  have hs3 : (((w.alloc (.cells #[.slice A n c] 27)).alloc (.cells #[.slice none 0 0] 27)).alloc (.cells #[.slice none 0 0] 27)).heap.size = w.heap.size + 1 + 1 + 1 := by simp
  have hrv : RV w (.slice A n c) d := RV.mk hr hc
  have Hl := hide hl
  have Hr := hide hr
  have HRV := hide hrv
  clear hrv hr
  go_enter Try.func46, Try.ntmps46
  go_upto_region 2 with fail
  generalize ((w.alloc (.cells #[.slice A n c] 27)).alloc (.cells #[.slice none 0 0] 27)).alloc (.cells #[.slice none 0 0] 27) = w3 at *
  have k1 : w3.cell? ⟨w.heap.size, 0, none⟩ = some (.slice A n c) := (B1.cell 0).trans rfl
  have HV := Lib.hid (sIsDie ⟨w.heap.size, 0, none⟩ A n c d w3 k1 (Hr.out.below hb3) hn)
  cases hd : dieB d with
  | false =>
    rw [hd] at HV
    have HRO : Hid (ROther d = none) := hide (ROther_no (by unfold okPair; rw [hd]; rfl))
    go_upto_region 3 with (go_at_call 55; refine HV.out.mono ?_; rintro e w' ⟨rfl, q, rfl⟩)
    have fr2 := (B2.drewN q).free 0
    have fr3 := (B3.drewN q).free 0
    have m2 : (w3.drewN q).cell? ⟨w.heap.size + 1, 0, none⟩ = some (.slice none 0 0) := ((B2.drewN q).cell 0).trans rfl
    have m3 : (w3.drewN q).cell? ⟨w.heap.size + 1 + 1, 0, none⟩ = some (.slice none 0 0) := ((B3.drewN q).cell 0).trans rfl
    go_wp2
    have cR1 : (((w3.drewN q).setCell ⟨w.heap.size + 1, 0, none⟩ (.slice none 0 0)).setCell ⟨w.heap.size + 1 + 1, 0, none⟩ (.slice none 0 0)).cell? ⟨w.heap.size + 1, 0, none⟩ = some (.slice none 0 0) := ((((B2.drewN q).set 0 (.slice none 0 0)).far (by show w.heap.size + 1 ≠ w.heap.size + 1 + 1; omega) _).cell 0).trans rfl
    have cR2 : (((w3.drewN q).setCell ⟨w.heap.size + 1, 0, none⟩ (.slice none 0 0)).setCell ⟨w.heap.size + 1 + 1, 0, none⟩ (.slice none 0 0)).cell? ⟨w.heap.size + 1 + 1, 0, none⟩ = some (.slice none 0 0) := ((((B3.drewN q).far (by show w.heap.size + 1 + 1 ≠ w.heap.size + 1; omega) _).set 0 (.slice none 0 0)).cell 0).trans rfl
    exact bodyPost_ret (v := .tuple #[.agg #[.slice none 0 0], .agg #[.slice none 0 0], .bool false]) (by simp [results, Try.results46, go_sem, cR1, cR2]) rfl ⟨_, _, by rw [HRO.out]; rfl, ((below_drewN hb3 q).setCell (p := ⟨w.heap.size + 1, 0, none⟩) (by show w.heap.size ≤ w.heap.size + 1; omega) _).setCell (p := ⟨w.heap.size + 1 + 1, 0, none⟩) (by show w.heap.size ≤ w.heap.size + 1 + 1; omega) _, by rw [HRO.out]; exact ⟨rfl, rfl⟩⟩
  | true =>
    rw [hd] at HV
    obtain ⟨hn1, hn12⟩ := dieB_len hd
    rw [hl] at hn1 hn12
    by_cases h6 : 6 < n
    · have HRO : Hid (ROther d = none) := hide (ROther_no (by unfold okPair; rw [hl, decide_eq_false (by omega)]; simp))
      go_upto_region 3 with (go_at_call 55; refine HV.out.mono ?_; rintro e w' ⟨rfl, q, rfl⟩)
      have fr2 := (B2.drewN q).free 0
      have fr3 := (B3.drewN q).free 0
      have m2 : (w3.drewN q).cell? ⟨w.heap.size + 1, 0, none⟩ = some (.slice none 0 0) := ((B2.drewN q).cell 0).trans rfl
      have m3 : (w3.drewN q).cell? ⟨w.heap.size + 1 + 1, 0, none⟩ = some (.slice none 0 0) := ((B3.drewN q).cell 0).trans rfl
      go_wp2
      have cR1 : (((w3.drewN q).setCell ⟨w.heap.size + 1, 0, none⟩ (.slice none 0 0)).setCell ⟨w.heap.size + 1 + 1, 0, none⟩ (.slice none 0 0)).cell? ⟨w.heap.size + 1, 0, none⟩ = some (.slice none 0 0) := ((((B2.drewN q).set 0 (.slice none 0 0)).far (by show w.heap.size + 1 ≠ w.heap.size + 1 + 1; omega) _).cell 0).trans rfl
      have cR2 : (((w3.drewN q).setCell ⟨w.heap.size + 1, 0, none⟩ (.slice none 0 0)).setCell ⟨w.heap.size + 1 + 1, 0, none⟩ (.slice none 0 0)).cell? ⟨w.heap.size + 1 + 1, 0, none⟩ = some (.slice none 0 0) := ((((B3.drewN q).far (by show w.heap.size + 1 + 1 ≠ w.heap.size + 1; omega) _).set 0 (.slice none 0 0)).cell 0).trans rfl
      exact bodyPost_ret (v := .tuple #[.agg #[.slice none 0 0], .agg #[.slice none 0 0], .bool false]) (by simp [results, Try.results46, go_sem, cR1, cR2]) rfl ⟨_, _, by rw [HRO.out]; rfl, ((below_drewN hb3 q).setCell (p := ⟨w.heap.size + 1, 0, none⟩) (by show w.heap.size ≤ w.heap.size + 1; omega) _).setCell (p := ⟨w.heap.size + 1 + 1, 0, none⟩) (by show w.heap.size ≤ w.heap.size + 1 + 1; omega) _, by rw [HRO.out]; exact ⟨rfl, rfl⟩⟩
    · have hlast : d.getD (n - 1) 0 = ((lastF d : Nat) : Int) := by
        have := die_in hd (j := n - 1) (by omega)
        unfold lastF
        rw [hl]
        omega
      obtain ⟨ad, rfl, hbl, hcl⟩ := Hr.out.int (k := n - 1) (by omega)
      rw [hlast] at hcl
      have hcl3 : w3.cell? (ad.add (n - 1)) = some (.int .i64 ((lastF d : Nat) : Int)) := (hb3.cell (p := ad.add (n - 1)) (by rw [add_block]; exact hbl)).trans hcl
      have d6 : decide ((6 : Int) < (n : Int)) = false := decide_eq_false (by omega)
      have e1 : IntKind.i64.wrap ((n : Int) - 1) = ((n - 1 : Nat) : Int) := (IntWalk.i64_in _ (by omega)).trans (by omega)
      have e2 : ((n - 1 : Nat) : Int).toNat = n - 1 := Int.toNat_natCast _
      have e3 : (0 : Int) ≤ ((n - 1 : Nat) : Int) := Int.natCast_nonneg _
      have e4 : ((n - 1 : Nat) : Int) < (n : Int) := by omega
      generalize hn' : n - 1 = n' at *
      by_cases h66 : 6 < lastF d
      · have HRO : Hid (ROther d = none) := hide (ROther_no (by unfold okPair; rw [decide_eq_false (show ¬ lastF d ≤ 6 by omega)]; simp))
        generalize lastF d = lf at *
        clear hlast hl hn'
        have d7 : decide ((6 : Int) < (lf : Int)) = true := decide_eq_true (by omega)
        go_upto_region 3 with (go_at_call 55; refine HV.out.mono ?_; rintro e w' ⟨rfl, q, rfl⟩)
        have fr2 := (B2.drewN q).free 0
        have fr3 := (B3.drewN q).free 0
        have m2 : (w3.drewN q).cell? ⟨w.heap.size + 1, 0, none⟩ = some (.slice none 0 0) := ((B2.drewN q).cell 0).trans rfl
        have m3 : (w3.drewN q).cell? ⟨w.heap.size + 1 + 1, 0, none⟩ = some (.slice none 0 0) := ((B3.drewN q).cell 0).trans rfl
        go_wp2
        have cR1 : (((w3.drewN q).setCell ⟨w.heap.size + 1, 0, none⟩ (.slice none 0 0)).setCell ⟨w.heap.size + 1 + 1, 0, none⟩ (.slice none 0 0)).cell? ⟨w.heap.size + 1, 0, none⟩ = some (.slice none 0 0) := ((((B2.drewN q).set 0 (.slice none 0 0)).far (by show w.heap.size + 1 ≠ w.heap.size + 1 + 1; omega) _).cell 0).trans rfl
        have cR2 : (((w3.drewN q).setCell ⟨w.heap.size + 1, 0, none⟩ (.slice none 0 0)).setCell ⟨w.heap.size + 1 + 1, 0, none⟩ (.slice none 0 0)).cell? ⟨w.heap.size + 1 + 1, 0, none⟩ = some (.slice none 0 0) := ((((B3.drewN q).far (by show w.heap.size + 1 + 1 ≠ w.heap.size + 1; omega) _).set 0 (.slice none 0 0)).cell 0).trans rfl
        exact bodyPost_ret (v := .tuple #[.agg #[.slice none 0 0], .agg #[.slice none 0 0], .bool false]) (by simp [results, Try.results46, go_sem, cR1, cR2]) rfl ⟨_, _, by rw [HRO.out]; rfl, ((below_drewN hb3 q).setCell (p := ⟨w.heap.size + 1, 0, none⟩) (by show w.heap.size ≤ w.heap.size + 1; omega) _).setCell (p := ⟨w.heap.size + 1 + 1, 0, none⟩) (by show w.heap.size ≤ w.heap.size + 1 + 1; omega) _, by rw [HRO.out]; exact ⟨rfl, rfl⟩⟩
      · have hok : okPair d = true := by unfold okPair; rw [hd, decide_eq_true (show d.length ≤ 6 by omega), decide_eq_true (show lastF d ≤ 6 by omega)]; rfl
        obtain ⟨hL, hinb⟩ := twoC_facts hd (by omega)
        have hdl : d.length = n := hl
        have HC := Lib.hid (fun (W : World) (h : RV W (.slice (some ad) n c) d) => sCounts (some ⟨W.heap.size, 0, none⟩) 2 2 [d, d] _ (two_rows h) (by omega) (fun k hk => by
          match k, hk with
          | 0, _ => exact hd
          | 1, _ => exact hd))
        rw [show cnD [d, d] 2 = twoC d from rfl] at HC
        have d7 : decide ((6 : Int) < ((lastF d : Nat) : Int)) = false := decide_eq_false (by omega)
        have HRO0 : lastF d = 0 → Hid (ROther d = none) := fun h => hide (by
          rw [ROther_yes hok, h, hdl]
          obtain ⟨x, hx⟩ : ∃ x, n = x + 1 := ⟨n - 1, by omega⟩
          rw [hx]
          rfl)
        have HROl : ∀ m, m + 1 = 2 * lastF d → Hid (ROther d = (growL m n 1).findSome? (pairX d (twoC d))) := fun m hm => hide (by rw [← hdl]; exact ROther_less hok hm)
        have HR0 := hide HRO0
        have HRl := hide HROl
        obtain ⟨lf, Hlf⟩ : ∃ lf, Hid (lastF d = lf) := ⟨_, hide rfl⟩
        rw [Hlf.out] at h66 hcl hcl3 d7 HR0 hL HRl
        obtain ⟨L, HLm⟩ : ∃ L, Hid (1 + 2 * lf = L) := ⟨_, hide rfl⟩
        rw [HLm.out] at hL
        obtain ⟨want, Hwant⟩ : ∃ want, Hid (twoC d = want) := ⟨_, hide rfl⟩
        rw [Hwant.out] at hL hinb HC HRl
        have HL := hide hL
        have Hinb := hide hinb
        clear hL hinb hlast hl hdl hok HRO0 HROl
        go_upto_region 4 with (go_at_call 55; refine HV.out.mono ?_; rintro e w' ⟨rfl, q, rfl⟩)
        have hb4 := below_drewN (Below.refl w3.heap.size w3) q
        have B1 := B1.drewN q
        have B2 := B2.drewN q
        have B3 := B3.drewN q
        have hcl4 : (w3.drewN q).cell? (ad.add n') = some (.int .i64 (lf : Int)) := hcl3
        have hs4 : w.heap.size + 1 + 1 + 1 ≤ (w3.drewN q).heap.size := Nat.le_of_eq hs3.symm
        have hbw4 := below_drewN hb3 q
        have k4 : (w3.drewN q).cell? ⟨w.heap.size, 0, none⟩ = some (.slice (some ad) n c) := k1
        clear hb4 hcl3 hs3 hb3 k1 HV
        generalize w3.drewN q = w4 at *
        have b5 := (Below.refl w4.heap.size w4).alloc (Nat.le_refl _) (.cells #[.slice (some ad) n c, .slice (some ad) n c] 27)
        have hz5 : (w4.alloc (.cells #[.slice (some ad) n c, .slice (some ad) n c] 27)).heap.size = w4.heap.size + 1 := by simp
        go_upto_region 5 with (go_at_call 74; go_loud (refine (HC.out w4 (HRV.out.below hbw4)).mono ?_; rintro e w6 ⟨r, rfl, ho6, hb6⟩; obtain ⟨A2, c2, hr2, hc2, -, hrd2, -⟩ := ho6.form; rw [HL.out] at hr2 hc2 hrd2; subst hr2))
        have hb46 := b5.trans (hb6.mono (by omega))
        have hz6 := hb46.size
        have hbw6 := hbw4.trans (hb46.mono hbw4.size)
        have B1 := B1.below hb46 (by omega)
        have B2 := B2.below hb46 (by omega)
        have B3 := B3.below hb46 (by omega)
        have hcl6 : w6.cell? (ad.add n') = some (.int .i64 (lf : Int)) := (hbw6.cell (p := ad.add n') (by rw [add_block]; exact hbl)).trans hcl
        have k6 : w6.cell? ⟨w.heap.size, 0, none⟩ = some (.slice (some ad) n c) := (B1.cell 0).trans rfl
        have HRW := hide hrd2
        have HRD := hide (Hr.out.below hbw6)
        have e5 : IntKind.i64.wrap (2 * (lf : Int)) = 2 * (lf : Int) := IntWalk.i64_in _ (by omega)
        have e6 : IntKind.i64.wrap (2 * (lf : Int) - 1) = 2 * (lf : Int) - 1 := IntWalk.i64_in _ (by omega)
        have hW6 : w.heap.size + 1 + 1 + 1 ≤ w6.heap.size := by omega
        clear b5 hb6 hb46 hbw4 HC ho6 hrd2 hcl hcl4 k4 hz5 hs4
        by_cases hlf : lf = 0
        · have HRO := HR0.out hlf
          have d8 : decide (2 * (lf : Int) - 1 < 1) = true := decide_eq_true (by omega)
          subst hlf
          go_upto_region 7 with fail
          have fr2 := B2.free 0
          have fr3 := B3.free 0
          have m2 : w6.cell? ⟨w.heap.size + 1, 0, none⟩ = some (.slice none 0 0) := (B2.cell 0).trans rfl
          have m3 : w6.cell? ⟨w.heap.size + 1 + 1, 0, none⟩ = some (.slice none 0 0) := (B3.cell 0).trans rfl
          go_wp2
          have cR1 : ((w6.setCell ⟨w.heap.size + 1, 0, none⟩ (.slice none 0 0)).setCell ⟨w.heap.size + 1 + 1, 0, none⟩ (.slice none 0 0)).cell? ⟨w.heap.size + 1, 0, none⟩ = some (.slice none 0 0) := (((B2.set 0 (.slice none 0 0)).far (by show w.heap.size + 1 ≠ w.heap.size + 1 + 1; omega) _).cell 0).trans rfl
          have cR2 : ((w6.setCell ⟨w.heap.size + 1, 0, none⟩ (.slice none 0 0)).setCell ⟨w.heap.size + 1 + 1, 0, none⟩ (.slice none 0 0)).cell? ⟨w.heap.size + 1 + 1, 0, none⟩ = some (.slice none 0 0) := (((B3.far (by show w.heap.size + 1 + 1 ≠ w.heap.size + 1; omega) _).set 0 (.slice none 0 0)).cell 0).trans rfl
          exact bodyPost_ret (v := .tuple #[.agg #[.slice none 0 0], .agg #[.slice none 0 0], .bool false]) (by simp [results, Try.results46, go_sem, cR1, cR2]) rfl ⟨_, _, by rw [HRO.out]; rfl, (hbw6.setCell (p := ⟨w.heap.size + 1, 0, none⟩) (by show w.heap.size ≤ w.heap.size + 1; omega) _).setCell (p := ⟨w.heap.size + 1 + 1, 0, none⟩) (by show w.heap.size ≤ w.heap.size + 1 + 1; omega) _, by rw [HRO.out]; exact ⟨rfl, rfl⟩⟩
        · obtain ⟨m, Hm⟩ : ∃ m, Hid (m + 1 = 2 * lf) := ⟨2 * lf - 1, hide (by omega)⟩
          have hm1 : 1 ≤ m := by have := Hm.out; omega
          have hm12 : m ≤ 11 := by have := Hm.out; omega
          have hem : 2 * (lf : Int) - 1 = (m : Int) := by have := Hm.out; omega
          rw [hem] at e6
          have d8 : decide ((m : Int) < 1) = false := decide_eq_false (by omega)
          have HRO := HRl.out m Hm.out
          obtain ⟨N, hN, hN0, hL0, hLi, hLm, hLn⟩ := lisA_facts (m := m) (n := n) hm1
          go_upto_region 9 with (go_at_call 69; refine (sFirst n w6 (by omega)).mono ?_; rintro e w7 ⟨r7, rfl, ho7, hb7⟩; obtain ⟨gx, cx, rfl, hlx, hgx, hcx, hox⟩ := owns_form (n := n) ho7 (by simp) (by omega))
          have hb67 := hide hb7
          rw [← hL0] at hox
          have HXS := hide hox
          have HLf : Hid (∀ i, (lisA m n i).length = n ∧ ∀ j, j < n → 1 ≤ (lisA m n i).getD j 0 ∧ (lisA m n i).getD 0 0 ≤ (lisA m n i).getD j 0 ∧ (lisA m n i).getD j 0 ≤ (m : Int)) := hide fun i => by
            obtain ⟨g1, g2, g3⟩ := grow_mem m n 1 _ (hLm i)
            refine ⟨g1, fun j hj => ?_⟩
            have h1 := g2 _ (getD_mem' (q := lisA m n i) (j := j) (by omega))
            exact ⟨by omega, sorted_at g3 (by omega), h1.2⟩
          have HNone : Hid ((∀ j, j < N → pairX d want (lisA m n j) = none) → ROther d = none) := hide fun h => by
            rw [HRO.out]
            exact findSome_none fun j hj => by rw [← hLi j (by omega)]; exact h j (by omega)
          have HSome : Hid (∀ i p, i < N → (∀ j, j < i → pairX d want (lisA m n j) = none) → pairX d want (lisA m n i) = some p → ROther d = some p) := hide fun i p hi h hp => by
            rw [HRO.out]
            exact findSome_first (i := i) (by omega) (fun j hj => by rw [← hLi j (by omega)]; exact h j hj) (by rw [← hLi i hi]; exact hp)
          have HLn := Lib.hid hLn
          generalize lisA m n = LA at *
          have HLl : Hid (∀ i, (LA i).length = n) := hide fun i => (HLf.out i).1
          have HLp : Hid (∀ i j, j < n → 0 ≤ (LA i).getD j 0) := hide fun i j hj => by have := ((HLf.out i).2 j hj).1; omega
          have hLmm : m < L := by have h1 := HLm.out; have h2 := Hm.out; omega
          have hL20 : L ≤ 20 := by have := HLm.out; omega
          clear hL0 hLi hLm hLn hN HRO hox hb7 ho7 d6 d7 d8 e1 e2 e3 e4 e5 e6 hcl6 HR0 HRl
          go_wp2
          go_loopg [9, 10, 11] N (fun gk b _ _ wr => ∃ i, i ≤ N ∧ gk = N - i ∧ b = .bool (decide (i < N)) ∧ Hid (∀ j, j < i → pairX d want (LA j) = none) ∧ Hid (wr.ownsRow w6.heap.size 2 1 (.slice (some ⟨gx, 0, none⟩) n cx) n (iv (LA i))) ∧ Hid (Below w6.heap.size w6 wr))
          case atStart => exact ⟨0, Nat.zero_le _, rfl, by rw [decide_eq_true hN0], hide (fun j hj => by omega), HXS, hb67⟩
          case round =>
            clear HXS hb67
            obtain ⟨i, hi, hgk, rfl, hno, ho, hb⟩ := hrel
            by_cases hlt : i < N
            · rw [decide_eq_true hlt]
              have HDV := Lib.hid (sDiv (some ⟨gx, 0, none⟩) A2 n cx L c2 (LA i) want wr (Rd.of_own ho.out) (HRW.out.below hb.out) hn1 (by omega) hL20 (fun j hj => ⟨((HLf.out i).2 0 (by omega)).1, ((HLf.out i).2 j hj).2.1, by have := ((HLf.out i).2 j hj).2.2; omega⟩) (by have := ((HLf.out i).2 0 (by omega)).2.2; omega) Hinb.out)
              cases hq : divR (LA i) want with
              | none =>
                rw [hq] at HDV
                have HNo2 : Hid (∀ j, j < i + 1 → pairX d want (LA j) = none) := hide fun j hj => by
                  by_cases e : j = i
                  · subst e; unfold pairX; rw [hq]
                  · exact hno.out j (by omega)
                clear hq
                go_wp2_with fail
                refine HDV.out.mono ?_
                rintro e w8 ⟨r8, rfl, hb8, -⟩
                go_wp2_with fail
                refine (sNext w6.heap.size gx n cx m (LA i) w8 (owns_below ho.out hb8) (HLl.out i) (by omega) (by omega) (HLp.out i)).mono ?_
                rintro e w9 ⟨rfl, ho9, hg9⟩
                rw [(HLn.out i hlt).1]
                have HO9 := hide ho9
                have HG9 := hide hg9
                have HBN := hide (hb.out.trans (Below.mono hb8 hb.out.size))
                clear ho9 hg9
                go_wp2
                go_roundg (N - (i + 1))
                case measure => omega
                case rel => exact ⟨i + 1, by omega, rfl, rfl, HNo2, hide (by rw [← (HLn.out i hlt).2]; exact HO9.out), hide (HBN.out.grown HG9.out HBN.out.size (fun g e => by injection e with e; omega))⟩
              | some ys =>
                rw [hq] at HDV
                have hly := divR_len hq
                rw [HLl.out] at hly
                have hpx : pairX d want (LA i) = bif !befL ys (LA i) && !(eqL (LA i) d && eqL ys d) then some (LA i, ys) else none := by unfold pairX; rw [hq]
                have HNx : Hid (pairX d want (LA i) = none → ∀ j, j < i + 1 → pairX d want (LA j) = none) := hide fun h j hj => by
                  by_cases e : j = i
                  · subst e; exact h
                  · exact hno.out j (by omega)
                have HFx : Hid (pairX d want (LA i) = some (LA i, ys) → ROther d = some (LA i, ys)) := hide fun h => HSome.out i _ hlt (fun j hj => hno.out j hj) h
                have Hpx := hide hpx
                clear hq hpx
                go_wp2_with fail
                refine HDV.out.mono ?_
                rintro e w8 ⟨r8, rfl, hb8, how⟩
                have how := how ys rfl
                obtain ⟨rA, rc, rfl, hrc, -, hrd, -⟩ := how.form
                rw [hly] at hrc hrd how ⊢
                have HRX := hide (Rd.of_own (owns_below ho.out hb8))
                have HRY := hide hrd
                have Hly := hide hly
                have HRD8 := hide (HRD.out.below (hb.out.trans (hb8.mono hb.out.size)))
                have k8 : w8.cell? ⟨w.heap.size, 0, none⟩ = some (.slice (some ad) n c) := ((hb.out.trans (hb8.mono hb.out.size)).cell (p := ⟨w.heap.size, 0, none⟩) (by show w.heap.size < w6.heap.size; omega)).trans k6
                have HBf := Lib.hid (fun q => sBefore rA (some ⟨gx, 0, none⟩) n rc cx ys (LA i) (w8.drewN q) (HRY.out.drewN q) (HRX.out.drewN q) (by omega))
                have HS1 := Lib.hid (fun q => sSame (some ⟨gx, 0, none⟩) (some ad) n n cx c (LA i) d (w8.drewN q) (HRX.out.drewN q) (HRD8.out.drewN q) (by omega) (by omega))
                have HS2 := Lib.hid (fun q => sSame rA (some ad) n n rc c ys d (w8.drewN q) (HRY.out.drewN q) (HRD8.out.drewN q) (by omega) (by omega))
                clear hly hrd
                cases h1 : befL ys (LA i) with
                | true =>
                  rw [h1] at HBf
                  have HNo2 := hide (HNx.out (by rw [Hpx.out, h1]; rfl))
                  clear h1
                  go_wp2_with fail
                  refine (HBf.out 0).mono ?_
                  rintro e w' ⟨rfl, q, rfl⟩
                  have hbel := below_drewN (below_drewN hb8 0) q
                  go_wp2_with fail
                  refine (sNext w6.heap.size gx n cx m (LA i) ((w8.drewN 0).drewN q) (owns_below ho.out hbel) (HLl.out i) (by omega) (by omega) (HLp.out i)).mono ?_
                  rintro e w9 ⟨rfl, ho9, hg9⟩
                  rw [(HLn.out i hlt).1]
                  have HO9 := hide ho9
                  have HG9 := hide hg9
                  have HBN := hide (hb.out.trans (Below.mono hbel hb.out.size))
                  clear ho9 hg9
                  go_wp2
                  go_roundg (N - (i + 1))
                  case measure => omega
                  case rel => exact ⟨i + 1, by omega, rfl, rfl, HNo2, hide (by rw [← (HLn.out i hlt).2]; exact HO9.out), hide (HBN.out.grown HG9.out HBN.out.size (fun g e => by injection e with e; omega))⟩
                | false =>
                  rw [h1] at HBf
                  cases h2 : eqL (LA i) d with
                  | false =>
                    rw [h2] at HS1
                    have HFd := hide (HFx.out (by rw [Hpx.out, h1, h2]; rfl))
                    clear h1 h2
                    go_wp2_with fail
                    refine (HBf.out 0).mono ?_
                    rintro e w' ⟨rfl, q, rfl⟩
                    rw [World.drewN_drewN]
                    go_wp2_with fail
                    refine (HS1.out _).mono ?_
                    rintro e w' ⟨rfl, q2, rfl⟩
                    rw [World.drewN_drewN]
                    generalize q + q2 = Q
                    have HBN := hide (hb.out.trans (Below.mono (below_drewN hb8 Q) hb.out.size))
                    have C2 : Bk (w8.drewN Q) (w.heap.size + 1) 27 [.slice none 0 0] := B2.below HBN.out (by omega)
                    have C3 : Bk (w8.drewN Q) (w.heap.size + 1 + 1) 27 [.slice none 0 0] := B3.below HBN.out (by omega)
                    have fr2 := C2.free 0
                    have fr3 := C3.free 0
                    have m2 : World.cell? (w8.drewN Q) ⟨w.heap.size + 1, 0, none⟩ = some (.slice none 0 0) := (C2.cell 0).trans rfl
                    have m3 : World.cell? (w8.drewN Q) ⟨w.heap.size + 1 + 1, 0, none⟩ = some (.slice none 0 0) := (C3.cell 0).trans rfl
                    have HXR := hide (owns_below ho.out (below_drewN hb8 Q))
                    have HYR := hide (Own.below how (below_drewN (Below.refl w8.heap.size w8) Q))
                    go_wp2
                    have cR1 : ((World.setCell (w8.drewN Q) ⟨w.heap.size + 1, 0, none⟩ (.slice (some ⟨gx, 0, none⟩) n cx)).setCell ⟨w.heap.size + 1 + 1, 0, none⟩ (.slice rA n rc)).cell? ⟨w.heap.size + 1, 0, none⟩ = some (.slice (some ⟨gx, 0, none⟩) n cx) := (((C2.set 0 (.slice (some ⟨gx, 0, none⟩) n cx)).far (by show w.heap.size + 1 ≠ w.heap.size + 1 + 1; omega) _).cell 0).trans rfl
                    have cR2 : ((World.setCell (w8.drewN Q) ⟨w.heap.size + 1, 0, none⟩ (.slice (some ⟨gx, 0, none⟩) n cx)).setCell ⟨w.heap.size + 1 + 1, 0, none⟩ (.slice rA n rc)).cell? ⟨w.heap.size + 1 + 1, 0, none⟩ = some (.slice rA n rc) := (((C3.far (by show w.heap.size + 1 + 1 ≠ w.heap.size + 1; omega) _).set 0 (.slice rA n rc)).cell 0).trans rfl
                    exact bodyPost_ret (v := .tuple #[.agg #[.slice (some ⟨gx, 0, none⟩) n cx], .agg #[.slice rA n rc], .bool true]) (by simp [results, Try.results46, go_sem, cR1, cR2]) rfl ⟨_, _, by rw [HFd.out]; rfl, ((hbw6.trans (HBN.out.mono hbw6.size)).setCell (p := ⟨w.heap.size + 1, 0, none⟩) (by show w.heap.size ≤ w.heap.size + 1; omega) _).setCell (p := ⟨w.heap.size + 1 + 1, 0, none⟩) (by show w.heap.size ≤ w.heap.size + 1 + 1; omega) _, by
                      rw [HFd.out]
                      refine ⟨rv_own (ownsRow_setCell_below (ownsRow_setCell_below HXR.out (by show w.heap.size + 1 < w6.heap.size; omega) _) (by show w.heap.size + 1 + 1 < w6.heap.size; omega) _) (HLl.out i) hcx, ?_⟩
                      have hzr := hb.out.size
                      exact ((HYR.out.setCell (p := ⟨w.heap.size + 1, 0, none⟩) (by show w.heap.size + 1 < wr.heap.size; omega) _).setCell (p := ⟨w.heap.size + 1 + 1, 0, none⟩) (by show w.heap.size + 1 + 1 < wr.heap.size; omega) _).rv⟩
                  | true =>
                    rw [h2] at HS1
                    cases h3 : eqL ys d with
                    | false =>
                      rw [h3] at HS2
                      have HFd := hide (HFx.out (by rw [Hpx.out, h1, h2, h3]; rfl))
                      clear h1 h2 h3
                      go_wp2_with fail
                      refine (HBf.out 0).mono ?_
                      rintro e w' ⟨rfl, q, rfl⟩
                      rw [World.drewN_drewN]
                      go_wp2_with fail
                      refine (HS1.out _).mono ?_
                      rintro e w' ⟨rfl, q2, rfl⟩
                      rw [World.drewN_drewN]
                      go_wp2_with fail
                      refine (HS2.out _).mono ?_
                      rintro e w' ⟨rfl, q3, rfl⟩
                      rw [World.drewN_drewN]
                      generalize q + q2 + q3 = Q
                      have HBN := hide (hb.out.trans (Below.mono (below_drewN hb8 Q) hb.out.size))
                      have C2 : Bk (w8.drewN Q) (w.heap.size + 1) 27 [.slice none 0 0] := B2.below HBN.out (by omega)
                      have C3 : Bk (w8.drewN Q) (w.heap.size + 1 + 1) 27 [.slice none 0 0] := B3.below HBN.out (by omega)
                      have fr2 := C2.free 0
                      have fr3 := C3.free 0
                      have m2 : World.cell? (w8.drewN Q) ⟨w.heap.size + 1, 0, none⟩ = some (.slice none 0 0) := (C2.cell 0).trans rfl
                      have m3 : World.cell? (w8.drewN Q) ⟨w.heap.size + 1 + 1, 0, none⟩ = some (.slice none 0 0) := (C3.cell 0).trans rfl
                      have HXR := hide (owns_below ho.out (below_drewN hb8 Q))
                      have HYR := hide (Own.below how (below_drewN (Below.refl w8.heap.size w8) Q))
                      go_wp2
                      have cR1 : ((World.setCell (w8.drewN Q) ⟨w.heap.size + 1, 0, none⟩ (.slice (some ⟨gx, 0, none⟩) n cx)).setCell ⟨w.heap.size + 1 + 1, 0, none⟩ (.slice rA n rc)).cell? ⟨w.heap.size + 1, 0, none⟩ = some (.slice (some ⟨gx, 0, none⟩) n cx) := (((C2.set 0 (.slice (some ⟨gx, 0, none⟩) n cx)).far (by show w.heap.size + 1 ≠ w.heap.size + 1 + 1; omega) _).cell 0).trans rfl
                      have cR2 : ((World.setCell (w8.drewN Q) ⟨w.heap.size + 1, 0, none⟩ (.slice (some ⟨gx, 0, none⟩) n cx)).setCell ⟨w.heap.size + 1 + 1, 0, none⟩ (.slice rA n rc)).cell? ⟨w.heap.size + 1 + 1, 0, none⟩ = some (.slice rA n rc) := (((C3.far (by show w.heap.size + 1 + 1 ≠ w.heap.size + 1; omega) _).set 0 (.slice rA n rc)).cell 0).trans rfl
                      exact bodyPost_ret (v := .tuple #[.agg #[.slice (some ⟨gx, 0, none⟩) n cx], .agg #[.slice rA n rc], .bool true]) (by simp [results, Try.results46, go_sem, cR1, cR2]) rfl ⟨_, _, by rw [HFd.out]; rfl, ((hbw6.trans (HBN.out.mono hbw6.size)).setCell (p := ⟨w.heap.size + 1, 0, none⟩) (by show w.heap.size ≤ w.heap.size + 1; omega) _).setCell (p := ⟨w.heap.size + 1 + 1, 0, none⟩) (by show w.heap.size ≤ w.heap.size + 1 + 1; omega) _, by
                        rw [HFd.out]
                        refine ⟨rv_own (ownsRow_setCell_below (ownsRow_setCell_below HXR.out (by show w.heap.size + 1 < w6.heap.size; omega) _) (by show w.heap.size + 1 + 1 < w6.heap.size; omega) _) (HLl.out i) hcx, ?_⟩
                        have hzr := hb.out.size
                        exact ((HYR.out.setCell (p := ⟨w.heap.size + 1, 0, none⟩) (by show w.heap.size + 1 < wr.heap.size; omega) _).setCell (p := ⟨w.heap.size + 1 + 1, 0, none⟩) (by show w.heap.size + 1 + 1 < wr.heap.size; omega) _).rv⟩
                    | true =>
                      rw [h3] at HS2
                      have HNo2 := hide (HNx.out (by rw [Hpx.out, h1, h2, h3]; rfl))
                      clear h1 h2 h3
                      go_wp2_with fail
                      refine (HBf.out 0).mono ?_
                      rintro e w' ⟨rfl, q, rfl⟩
                      rw [World.drewN_drewN]
                      go_wp2_with fail
                      refine (HS1.out _).mono ?_
                      rintro e w' ⟨rfl, q2, rfl⟩
                      rw [World.drewN_drewN]
                      go_wp2_with fail
                      refine (HS2.out _).mono ?_
                      rintro e w' ⟨rfl, q3, rfl⟩
                      rw [World.drewN_drewN]
                      generalize q + q2 + q3 = Q
                      have hbel := below_drewN hb8 Q
                      go_wp2_with fail
                      refine (sNext w6.heap.size gx n cx m (LA i) (w8.drewN Q) (owns_below ho.out hbel) (HLl.out i) (by omega) (by omega) (HLp.out i)).mono ?_
                      rintro e w9 ⟨rfl, ho9, hg9⟩
                      rw [(HLn.out i hlt).1]
                      have HO9 := hide ho9
                      have HG9 := hide hg9
                      have HBN := hide (hb.out.trans (Below.mono hbel hb.out.size))
                      clear ho9 hg9
                      go_wp2
                      go_roundg (N - (i + 1))
                      case measure => omega
                      case rel => exact ⟨i + 1, by omega, rfl, rfl, HNo2, hide (by rw [← (HLn.out i hlt).2]; exact HO9.out), hide (HBN.out.grown HG9.out HBN.out.size (fun g e => by injection e with e; omega))⟩
            · rw [decide_eq_false hlt]
              have e : i = N := by omega
              have HRO : Hid (ROther d = none) := hide (HNone.out (fun j hj => hno.out j (by omega)))
              have C2 := B2.below hb.out (by omega)
              have C3 := B3.below hb.out (by omega)
              have fr2 := C2.free 0
              have fr3 := C3.free 0
              have m2 : wr.cell? ⟨w.heap.size + 1, 0, none⟩ = some (.slice none 0 0) := (C2.cell 0).trans rfl
              have m3 : wr.cell? ⟨w.heap.size + 1 + 1, 0, none⟩ = some (.slice none 0 0) := (C3.cell 0).trans rfl
              go_wp2
              have cR1 : ((wr.setCell ⟨w.heap.size + 1, 0, none⟩ (.slice none 0 0)).setCell ⟨w.heap.size + 1 + 1, 0, none⟩ (.slice none 0 0)).cell? ⟨w.heap.size + 1, 0, none⟩ = some (.slice none 0 0) := (((C2.set 0 (.slice none 0 0)).far (by show w.heap.size + 1 ≠ w.heap.size + 1 + 1; omega) _).cell 0).trans rfl
              have cR2 : ((wr.setCell ⟨w.heap.size + 1, 0, none⟩ (.slice none 0 0)).setCell ⟨w.heap.size + 1 + 1, 0, none⟩ (.slice none 0 0)).cell? ⟨w.heap.size + 1 + 1, 0, none⟩ = some (.slice none 0 0) := (((C3.far (by show w.heap.size + 1 + 1 ≠ w.heap.size + 1; omega) _).set 0 (.slice none 0 0)).cell 0).trans rfl
              exact bodyPost_ret (v := .tuple #[.agg #[.slice none 0 0], .agg #[.slice none 0 0], .bool false]) (by simp [results, Try.results46, go_sem, cR1, cR2]) rfl ⟨_, _, by rw [HRO.out]; rfl, ((hbw6.trans (hb.out.mono hbw6.size)).setCell (p := ⟨w.heap.size + 1, 0, none⟩) (by show w.heap.size ≤ w.heap.size + 1; omega) _).setCell (p := ⟨w.heap.size + 1 + 1, 0, none⟩) (by show w.heap.size ≤ w.heap.size + 1 + 1; omega) _, by rw [HRO.out]; exact ⟨rfl, rfl⟩⟩

theorem sOther (v : Value) (d : List Int) (w : World) (hv : RV w v d) (hn : d.length ≤ 1048576) :
    Calls Try.prog 46 #[.agg #[v]] w fun e w' => ∃ r1 r2, e = .returned (.tuple #[.agg #[r1], .agg #[r2], .bool (ROther d).isSome]) ∧ Below w.heap.size w w' ∧ PairRd w' r1 r2 (ROther d) := by
  obtain ⟨A, c, rfl, hr, hc⟩ := hv
  exact sOther0 A _ c d w hr hc hn
end Go.Proofs.Ythpboedpoipkcaa
