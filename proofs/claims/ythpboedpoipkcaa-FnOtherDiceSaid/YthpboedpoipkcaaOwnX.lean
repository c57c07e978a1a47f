/- A slice of rows that the call owns, the rows in blocks that differ; mark and held over it. Conditions: lengths at most 2^20. -/
import Derived.Test.YthpboedpoipkcaaDS
namespace Go.Proofs.Ythpboedpoipkcaa
open Go.ChangeShapes Go.WideShapes Go.ChangeAt Go.RowKit

/-- A slice of rows of the call's own, from lo on and below hi: the rows lie in blocks that differ. -/
def OwnX (w : World) (t : TypeId) (lo hi : Nat) (v : Value) (xss : List (List Int)) : Prop :=
  ∃ g vs, v = .slice (some ⟨g, 0, none⟩) xss.length xss.length ∧ lo ≤ g ∧ g < hi ∧ Bk w g t vs ∧ vs.length = xss.length ∧
    ∃ bs : Nat → Nat, (∀ k, k < xss.length → Own w (bs k) (bs k + 1) (vs.getD k (.slice none 0 0)) (xss.getD k []) ∧ lo ≤ bs k ∧ bs k < hi ∧ bs k ≠ g) ∧ ∀ i j, i < xss.length → j < xss.length → i ≠ j → bs i ≠ bs j

theorem own_exact {w : World} {lo hi : Nat} {v : Value} {xs : List Int} (h : Own w lo hi v xs) (h0 : 0 < xs.length) : ∃ b, lo ≤ b ∧ b < hi ∧ Own w b (b + 1) v xs := by
  obtain ⟨h1, h2⟩ := h
  rcases h1.2 with ⟨-, h3⟩ | ⟨g, cap, cur, rfl, hlo, hrest⟩
  · omega
  · refine ⟨g, hlo, h2 g rfl, ⟨h1.1, .inr ⟨g, cap, cur, rfl, Nat.le_refl _, hrest⟩⟩, fun g' e => ?_⟩
    injection e with e
    show g' < g + 1
    have : g = g' := e
    omega
section
variable {w w' : World} {t : TypeId} {lo hi : Nat} {v : Value} {xss : List (List Int)}
theorem OwnX.rv (h : OwnX w t lo hi v xss) : RVR w v xss := by
  obtain ⟨g, vs, rfl, h1, h2, hB, hl, bs, hO, -⟩ := h
  have hr := hB.rd
  rw [hl] at hr
  refine ⟨_, _, rfl, ⟨vs, rfl, hr, fun k v hk => ?_⟩, Nat.le_refl _⟩
  have hlt : k < vs.length := (List.getElem?_eq_some_iff.1 hk).1
  have h := (hO k (by omega)).1
  rw [show vs.getD k (.slice none 0 0) = v by simp [List.getD, hk]] at h
  exact h.rv
theorem OwnX.below (h : OwnX w t lo hi v xss) (hb : Below w.heap.size w w') : OwnX w' t lo hi v xss := by
  obtain ⟨g, vs, rfl, h1, h2, hB, hl, bs, hO, hd⟩ := h
  exact ⟨g, vs, rfl, h1, h2, hB.below hb hB.lt, hl, bs, fun k hk => ⟨(hO k hk).1.below hb, (hO k hk).2⟩, hd⟩
end
/-- the marks' rows behind markDieS -/
def mkRows (xss : List (List Int)) : List (List Int) := (List.range xss.length).map fun k => marks (mkTo xss k) (xss.getD k []).length
theorem mkRows_len (xss : List (List Int)) : (mkRows xss).length = xss.length := by simp [mkRows]
theorem mkRows_get (xss : List (List Int)) {k : Nat} (hk : k < xss.length) : (mkRows xss).getD k [] = marks (mkTo xss k) (xss.getD k []).length := by simp [mkRows, List.getD, hk]

set_option maxHeartbeats 800000 in
theorem markDX (lo hi : Nat) (v : Value) (xss : List (List Int)) (w : World) (ho : OwnX w 27 lo hi v xss) (htot : tot xss ≤ 1048576) :
    Calls Try.prog 35 #[v, .int .i64 1] w fun e w' => e = .returned (.int .i64 ((mkTo xss xss.length : Nat) : Int)) ∧ Kept lo hi w w' ∧ RVR w' v (mkRows xss) := by
  obtain ⟨g, vs, rfl, hg1, hg2, hB, hlv, bs, hO, hdis⟩ := ho
  have Hdis := hide hdis
  have Hrow : Hid (∀ k, k < xss.length → (xss.getD k []).length ≤ 1048576) := hide fun k hk => Nat.le_trans (tot_row hk) htot
  have Hle : Hid (∀ k, k ≤ xss.length → mkTo xss k ≤ 1048577) := hide fun k hk => by have := mkTo_le xss k; have := totTo_mono xss xss.length k hk; unfold tot at htot; omega
  have Hst : Hid (∀ k, mkTo xss (k + 1) = mkTo xss k + (xss.getD k []).length) := hide fun k => rfl
  have Hmk : Hid (∀ k, k < xss.length → (mkRows xss).getD k [] = marks (mkTo xss k) (xss.getD k []).length) := hide fun k hk => mkRows_get xss hk
  have Hml := hide (mkRows_len xss)
  have htl := tot_len xss
  have hlx : xss.length ≤ 1048576 := by omega
  have HO := hide hO
  have Hlv := hide hlv
  clear hO hlv htl htot hdis
  generalize hN : xss.length = n at *
  generalize mkRows xss = mks at *
  clear hN
  go_enter Try.func35, Try.ntmps35
  go_wp2
  go_loopw [1, 5] (fun m i wr => ∃ k : Nat, k ≤ n ∧ i = .int .i64 k ∧ m = .int .i64 ((mkTo xss k : Nat) : Int) ∧ Bk wr g 27 vs ∧ Hid (∀ j, k ≤ j → j < n → Own wr (bs j) (bs j + 1) (vs.getD j (.slice none 0 0)) (xss.getD j [])) ∧ Hid (∀ j, j < k → Own wr (bs j) (bs j + 1) (vs.getD j (.slice none 0 0)) (mks.getD j [])) ∧ Hid (Kept lo hi w wr)) (fun _ i _ => n - (intOf i).toNat)
  case atStart => exact ⟨0, Nat.zero_le _, rfl, rfl, hB, hide fun j _ hj => (HO.out j hj).1, hide fun j hj => by omega, hide (Kept.refl _ _ _)⟩
  case round =>
    obtain ⟨k, hk, rfl, rfl, hBk, hfa, hma, hkept⟩ := hrel
    by_cases hlt : k < n
    · have hOk := hfa.out k (Nat.le_refl _) hlt
      obtain ⟨A5, c5, hv5, -, -, -, -⟩ := hOk.form
      have hcell : wr.cell? ⟨g, k, none⟩ = some (.slice A5 (xss.getD k []).length c5) := by
        rw [hBk.cell, ← hv5]
        simp [List.getD, show k < vs.length from by rw [Hlv.out]; exact hlt]
      have hle := Hle.out k hk
      have hrow := Hrow.out k hlt
      have HM := Lib.hid (markV _ _ _ _ ((mkTo xss k : Nat) : Int) (mkTo xss k) wr rfl hOk hrow (by omega))
      rw [hv5] at HM
      have Hs := hide (Hst.out k)
      have hOwn := hide hOk
      have Hv5 := hide hv5
      have Hmk' := hide (Hmk.out k hlt)
      generalize mkTo xss k = m at *
      generalize (xss.getD k []).length = len at *
      have hgk : bs k ≠ g := (HO.out k hlt).2.2.2
      have hgl : lo ≤ bs k := (HO.out k hlt).2.1
      have hgh : bs k < hi := (HO.out k hlt).2.2.1
      clear hv5 hOk
      go_wp2_with (go_at_call 40; refine HM.out.mono ?_; rintro e w2 ⟨rfl, hom, hgr⟩)
      have hrange : ∀ j, (Value.slice A5 len c5).ownBlock = some j → j = bs k := fun j hj => by
        rw [← Hv5.out] at hj
        have h1 := (hOwn.out.1.lt j hj).1
        have h2 := hOwn.out.2 j hj
        omega
      go_roundw
      case measure => simp [intOf]; omega
      case rel =>
        refine ⟨k + 1, by omega, by go_num, by rw [Hs.out]; go_num, hBk.grown hgr (fun e => hgk (hrange g e.symm).symm), hide fun j hj1 hj2 => ?_, hide fun j hj => ?_, hide (hkept.out.trans (Kept.grown hgr (fun j hj => by have := hrange j hj; omega)))⟩
        · refine (hfa.out j (by omega) hj2).grown hgr (fun j' hj' => ?_)
          have h1 := hrange j' hj'
          have h2 := Hdis.out k j hlt hj2 (by omega)
          omega
        · by_cases e : j = k
          · subst e
            rw [Hmk'.out, Hv5.out]
            exact hom
          · refine (hma.out j (by omega)).grown hgr (fun j' hj' => ?_)
            have h1 := hrange j' hj'
            have h2 := Hdis.out k j hlt (by omega) (fun e' => e e'.symm)
            omega
    · have hkn : k = n := by omega
      subst hkn
      have hr := hBk.rd
      rw [Hlv.out] at hr
      have hrv : RVR wr (.slice (some ⟨g, 0, none⟩) k k) mks := by
        refine RVR.mk ⟨vs, Hml.out, hr, fun j v hj => ?_⟩ (Nat.le_refl _)
        have hlt : j < vs.length := (List.getElem?_eq_some_iff.1 hj).1
        have h := hma.out j (by rw [← Hlv.out]; exact hlt)
        rw [show vs.getD j (.slice none 0 0) = v by simp [List.getD, hj]] at h
        exact h.rv
      have HRV := hide hrv
      clear hr hrv
      go_wp2
      go_ret
      exact ⟨rfl, hkept.out, HRV.out⟩

set_option maxHeartbeats 800000 in
theorem heldDX (v : Value) (xss : List (List Int)) (w : World) (hv : RVR w v (mkRows xss)) (htot : tot xss ≤ 1048576) :
    Calls Try.prog 36 #[v, .int .i64 1] w fun e w' => e = .returned (.int .i64 ((mkTo xss xss.length : Nat) : Int)) ∧ Below w.heap.size w w' := by
  obtain ⟨A, c, rfl, hr, -⟩ := hv
  rw [mkRows_len] at *
  have Hrow : Hid (∀ k, k < xss.length → (xss.getD k []).length ≤ 1048576) := hide fun k hk => Nat.le_trans (tot_row hk) htot
  have Hle : Hid (∀ k, k ≤ xss.length → mkTo xss k ≤ 1048577) := hide fun k hk => by have := mkTo_le xss k; have := totTo_mono xss xss.length k hk; unfold tot at htot; omega
  have Hst : Hid (∀ k, mkTo xss (k + 1) = mkTo xss k + (xss.getD k []).length) := hide fun k => rfl
  have Hmk : Hid (∀ k, k < xss.length → (mkRows xss).getD k [] = marks (mkTo xss k) (xss.getD k []).length) := hide fun k hk => mkRows_get xss hk
  have htl := tot_len xss
  have hlx : xss.length ≤ 1048576 := by omega
  clear htl htot
  generalize hN : xss.length = n at *
  generalize mkRows xss = mks at *
  clear hN
  go_enter Try.func36, Try.ntmps36
  go_wp2
  go_loopw [1, 5] (fun m i wr => ∃ k : Nat, k ≤ n ∧ i = .int .i64 k ∧ m = .int .i64 ((mkTo xss k : Nat) : Int) ∧ Below w.heap.size w wr) (fun _ i _ => n - (intOf i).toNat)
  case atStart => exact ⟨0, Nat.zero_le _, rfl, rfl, Below.refl _ _⟩
  case round =>
    obtain ⟨k, hk, rfl, rfl, hb⟩ := hrel
    by_cases hlt : k < n
    · obtain ⟨ad, B, d, rfl, hbl, hcell, hrr, hd⟩ := (hr.below hb).at hlt
      rw [Hmk.out k hlt] at hcell hrr hd
      have hle := Hle.out k hk
      have hrow := Hrow.out k hlt
      have hv := RV.mk hrr hd
      have Hs := hide (Hst.out k)
      have HM := Lib.hid (heldV _ _ ((mkTo xss k : Nat) : Int) (mkTo xss k) wr rfl hv hrow (by omega))
      rw [marks_len] at *
      clear hrr hv
      generalize mkTo xss k = m at *
      generalize (xss.getD k []).length = len at *
      have f0 : ¬ ((m : Int) + (len : Int) < 0) := by omega
      go_wp2_with (go_at_call 41; refine HM.out.mono ?_; rintro e w2 ⟨rfl, rfl⟩)
      go_roundw
      case measure => simp [intOf]; omega
      case rel => exact ⟨k + 1, by omega, by go_num, by rw [Hs.out]; go_num, hb⟩
    · have hkn : k = n := by omega
      subst hkn
      go_wp2
      go_ret
      exact ⟨rfl, hb⟩
end Go.Proofs.Ythpboedpoipkcaa
