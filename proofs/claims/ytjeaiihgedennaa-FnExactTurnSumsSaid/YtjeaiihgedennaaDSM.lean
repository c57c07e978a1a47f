/- Contracts of the laws' helpers on []Die: size, copy, compare, mark. Conditions: what is stated. -/
import Derived.Test.YtjeaiihgedennaaDieMarkM
import Derived.Deep.RegionHeld3
import Derived.Laws.MakeOwn
namespace Go.Proofs.Ytjeaiihgedennaa
open Go.ChangeShapes Go.WideShapes Go.ChangeAt Go.RowKit

/-- The slice value v reads, in w, as the rows xss. -/
def RVR (w : World) (v : Value) (xss : List (List Int)) : Prop := ∃ A c, v = .slice A xss.length c ∧ RdR w A xss.length xss ∧ xss.length ≤ c
theorem RVR.below {w w' : World} {v : Value} {xss : List (List Int)} (h : RVR w v xss) (hb : Below w.heap.size w w') : RVR w' v xss := by
  obtain ⟨A, c, e, hr, hc⟩ := h
  exact ⟨A, c, e, hr.below hb, hc⟩
theorem RVR.drewN {w : World} {v : Value} {xss : List (List Int)} (h : RVR w v xss) (q : Nat) : RVR (w.drewN q) v xss := h
theorem RVR.mk {w : World} {A : Option Addr} {n c : Nat} {xss : List (List Int)} (hr : RdR w A n xss) (hc : n ≤ c) : RVR w (.slice A n c) xss := by
  have := hr.len
  subst this
  exact ⟨A, c, rfl, hr, hc⟩
/-- A slice of rows that the call owns: its block and its rows lie from lo on and below hi. -/
def OwnV (w : World) (t : TypeId) (lo hi : Nat) (v : Value) (xss : List (List Int)) : Prop :=
  ∃ g vs, v = .slice (some ⟨g, 0, none⟩) xss.length xss.length ∧ lo ≤ g ∧ g < hi ∧ Bk w g t vs ∧ OwnR w (g + 1) hi vs xss
section
variable {w w' : World} {t : TypeId} {lo hi : Nat} {v : Value} {xss : List (List Int)}
theorem OwnV.rv (h : OwnV w t lo hi v xss) : RVR w v xss := by
  obtain ⟨g, vs, rfl, h1, h2, hB, hO⟩ := h
  have hr := hB.rd
  rw [hO.1] at hr
  exact ⟨_, _, rfl, hO.rd rfl hr, Nat.le_refl _⟩
theorem OwnV.below (h : OwnV w t lo hi v xss) (hb : Below w.heap.size w w') : OwnV w' t lo hi v xss := by
  obtain ⟨g, vs, rfl, h1, h2, hB, hO⟩ := h
  exact ⟨g, vs, rfl, h1, h2, hB.below hb hB.lt, hO.below hb⟩
end

def szRes (xss : List (List Int)) : Int := if tot xss ≤ 1048576 then 1048576 - (tot xss : Int) else -1
theorem szRes_bad {xss : List (List Int)} {k : Nat} (hk : k ≤ xss.length) (h : 1048576 < totTo xss k) : szRes xss = -1 := by
  have := totTo_mono xss xss.length k hk
  rw [szRes, if_neg (by unfold tot; omega)]
theorem szRes_ok {xss : List (List Int)} (h : totTo xss xss.length ≤ 1048576) : szRes xss = 1048576 - (totTo xss xss.length : Int) := by
  rw [szRes, if_pos (show tot xss ≤ 1048576 from h)]; rfl

set_option maxHeartbeats 800000 in
theorem szDS (A : Option Addr) (n c : Nat) (xss : List (List Int)) (w : World) (hr : RdR w A n xss) (hn : n ≤ 9223372036854775807) (hrow : ∀ k, k < n → (xss.getD k []).length ≤ 9223372036854775807) :
    Calls Try.prog 15 #[.slice A n c, .int .i64 1048576] w fun e w' => e = .returned (.int .i64 (szRes xss)) ∧ Below w.heap.size w w' := by
  have hl := hr.len
  have Hbad : Hid (∀ k, k ≤ n → 1048576 < totTo xss k → szRes xss = -1) := hide fun k hk h => szRes_bad (by omega) h
  have Hok : Hid (totTo xss n ≤ 1048576 → szRes xss = 1048576 - (totTo xss n : Int)) := hide (by rw [← hl]; exact szRes_ok)
  have H0 : Hid (totTo xss 0 = n) := hide (by rw [totTo, hl])
  have Hst : Hid (∀ k, totTo xss (k + 1) = totTo xss k + (xss.getD k []).length) := hide fun k => rfl
  have Hrow := hide hrow
  generalize szRes xss = R at *
  clear hl hrow
  by_cases h0 : 1048576 < n
  · have HR := hide (Hbad.out 0 (Nat.zero_le _) (by rw [H0.out]; exact h0))
    go_enter Try.func15, Try.ntmps15
    go_wp2
    go_ret
    exact ⟨ret_int HR.out.symm, Below.refl _ _⟩
  · go_enter Try.func15, Try.ntmps15
    go_wp2
    go_loopw [1, 5] (fun l i wr => ∃ k m : Nat, k ≤ n ∧ i = .int .i64 k ∧ Hid (totTo xss k + m = 1048576) ∧ m ≤ 1048576 ∧ l = .int .i64 (m : Int) ∧ Below w.heap.size w wr) (fun _ i _ => n - (intOf i).toNat)
    case atStart => exact ⟨0, 1048576 - n, Nat.zero_le _, rfl, hide (by rw [H0.out]; omega), by omega, by congr 1; omega, Below.refl _ _⟩
    case round =>
      obtain ⟨k, m, hk, rfl, ht, hm, rfl, hb⟩ := hrel
      by_cases hlt : k < n
      · obtain ⟨ad, B, d, rfl, hbl, hcell, hrr, hd⟩ := (hr.below hb).at hlt
        have hrow := Hrow.out k hlt
        have Hs := hide (Hst.out k)
        generalize (xss.getD k []).length = len at *
        have HS := Lib.hid (szD B len d m wr hrow hm)
        by_cases hml : m < len
        · rw [if_pos hml] at HS
          have HR := hide (Hbad.out (k + 1) (by omega) (by rw [Hs.out]; have := ht.out; omega))
          go_wp2_with (go_at_call 36; refine HS.out.mono ?_; rintro e w2 ⟨rfl, hb2⟩)
          go_ret
          exact ⟨ret_int HR.out.symm, hb.trans (hb2.mono hb.size)⟩
        · rw [if_neg hml] at HS
          have e1 : ((m : Int) - (len : Int)) = ((m - len : Nat) : Int) := by omega
          rw [e1] at HS
          have Ht2 : Hid (totTo xss (k + 1) + (m - len) = 1048576) := hide (by rw [Hs.out]; have := ht.out; omega)
          have hm2 : m - len ≤ 1048576 := by omega
          generalize m - len = m2 at *
          clear e1
          go_wp2_with (go_at_call 36; refine HS.out.mono ?_; rintro e w2 ⟨rfl, hb2⟩)
          go_roundw
          case measure => simp [intOf]; omega
          case rel => exact ⟨k + 1, m2, by omega, by go_num, Ht2, hm2, rfl, hb.trans (hb2.mono hb.size)⟩
      · have hkn : k = n := by omega
        subst hkn
        have HR := hide (Hok.out (by have := ht.out; omega))
        go_wp2
        go_ret
        exact ⟨ret_int (by rw [HR.out]; have := ht.out; omega), hb⟩

theorem info_die : (Try.prog.info? 62).map (fun i => (i.zero, i.size, i.bytes)) = some (some (.agg #[.slice none 0 0]), 1, 24) := by kernel_rfl

set_option maxHeartbeats 800000 in
theorem toDS (A : Option Addr) (n c : Nat) (xss : List (List Int)) (w : World) (hr : RdR w A n xss) (hn : n ≤ 1048576) (hrow : ∀ k, k < n → (xss.getD k []).length ≤ 1048576) :
    Calls Try.prog 17 #[.slice A n c] w fun e w' => ∃ r, e = .returned r ∧ OwnV w' 62 w.heap.size w'.heap.size r xss ∧ Below w.heap.size w w' := by
  obtain ⟨i0, hi, hz0, hz1, hz2⟩ := info_parts info_die
  have Hlen := hide hr.len
  have Hrow := hide hrow
  clear hrow
  go_enter Try.func17, Try.ntmps17
  go_wp2_with (at_make; refine wpList_make_full _ rfl _ _ 38 rfl w.heap.size 62 i0 (.agg #[.slice none 0 0]) 1 Try.underlying38 hi hz0 hz1 _ _ _ _ n rfl rfl rfl rfl ?b2 ?b3 (Nat.le_refl _) ?_)
  case b2 => rw [hz2]; omega
  case b3 => unfold maxLen; omega
  intro w0 hown0 hgrow0
  have hB0 := Bk.of_grown hown0
  have hb0 : Below w.heap.size w w0 := (Below.refl _ _).grown hgrow0 (Nat.le_refl _) (fun k h => by cases h)
  clear hown0 hgrow0
  go_wp2
  go_loopw [4] (fun i wr => ∃ (k : Nat) (vs : List Value) (bs : Nat → Nat), k ≤ n ∧ i = .int .i64 k ∧ Bk wr w.heap.size 62 vs ∧ Hid (vs.length = n) ∧ Hid (bs 0 = w.heap.size + 1) ∧ Hid (bs k ≤ wr.heap.size) ∧ Hid (∀ j, j < k → bs j ≤ bs (j + 1) ∧ Own wr (bs j) (bs (j + 1)) (vs.getD j (.slice none 0 0)) (xss.getD j [])) ∧ Below w.heap.size w wr)
    (fun i _ => n - (intOf i).toNat)
  case atStart => exact ⟨0, _, fun _ => w.heap.size + 1, Nat.zero_le _, rfl, hB0, hide (by simp), hide rfl, hide hB0.lt, hide fun j hj => absurd hj (by omega), hb0⟩
  case round =>
    clear hB0 hb0
    obtain ⟨k, vs, bs, hk, rfl, hB, hlv, hbs0, hbsk, hfa, hb⟩ := hrel
    by_cases hlt : k < n
    · obtain ⟨ad, B, d, rfl, hbl, hcell, hrr, hd⟩ := (hr.below hb).at hlt
      have hrow := Hrow.out k hlt
      have Hto := Lib.hid (toD _ _ wr (RV.mk hrr hd) hrow)
      have hgl := hB.lt
      have Hx := hide (show (xss.getD k []) = xss.getD k [] from rfl)
      go_wp2_with (go_at_call 43; refine Hto.out.mono ?_; rintro e w2 ⟨r, rfl, hO, hb2⟩; have hB2 := hB.below hb2 hB.lt; have d1 : w2.cell? ⟨w.heap.size, k, none⟩ = some (vs[k]'(by rw [hlv.out]; exact hlt)) := (by rw [hB2.cell]; exact List.getElem?_eq_getElem _); have f1 := hB2.free k; obtain ⟨A5, c5, hv5, -, -, -, -⟩ := hO.form; subst hv5)
      go_roundw
      case measure => simp [intOf]; omega
      case rel =>
        have hlv2 := hlv.out
        refine ⟨k + 1, vs.set k (.slice A5 (xss.getD k []).length c5), fun j => if j ≤ k then bs j else w2.heap.size, by omega, by go_num, hB2.set k _, hide (by simp [hlv2]), hide (by simp [hbs0.out]), hide (by dsimp only; rw [if_neg (by omega), set_size]; exact Nat.le_refl _), hide fun j hj => ?_, (hb.trans (hb2.mono hb.size)).setCell (p := ⟨w.heap.size, k, none⟩) (Nat.le_refl _) _⟩
        dsimp only
        by_cases e : j = k
        · subst e
          rw [if_pos (Nat.le_refl _), if_neg (by omega)]
          have h1 := hbsk.out
          refine ⟨Nat.le_trans h1 hb2.size, ?_⟩
          have hOk := (hO.lo h1).setCell (p := ⟨w.heap.size, j, none⟩) (by
            show w.heap.size < bs j
            have := mono_of (fun i hi => (hfa.out i hi).1) j (Nat.le_refl _) 0 (Nat.zero_le _)
            rw [hbs0.out] at this
            omega) (.slice A5 (xss.getD j []).length c5)
          rw [show (vs.set j (.slice A5 (xss.getD j []).length c5)).getD j (.slice none 0 0) = .slice A5 (xss.getD j []).length c5 from by simp [List.getD, hlv2, hlt]]
          exact hOk
        · rw [if_pos (by omega), if_pos (by omega)]
          obtain ⟨h1, h2⟩ := hfa.out j (by omega)
          refine ⟨h1, ?_⟩
          rw [show (vs.set k (.slice A5 (xss.getD k []).length c5)).getD j (.slice none 0 0) = vs.getD j (.slice none 0 0) from by simp [List.getD, List.getElem?_set, Ne.symm e]]
          refine (h2.below hb2).setCell (p := ⟨w.heap.size, k, none⟩) ?_ _
          show w.heap.size < bs j
          have := mono_of (fun i hi => (hfa.out i hi).1) j (by omega) 0 (Nat.zero_le _)
          rw [hbs0.out] at this
          omega
    · have hkn : k = n := by omega
      subst hkn
      have hfa2 := hfa.out
      have hO : OwnR wr (w.heap.size + 1) wr.heap.size vs xss := ⟨by rw [hlv.out, Hlen.out], bs, by rw [hbs0.out]; exact Nat.le_refl _, by rw [Hlen.out]; exact hbsk.out, fun j hj => hfa2 j (by rw [Hlen.out] at hj; exact hj)⟩
      have HO := hide hO
      have HB := hide hB
      have hlt2 := hB.lt
      clear hO hfa2 hB
      go_wp2
      go_ret
      exact ⟨.slice (some ⟨w.heap.size, 0, none⟩) k k, rfl, ⟨w.heap.size, vs, by rw [Hlen.out], Nat.le_refl _, hlt2, HB.out, HO.out⟩, hb⟩

theorem kept_cell {b i : Nat} {w w' : World} {B : Nat} {v : Value} (h : Below B w w') (hc : w.cell? ⟨b, i, none⟩ = some v) (hb : b < B) : w'.cell? ⟨b, i, none⟩ = some v := (h.cell (p := ⟨b, i, none⟩) hb).trans hc
set_option maxHeartbeats 1600000 in
theorem eqDS (A B : Option Addr) (n c d : Nat) (xss : List (List Int)) (w : World) (hr : RdR w A n xss) (hr2 : RdR w B n xss) (hn : n ≤ 1048576) (hrow : ∀ k, k < n → (xss.getD k []).length ≤ 1048576) :
    Calls Try.prog 20 #[.slice A n c, .slice B n d] w fun e w' => e = .returned (.bool true) ∧ Below w.heap.size w w' := by
  have Hrow := hide hrow
  clear hrow
  go_enter Try.func20, Try.ntmps20
  go_wp2
  go_loopw [5] (fun i wr => ∃ k : Nat, k ≤ n ∧ i = .int .i64 k ∧ Below w.heap.size w wr) (fun i _ => n - (intOf i).toNat)
  case atStart => exact ⟨0, Nat.zero_le _, rfl, Below.refl _ _⟩
  case round =>
    obtain ⟨k, hk, rfl, hb⟩ := hrel
    by_cases hlt : k < n
    · obtain ⟨ad, B1, d1, rfl, hbl, hc, hrr, hd⟩ := (hr.below hb).at hlt
      obtain ⟨ad2, B2, d2, rfl, hbl2, hc2, hrr2, hd2⟩ := (hr2.below hb).at hlt
      have hq1 : (ad.add k).block < wr.heap.size := by rw [add_block]; exact hbl
      have hq2 : (ad2.add k).block < wr.heap.size := by rw [add_block]; exact hbl2
      have hrow := Hrow.out k hlt
      have f1 : (0 : Int) ≤ (k : Int) := by omega
      have f2 : (k : Int) < (n : Int) := by omega
      have HRV1 := hide ((RV.mk hrr hd).drewN 1)
      have HRV2 := hide ((RV.mk hrr2 hd2).drewN 1)
      have He := Lib.hid (fun v u W h1 h2 => eqD v u (xss.getD k []) W h1 h2 hrow)
      have HB := hide (below_drewN hb 1)
      clear hrr hrr2 hb
      generalize (xss.getD k []).length = len at *
      go_wp2_with fail
      go_region_held3 (fun w' => w'.cell? (ad.add k) = some (.slice B1 len d1) ∧ w'.cell? (ad2.add k) = some (.slice B2 len d2))
        (first | exact ⟨hc, hc2⟩ | go_keep | (go_split_ands; refine ⟨?_, ?_⟩ <;> (rw [hbk.cell (by first | exact hq1 | exact hq2)]; assumption)))
        ((go_at_call 50; refine (He.out _ _ _ HRV1.out HRV2.out).mono ?_; rintro e wb ⟨rfl, hbk⟩))
      all_goals go_wp2
      all_goals go_roundw
      case rel => exact ⟨k + 1, by omega, by go_num, HB.out.trans (hbk.mono HB.out.size)⟩
      case measure => simp [intOf]; omega
    · have hkn : k = n := by omega
      subst hkn
      go_wp2
      go_ret
      exact ⟨rfl, hb⟩

/-- the mark that comes next behind the first k rows -/
def mkTo (xss : List (List Int)) : Nat → Nat
  | 0 => 1
  | k + 1 => mkTo xss k + (xss.getD k []).length
theorem mkTo_le (xss : List (List Int)) (k : Nat) : mkTo xss k ≤ 1 + totTo xss k := by
  induction k with
  | zero => simp [mkTo]
  | succ k ih => simp only [mkTo, totTo]; omega

set_option maxHeartbeats 800000 in
theorem markDS (lo hi : Nat) (v : Value) (xss : List (List Int)) (w : World) (ho : OwnV w 62 lo hi v xss) (htot : tot xss ≤ 1048576) :
    Calls Try.prog 21 #[v, .int .i64 1] w fun e w' => e = .returned (.int .i64 ((mkTo xss xss.length : Nat) : Int)) ∧ Kept lo hi w w' := by
  obtain ⟨g, vs, rfl, hg1, hg2, hB, hlv, bs, hb0, hb1, hO⟩ := ho
  have hmono := mono_of (fun k hk => (hO k hk).1)
  have Hmono := hide hmono
  have Hrow : Hid (∀ k, k < xss.length → (xss.getD k []).length ≤ 1048576) := hide fun k hk => Nat.le_trans (tot_row hk) htot
  have Hle : Hid (∀ k, k ≤ xss.length → mkTo xss k ≤ 1048577) := hide fun k hk => by have := mkTo_le xss k; have := totTo_mono xss xss.length k hk; unfold tot at htot; omega
  have Hst : Hid (∀ k, mkTo xss (k + 1) = mkTo xss k + (xss.getD k []).length) := hide fun k => rfl
  have htl := tot_len xss
  have hlx : xss.length ≤ 1048576 := by omega
  have HO := hide hO
  have Hlv := hide hlv
  clear hmono hO hlv htl htot
  generalize hN : xss.length = n at *
  clear hN
  go_enter Try.func21, Try.ntmps21
  go_wp2
  go_loopw [1, 5] (fun m i wr => ∃ k : Nat, k ≤ n ∧ i = .int .i64 k ∧ m = .int .i64 ((mkTo xss k : Nat) : Int) ∧ Bk wr g 62 vs ∧ Hid (∀ j, k ≤ j → j < n → Own wr (bs j) (bs (j + 1)) (vs.getD j (.slice none 0 0)) (xss.getD j [])) ∧ Hid (Kept lo hi w wr)) (fun _ i _ => n - (intOf i).toNat)
  case atStart => exact ⟨0, Nat.zero_le _, rfl, rfl, hB, hide fun j _ hj => (HO.out j hj).2, hide (Kept.refl _ _ _)⟩
  case round =>
    obtain ⟨k, hk, rfl, rfl, hBk, hfa, hkept⟩ := hrel
    by_cases hlt : k < n
    · have hOk := hfa.out k (Nat.le_refl _) hlt
      obtain ⟨A5, c5, hv5, -, -, -, -⟩ := hOk.form
      have hcell : wr.cell? ⟨g, k, none⟩ = some (.slice A5 (xss.getD k []).length c5) := by
        rw [hBk.cell, ← hv5]
        simp [List.getD, show k < vs.length from by rw [Hlv.out]; exact hlt]
      have hle := Hle.out k hk
      have hrow := Hrow.out k hlt
      have HM := Lib.hid (markV _ _ _ _ ((mkTo xss k : Nat) : Int) (mkTo xss k) wr rfl hOk hrow (by omega))
      rw [hv5] at HM
      have Hs := hide (Hst.out k)
      have hOwn := hide hOk
      have Hv5 := hide hv5
      generalize mkTo xss k = m at *
      generalize (xss.getD k []).length = len at *
      have hgk : g < bs k := by have := Hmono.out k (by omega) 0 (Nat.zero_le _); omega
      have hkh : bs (k + 1) ≤ hi := by have := Hmono.out n (Nat.le_refl _) (k + 1) (by omega); omega
      clear hv5 hOk
      go_wp2_with (go_at_call 51; refine HM.out.mono ?_; rintro e w2 ⟨rfl, -, hgr⟩)
      have hrange : ∀ j, (Value.slice A5 len c5).ownBlock = some j → bs k ≤ j ∧ j < bs (k + 1) := fun j hj => by
        rw [← Hv5.out] at hj
        exact ⟨(hOwn.out.1.lt j hj).1, hOwn.out.2 j hj⟩
      go_roundw
      case measure => simp [intOf]; omega
      case rel =>
        refine ⟨k + 1, by omega, by go_num, by rw [Hs.out]; go_num, hBk.grown hgr (fun e => by have := hrange g e.symm; omega), hide fun j hj1 hj2 => ?_, hide (hkept.out.trans (Kept.grown hgr (fun j hj => by have := hrange j hj; omega)))⟩
        refine (hfa.out j (by omega) hj2).grown hgr (fun j' hj' => ?_)
        have h1 := hrange j' hj'
        have h2 := Hmono.out j (by omega) (k + 1) hj1
        omega
    · have hkn : k = n := by omega
      subst hkn
      go_wp2
      go_ret
      exact ⟨rfl, hkept.out⟩

theorem toRV (v : Value) (xss : List (List Int)) (w : World) (hv : RVR w v xss) (ht : tot xss ≤ 1048576) :
    Calls Try.prog 17 #[v] w fun e w' => ∃ r, e = .returned r ∧ OwnV w' 62 w.heap.size w'.heap.size r xss ∧ Below w.heap.size w w' := by
  obtain ⟨A, c, rfl, hr, _⟩ := hv
  exact toDS A _ c xss w hr (Nat.le_trans (tot_len xss) ht) (fun k hk => Nat.le_trans (tot_row hk) ht)
theorem eqRV (v u : Value) (xss : List (List Int)) (w : World) (hv : RVR w v xss) (hu : RVR w u xss) (ht : tot xss ≤ 1048576) :
    Calls Try.prog 20 #[v, u] w fun e w' => e = .returned (.bool true) ∧ Below w.heap.size w w' := by
  obtain ⟨A, c, rfl, hr, _⟩ := hv
  obtain ⟨B, d, rfl, hr2, _⟩ := hu
  exact (eqDS A B _ c d xss w hr hr2 (Nat.le_trans (tot_len xss) ht) (fun k hk => Nat.le_trans (tot_row hk) ht)).mono fun e w' ⟨h1, h2⟩ => ⟨h1, h2⟩
theorem markRV (lo hi : Nat) (v : Value) (xss : List (List Int)) (w : World) (ho : OwnV w 62 lo hi v xss) (ht : tot xss ≤ 1048576) :
    Calls Try.prog 21 #[v, .int .i64 1] w fun e w' => e = .returned (.int .i64 ((mkTo xss xss.length : Nat) : Int)) ∧ Kept lo hi w w' := markDS lo hi v xss w ho ht
end Go.Proofs.Ytjeaiihgedennaa
