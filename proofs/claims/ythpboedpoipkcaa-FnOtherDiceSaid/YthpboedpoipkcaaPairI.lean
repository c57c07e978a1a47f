/- The walk of impl.OtherPair. Conditions: sizes at most 2^20. -/
import Derived.Test.YthpboedpoipkcaaPairP
namespace Go.Proofs.Ythpboedpoipkcaa
open Go.ChangeShapes Go.WideShapes Go.ChangeAt Go.RowKit

theorem two_rows {w : World} {A : Option Addr} {n c : Nat} {d : List Int} (h : RV w (.slice A n c) d) :
    RdR (w.alloc (.cells #[.slice A n c, .slice A n c] 27)) (some ⟨w.heap.size, 0, none⟩) 2 [d, d] := by
  have hb := (Below.refl w.heap.size w).alloc (Nat.le_refl _) (.cells #[.slice A n c, .slice A n c] 27)
  refine ⟨[.slice A n c, .slice A n c], rfl, (Bk.new w 27 [.slice A n c, .slice A n c]).rd, fun k v hk => ?_⟩
  match k, hk with
  | 0, hk => injection hk with hk; subst hk; exact h.below hb
  | 1, hk => injection hk with hk; subst hk; exact h.below hb
  | k + 2, hk => simp at hk

theorem pairvs_form {w : World} {lo : Nat} {v1 v2 : Value} {s : Option (List Int × List Int)} (h : PairVs w lo v1 v2 s) : ∃ A1 n1 c1 A2 n2 c2, v1 = .slice A1 n1 c1 ∧ v2 = .slice A2 n2 c2 := by
  cases s with
  | none => exact ⟨_, _, _, _, _, _, h.1, h.2⟩
  | some p =>
    obtain ⟨A1, c1, e1, -⟩ := h.1.own.form
    obtain ⟨A2, c2, e2, -⟩ := h.2.1.own.form
    exact ⟨_, _, _, _, _, _, e1, e2⟩
theorem pairvs_lo {w : World} {b lo : Nat} {v1 v2 u1 u2 : Value} {s : Option (List Int × List Int)} (h : PairVs w lo v1 v2 s) (hb : b + 1 + 1 + 1 ≤ lo) : PairVs ((w.setCell ⟨b + 1, 0, none⟩ u1).setCell ⟨b + 1 + 1, 0, none⟩ u2).drew b v1 v2 s := by
  cases s with
  | none => exact h
  | some p =>
    obtain ⟨h1, h2, h3⟩ := h
    exact ⟨(((h1.own.setCell (p := ⟨b + 1, 0, none⟩) (by show b + 1 < lo; omega) u1).setCell (p := ⟨b + 1 + 1, 0, none⟩) (by show b + 1 + 1 < lo; omega) u2).lo (by omega)).l, (((h2.own.setCell (p := ⟨b + 1, 0, none⟩) (by show b + 1 < lo; omega) u1).setCell (p := ⟨b + 1 + 1, 0, none⟩) (by show b + 1 + 1 < lo; omega) u2).lo (by omega)).l, h3⟩

set_option maxRecDepth 100000 in
set_option maxHeartbeats 3200000 in
theorem iOther0 (A : Option Addr) (n c : Nat) (d : List Int) (w : World) (hr : Rd w A n (iv d)) (hc : n ≤ c) (hn : n ≤ 1048576) :
    Calls Try.prog 47 #[.agg #[.slice A n c]] w fun e w' => ∃ r1 r2, e = .returned (.tuple #[.agg #[r1], .agg #[r2], .bool (ROther d).isSome]) ∧ Below w.heap.size w w' ∧ PairVs w' w.heap.size r1 r2 (ROther d) := by
  have hl := hr.len
  have hb3 : Below w.heap.size w (((w.alloc (.cells #[.slice A n c] 27)).alloc (.cells #[.slice none 0 0] 27)).alloc (.cells #[.slice none 0 0] 27)) := (((Below.refl _ _).alloc (Nat.le_refl _) _).alloc (by simp) _).alloc (by simp; omega) _
  have B1 : Bk (((w.alloc (.cells #[.slice A n c] 27)).alloc (.cells #[.slice none 0 0] 27)).alloc (.cells #[.slice none 0 0] 27)) w.heap.size 27 [.slice A n c] := ((Bk.new w 27 [.slice A n c]).alloc _).alloc _
  obtain ⟨B2, B3⟩ := three w (.cells #[.slice A n c] 27) 27 (.slice none 0 0) (.slice none 0 0)
  have hs3 : (((w.alloc (.cells #[.slice A n c] 27)).alloc (.cells #[.slice none 0 0] 27)).alloc (.cells #[.slice none 0 0] 27)).heap.size = w.heap.size + 1 + 1 + 1 := by simp
  have hrv : RV w (.slice A n c) d := RV.mk hr hc
  have Hl := hide hl
  have Hr := hide hr
  have HRV := hide hrv
  clear hrv hr
  go_enter Try.func47, Try.ntmps47
  go_upto_region 1 with fail
  generalize ((w.alloc (.cells #[.slice A n c] 27)).alloc (.cells #[.slice none 0 0] 27)).alloc (.cells #[.slice none 0 0] 27) = w3 at *
  have k1 : w3.cell? ⟨w.heap.size, 0, none⟩ = some (.slice A n c) := (B1.cell 0).trans rfl
  have HV := Lib.hid (iValidD (.slice A n c) d w3 (HRV.out.below hb3) (by omega))
  cases hd : dieB d with
  | false =>
    rw [hd] at HV
    have HRO : Hid (ROther d = none) := hide (ROther_no (by unfold okPair; rw [hd]; rfl))
    go_upto_region 2 with (go_at_call 18; refine HV.out.mono ?_; rintro e w4 ⟨rfl, hb4⟩)
    have B2f := B2.below hb4 B2.lt
    have B3f := B3.below hb4 B3.lt
    have fr2 := B2f.free 0
    have fr3 := B3f.free 0
    have m2 : w4.cell? ⟨w.heap.size + 1, 0, none⟩ = some (.slice none 0 0) := (B2f.cell 0).trans rfl
    have m3 : w4.cell? ⟨w.heap.size + 1 + 1, 0, none⟩ = some (.slice none 0 0) := (B3f.cell 0).trans rfl
    go_wp2
    have cR1 : ((w4.setCell ⟨w.heap.size + 1, 0, none⟩ (.slice none 0 0)).setCell ⟨w.heap.size + 1 + 1, 0, none⟩ (.slice none 0 0)).cell? ⟨w.heap.size + 1, 0, none⟩ = some (.slice none 0 0) := (((B2f.set 0 (.slice none 0 0)).far (by show w.heap.size + 1 ≠ w.heap.size + 1 + 1; omega) _).cell 0).trans rfl
    have cR2 : ((w4.setCell ⟨w.heap.size + 1, 0, none⟩ (.slice none 0 0)).setCell ⟨w.heap.size + 1 + 1, 0, none⟩ (.slice none 0 0)).cell? ⟨w.heap.size + 1 + 1, 0, none⟩ = some (.slice none 0 0) := (((B3f.far (by show w.heap.size + 1 + 1 ≠ w.heap.size + 1; omega) _).set 0 (.slice none 0 0)).cell 0).trans rfl
    exact bodyPost_ret (v := .tuple #[.agg #[.slice none 0 0], .agg #[.slice none 0 0], .bool false]) (by simp [results, Try.results47, go_sem, cR1, cR2]) rfl ⟨_, _, by rw [HRO.out]; rfl, ((hb3.trans (hb4.mono hb3.size)).setCell (p := ⟨w.heap.size + 1, 0, none⟩) (by show w.heap.size ≤ w.heap.size + 1; omega) _).setCell (p := ⟨w.heap.size + 1 + 1, 0, none⟩) (by show w.heap.size ≤ w.heap.size + 1 + 1; omega) _, by rw [HRO.out]; exact ⟨rfl, rfl⟩⟩
  | true =>
    rw [hd] at HV
    obtain ⟨hn1, hn12⟩ := dieB_len hd
    rw [hl] at hn1 hn12
    by_cases h6 : 6 < n
    · have HRO : Hid (ROther d = none) := hide (ROther_no (by unfold okPair; rw [hl, decide_eq_false (by omega)]; simp))
      go_upto_region 2 with (go_at_call 18; refine HV.out.mono ?_; rintro e w4 ⟨rfl, hb4⟩; have c1 := bcell1 hb4 k1 (by omega))
      have B2f := B2.below hb4 B2.lt
      have B3f := B3.below hb4 B3.lt
      have fr2 := B2f.free 0
      have fr3 := B3f.free 0
      have m2 : w4.cell? ⟨w.heap.size + 1, 0, none⟩ = some (.slice none 0 0) := (B2f.cell 0).trans rfl
      have m3 : w4.cell? ⟨w.heap.size + 1 + 1, 0, none⟩ = some (.slice none 0 0) := (B3f.cell 0).trans rfl
      go_wp2
      have cR1 : ((w4.setCell ⟨w.heap.size + 1, 0, none⟩ (.slice none 0 0)).setCell ⟨w.heap.size + 1 + 1, 0, none⟩ (.slice none 0 0)).cell? ⟨w.heap.size + 1, 0, none⟩ = some (.slice none 0 0) := (((B2f.set 0 (.slice none 0 0)).far (by show w.heap.size + 1 ≠ w.heap.size + 1 + 1; omega) _).cell 0).trans rfl
      have cR2 : ((w4.setCell ⟨w.heap.size + 1, 0, none⟩ (.slice none 0 0)).setCell ⟨w.heap.size + 1 + 1, 0, none⟩ (.slice none 0 0)).cell? ⟨w.heap.size + 1 + 1, 0, none⟩ = some (.slice none 0 0) := (((B3f.far (by show w.heap.size + 1 + 1 ≠ w.heap.size + 1; omega) _).set 0 (.slice none 0 0)).cell 0).trans rfl
      exact bodyPost_ret (v := .tuple #[.agg #[.slice none 0 0], .agg #[.slice none 0 0], .bool false]) (by simp [results, Try.results47, go_sem, cR1, cR2]) rfl ⟨_, _, by rw [HRO.out]; rfl, ((hb3.trans (hb4.mono hb3.size)).setCell (p := ⟨w.heap.size + 1, 0, none⟩) (by show w.heap.size ≤ w.heap.size + 1; omega) _).setCell (p := ⟨w.heap.size + 1 + 1, 0, none⟩) (by show w.heap.size ≤ w.heap.size + 1 + 1; omega) _, by rw [HRO.out]; exact ⟨rfl, rfl⟩⟩
    · have hlast : d.getD (n - 1) 0 = ((lastF d : Nat) : Int) := by
        have := die_in hd (j := n - 1) (by omega)
        unfold lastF
        rw [hl]
        omega
      have HM := Lib.hid (fun W h => iMax A n c d W h hn1 hn12 (fun i hi => die_sorted hd (by omega)))
      rw [hlast] at HM
      have d6 : decide ((6 : Int) < (n : Int)) = false := decide_eq_false (by omega)
      by_cases h66 : 6 < lastF d
      · have HRO : Hid (ROther d = none) := hide (ROther_no (by unfold okPair; rw [decide_eq_false (show ¬ lastF d ≤ 6 by omega)]; simp))
        generalize lastF d = lf at *
        clear hlast hl
        go_upto_region 2 with (first | (go_at_call 18; refine HV.out.mono ?_; rintro e w4 ⟨rfl, hb4⟩; have c1 := bcell1 hb4 k1 (by omega)) | (go_at_call 81; refine (HM.out _ (Hr.out.below (hb3.trans (hb4.mono hb3.size)))).mono ?_; rintro e w' ⟨rfl, rfl⟩))
        have B2f := B2.below hb4 B2.lt
        have B3f := B3.below hb4 B3.lt
        have fr2 := B2f.free 0
        have fr3 := B3f.free 0
        have m2 : w4.cell? ⟨w.heap.size + 1, 0, none⟩ = some (.slice none 0 0) := (B2f.cell 0).trans rfl
        have m3 : w4.cell? ⟨w.heap.size + 1 + 1, 0, none⟩ = some (.slice none 0 0) := (B3f.cell 0).trans rfl
        go_wp2
        have cR1 : ((w4.setCell ⟨w.heap.size + 1, 0, none⟩ (.slice none 0 0)).setCell ⟨w.heap.size + 1 + 1, 0, none⟩ (.slice none 0 0)).cell? ⟨w.heap.size + 1, 0, none⟩ = some (.slice none 0 0) := (((B2f.set 0 (.slice none 0 0)).far (by show w.heap.size + 1 ≠ w.heap.size + 1 + 1; omega) _).cell 0).trans rfl
        have cR2 : ((w4.setCell ⟨w.heap.size + 1, 0, none⟩ (.slice none 0 0)).setCell ⟨w.heap.size + 1 + 1, 0, none⟩ (.slice none 0 0)).cell? ⟨w.heap.size + 1 + 1, 0, none⟩ = some (.slice none 0 0) := (((B3f.far (by show w.heap.size + 1 + 1 ≠ w.heap.size + 1; omega) _).set 0 (.slice none 0 0)).cell 0).trans rfl
        exact bodyPost_ret (v := .tuple #[.agg #[.slice none 0 0], .agg #[.slice none 0 0], .bool false]) (by simp [results, Try.results47, go_sem, cR1, cR2]) rfl ⟨_, _, by rw [HRO.out]; rfl, ((hb3.trans (hb4.mono hb3.size)).setCell (p := ⟨w.heap.size + 1, 0, none⟩) (by show w.heap.size ≤ w.heap.size + 1; omega) _).setCell (p := ⟨w.heap.size + 1 + 1, 0, none⟩) (by show w.heap.size ≤ w.heap.size + 1 + 1; omega) _, by rw [HRO.out]; exact ⟨rfl, rfl⟩⟩
      · have hok : okPair d = true := by unfold okPair; rw [hd, decide_eq_true (show d.length ≤ 6 by omega), decide_eq_true (show lastF d ≤ 6 by omega)]; rfl
        have HRO := hide (ROther_yes hok)
        obtain ⟨hL, hinb⟩ := twoC_facts hd (by omega)
        have hdl : d.length = n := hl
        rw [hl] at HRO
        have HC := Lib.hid (fun (W : World) (h : RV W (.slice A n c) d) => iCounts (some ⟨W.heap.size, 0, none⟩) 2 2 [d, d] _ (two_rows h) (by omega) (fun k hk => by
          match k, hk with
          | 0, _ => exact hd
          | 1, _ => exact hd))
        rw [show cnD [d, d] 2 = twoC d from rfl] at HC
        obtain ⟨R, HRR⟩ : ∃ R, Hid (ROther d = R) := ⟨_, hide rfl⟩
        rw [HRR.out] at HRO
        generalize lastF d = lf at *
        generalize twoC d = want at *
        generalize prD [d, d] 2 = pr at *
        obtain ⟨m, Hm⟩ : ∃ m, Hid (2 * lf = m) := ⟨_, hide rfl⟩
        obtain ⟨L, HLm⟩ : ∃ L, Hid (m + 1 = L) := ⟨_, hide rfl⟩
        rw [Nat.add_comm, Hm.out, HLm.out] at hL
        rw [Hm.out] at HRO
        have hm12 : m ≤ 12 := by have := Hm.out; omega
        have hL13 : L ≤ 13 := by have := HLm.out; omega
        have HL := hide hL
        have Hinb := hide hinb
        clear hL hinb hlast hl hdl hok
        go_upto_region 3 with (first | (go_at_call 18; refine HV.out.mono ?_; rintro e w4 ⟨rfl, hb4⟩; have c1 := bcell1 hb4 k1 (by omega)) | (go_at_call 81; refine (HM.out _ (Hr.out.below (hb3.trans (hb4.mono hb3.size)))).mono ?_; rintro e w' ⟨rfl, rfl⟩))
        have hbw4 := hb3.trans (hb4.mono hb3.size)
        have hz4 := hb4.size
        have b5 := (Below.refl w4.heap.size w4).alloc (Nat.le_refl _) (.cells #[.slice A n c, .slice A n c] 27)
        have hz5 : (w4.alloc (.cells #[.slice A n c, .slice A n c] 27)).heap.size = w4.heap.size + 1 := by simp
        go_upto_region 4 with (go_at_call 76; go_loud (refine (HC.out w4 (HRV.out.below hbw4)).mono ?_; rintro e w6 ⟨r, rfl, ho6, hb6⟩; obtain ⟨A2, c2, hr2, hc2, -, hrd2, -⟩ := ho6.form; rw [HL.out] at hr2 hc2 hrd2; subst hr2))
        have hbw6 := hbw4.trans ((b5.trans (hb6.mono (by omega))).mono hbw4.size)
        have hz6 := hb6.size
        have Bw := Bk.new w6 22 [.slice A2 L c2]
        have b7 := (Below.refl w6.heap.size w6).alloc (Nat.le_refl _) (.cells #[.slice A2 L c2] 22)
        have hz7 : (w6.alloc (.cells #[.slice A2 L c2] 22)).heap.size = w6.heap.size + 1 := by simp
        have hbw7 : Below w.heap.size w (w6.alloc (.cells #[.slice A2 L c2] 22)) := hbw6.alloc hbw6.size _
        have hb37 : Below w3.heap.size w3 (w6.alloc (.cells #[.slice A2 L c2] 22)) := (hb4.trans ((b5.trans (hb6.mono (by omega))).mono hz4)).alloc (by omega) _
        have rW := hrd2.below b7
        have kW : (w6.alloc (.cells #[.slice A2 L c2] 22)).cell? ⟨w6.heap.size, 0, none⟩ = some (.slice A2 L c2) := (Bw.cell 0).trans rfl
        have k1' := bcell1 hb37 k1 (by omega)
        have B1' := B1.below hb37 B1.lt
        have B2' := B2.below hb37 B2.lt
        have B3' := B3.below hb37 B3.lt
        have eL : IntKind.i64.wrap ((L : Int) - 1) = (m : Int) := by have := HLm.out; rw [← this]; exact (IntWalk.i64_in _ (by omega)).trans (by omega)
        have rD := Hr.out.below hbw7
        clear k1 b7 b5 hb4 hb6 hbw4 hbw6 B1 B2 B3 HV HM HC hrd2 ho6
        generalize w6.alloc (.cells #[.slice A2 L c2] 22) = w7 at *
        generalize w6.heap.size = bw at *
        go_upto_region 6 with fail
        have rWl := rW.len
        have hE : (⟨w7, bw, w.heap.size, A, A2, n, L, c, c2, d, want⟩ : PE).Ok := ⟨Bw, B1', rW, rD, hc2, hc, hn1, by show n ≤ 6; omega, by show L ≤ 20; omega, Hinb.out⟩
        have hin : PEi ⟨w7, bw, w.heap.size, A, A2, n, L, c, c2, d, want⟩ none (fun b => b = w7.heap.size ∨ b = w7.heap.size + 1 ∨ b = w7.heap.size + 1 + 1 ∨ (Value.slice none 0 0).ownBlock = some b ∨ (Value.slice none 0 0).ownBlock = some b) (((w7.alloc (.cells #[.slice none 0 0] 27)).alloc (.cells #[.slice none 0 0] 27)).alloc (.cells #[.bool false] 4)) := by
          obtain ⟨x1, x2⟩ := two w7 27 (.slice none 0 0) (.slice none 0 0)
          refine ⟨_, _, (((Below.refl _ _).alloc (Nat.le_refl _) _).alloc (by simp) _).alloc (by simp; omega) _, x1.alloc _, x2.alloc _, ?_, ⟨rfl, rfl⟩, fun b => Iff.rfl⟩
          have := Bk.new ((w7.alloc (.cells #[.slice none 0 0] 27)).alloc (.cells #[.slice none 0 0] 27)) 4 [.bool false]
          simpa using this
        have hzA : (((w7.alloc (.cells #[.slice none 0 0] 27)).alloc (.cells #[.slice none 0 0] 27)).alloc (.cells #[.bool false] 4)).heap.size = w7.heap.size + 1 + 1 + 1 := by simp
        have hbA : Below w7.heap.size w7 (((w7.alloc (.cells #[.slice none 0 0] 27)).alloc (.cells #[.slice none 0 0] 27)).alloc (.cells #[.bool false] 4)) := (((Below.refl _ _).alloc (Nat.le_refl _) _).alloc (by simp) _).alloc (by simp; omega) _
        generalize ((w7.alloc (.cells #[.slice none 0 0] 27)).alloc (.cells #[.slice none 0 0] 27)).alloc (.cells #[.bool false] 4) = wA at *
        have HEa := iEach (pvV ⟨w7, bw, w.heap.size, A, A2, n, L, c, c2, d, want⟩) (pvV_ok _ hE) n m 1 none _ wA (by omega) (by omega) (by omega) (by show w7.heap.size ≤ wA.heap.size; omega) hin (pv_fit _ (m := m) HLm.out (by show L ≤ 20; omega) hn1)
        rw [pv_run, show (growL m n 1).findSome? (pairX d want) = R from HRO.out.symm] at HEa
        have HE2 : Hid (Calls Try.prog 71 #[.int .i64 (n : Int), .int .i64 1, .int .i64 (m : Int), .func (.func 82) #[] #[.pointer (some ⟨bw, 0, none⟩), .pointer (some ⟨w.heap.size, 0, none⟩), .pointer (some ⟨w7.heap.size, 0, none⟩), .pointer (some ⟨w7.heap.size + 1, 0, none⟩), .pointer (some ⟨w7.heap.size + 1 + 1, 0, none⟩)]] wA fun e w' => e = .returned (.bool R.isNone) ∧ (∃ O', PEi ⟨w7, bw, w.heap.size, A, A2, n, L, c, c2, d, want⟩ R O' w') ∧ Below w7.heap.size wA w') := hide HEa
        rw [hz7] at HE2
        have k1'' := bcell1 hbA k1' (by omega)
        have hbwA := hbw7.trans (hbA.mono hbw7.size)
        clear HEa hin hE rWl
        go_upto_region 7 with (go_at_call 71; go_loud (refine HE2.out.mono ?_; rintro e w9 ⟨rfl, ⟨O9, hi9⟩, hb9⟩))
        obtain ⟨v1, v2, hbE, g1, g2, g3, hvs, -⟩ := hi9
        have g1 : Bk w9 w7.heap.size 27 [v1] := g1
        have g2 : Bk w9 (w7.heap.size + 1) 27 [v2] := g2
        have g3 : Bk w9 (w7.heap.size + 1 + 1) 4 [.bool R.isSome] := g3
        have hvs : PairVs w9 w7.heap.size v1 v2 R := hvs
        obtain ⟨A3, n3, c3, A4, n4, c4, rfl, rfl⟩ := pairvs_form hvs
        rw [hz7] at g1 g2 g3
        have c5 := (g1.cell 0).trans rfl
        have c6 := (g2.cell 0).trans rfl
        have c7 := (g3.cell 0).trans rfl
        have hz9 := hb9.size
        have C2 := (B2'.below hbA (by omega)).below hb9 (by omega)
        have C3 := (B3'.below hbA (by omega)).below hb9 (by omega)
        have fr2 := C2.free 0
        have fr3 := C3.free 0
        have m2 : w9.cell? ⟨w.heap.size + 1, 0, none⟩ = some (.slice none 0 0) := (C2.cell 0).trans rfl
        have m3 : w9.cell? ⟨w.heap.size + 1 + 1, 0, none⟩ = some (.slice none 0 0) := (C3.cell 0).trans rfl
        have HVs := hide hvs
        have HbW := hide (hbwA.trans (hb9.mono (by omega)))
        have Hz7 := hide hz7
        have hwb : w.heap.size + 1 + 1 + 1 ≤ w7.heap.size := by omega
        clear hvs hbE g1 g2 g3 HRO HE2 hb9 hbwA hbA hz7 hzA hbw7
        go_region
        go_wp2
        have cR1 : ((w9.setCell ⟨w.heap.size + 1, 0, none⟩ (.slice A3 n3 c3)).setCell ⟨w.heap.size + 1 + 1, 0, none⟩ (.slice A4 n4 c4)).cell? ⟨w.heap.size + 1, 0, none⟩ = some (.slice A3 n3 c3) := (((C2.set 0 (.slice A3 n3 c3)).far (by show w.heap.size + 1 ≠ w.heap.size + 1 + 1; omega) _).cell 0).trans rfl
        have cR2 : ((w9.setCell ⟨w.heap.size + 1, 0, none⟩ (.slice A3 n3 c3)).setCell ⟨w.heap.size + 1 + 1, 0, none⟩ (.slice A4 n4 c4)).cell? ⟨w.heap.size + 1 + 1, 0, none⟩ = some (.slice A4 n4 c4) := (((C3.far (by show w.heap.size + 1 + 1 ≠ w.heap.size + 1; omega) _).set 0 (.slice A4 n4 c4)).cell 0).trans rfl
        exact bodyPost_ret (v := .tuple #[.agg #[.slice A3 n3 c3], .agg #[.slice A4 n4 c4], .bool R.isSome]) (by simp [results, Try.results47, go_sem, cR1, cR2]) rfl ⟨_, _, by rw [HRR.out], ((HbW.out.setCell (p := ⟨w.heap.size + 1, 0, none⟩) (by show w.heap.size ≤ w.heap.size + 1; omega) _).setCell (p := ⟨w.heap.size + 1 + 1, 0, none⟩) (by show w.heap.size ≤ w.heap.size + 1 + 1; omega) _).drew, by rw [HRR.out]; exact pairvs_lo HVs.out hwb⟩

theorem iOther (v : Value) (d : List Int) (w : World) (hv : RV w v d) (hn : d.length ≤ 1048576) :
    Calls Try.prog 47 #[.agg #[v]] w fun e w' => ∃ r1 r2, e = .returned (.tuple #[.agg #[r1], .agg #[r2], .bool (ROther d).isSome]) ∧ Below w.heap.size w w' ∧ PairVs w' w.heap.size r1 r2 (ROther d) := by
  obtain ⟨A, c, rfl, hr, hc⟩ := hv
  exact iOther0 A _ c d w hr hc hn
end Go.Proofs.Ythpboedpoipkcaa
