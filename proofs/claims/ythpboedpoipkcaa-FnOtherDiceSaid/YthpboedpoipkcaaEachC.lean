/- eachDie's closure: the contract, by recursion on how many numbers are lacking. Conditions: the visitor meets its contract. -/
import Derived.Test.YthpboedpoipkcaaEachB
namespace Go.Proofs.Ythpboedpoipkcaa
open Go.ChangeShapes Go.WideShapes Go.ChangeAt Go.RowKit

def GrowC (V : Vis) (b : EBx) (F m l k : Nat) : Prop :=
  ∀ (p : List Int) (fr : Nat) (v : Value) (s : V.σ) (O : Nat → Prop) (w : World), p.length + k = F → (p.length = 0 → fr = l) → (0 < p.length → p.getD (p.length - 1) 0 = (fr : Int)) → fr ≤ m + 1 → V.Fit (fromL m p k fr) s → EG V b F m l w v p s O →
    Calls Try.prog 93 #[.pointer (some ⟨b.li, 0, none⟩), .pointer (some ⟨b.fa, 0, none⟩), .pointer (some ⟨b.vi, 0, none⟩), .pointer (some ⟨b.le, 0, none⟩), .pointer (some ⟨b.mo, 0, none⟩), .pointer (some ⟨b.gr, 0, none⟩)] w fun e w' =>
      e = .returned (.bool (V.run (fromL m p k fr) s).2) ∧ (∃ O', V.inv (V.run (fromL m p k fr) s).1 O' w') ∧ Below V.lo w w' ∧ ((V.run (fromL m p k fr) s).2 = true → ∃ v' O', EG V b F m l w' v' p (V.run (fromL m p k fr) s).1 O')

theorem growC0 (V : Vis) (hV : V.Ok) (b : EBx) (F m l : Nat) (hF : F ≤ 12) : GrowC V b F m l 0 := by
  intro p fr v s O w hp _ _ _ hgood h
  rw [fromL_zero] at hgood ⊢
  rw [V.run_one]
  obtain rfl : p.length = F := by omega
  exact (grow0 V hV b m l p v s O w hF hgood.one h).mono fun e w' ⟨h1, ⟨O', h2⟩, h3⟩ => ⟨h1, ⟨O', h2.inv⟩, h3, fun _ => ⟨v, O', h2⟩⟩

set_option maxRecDepth 100000 in
set_option maxHeartbeats 1600000 in
theorem growCS (V : Vis) (hV : V.Ok) (b : EBx) (F m l k : Nat) (hF : F ≤ 12) (hm : m ≤ 1048576) (IH : GrowC V b F m l k) : GrowC V b F m l (k + 1) := by
  intro p fr v s O w hp hl0 hl1 hfr hgood h
  rw [fromL_succ] at hgood ⊢
  obtain ⟨g, c, rfl, hc⟩ := h.form
  have hli := h.li
  have hfa := h.fa
  have hle := h.le
  have c1 : w.cell? ⟨b.li, 0, none⟩ = some (.slice (some ⟨g, 0, none⟩) p.length c) := by rw [hli.cell]; rfl
  have c2 : w.cell? ⟨b.fa, 0, none⟩ = some (.int .i64 (F : Int)) := by rw [hfa.cell]; rfl
  have c3 : w.cell? ⟨b.le, 0, none⟩ = some (.int .i64 (l : Int)) := by rw [hle.cell]; rfl
  have f1 : ((p.length : Int) == (F : Int)) = false := by simp; omega
  have hrd := h.own.own.rv
  have H := hide h
  have HIH := hide IH
  have Hgood := hide hgood
  have Hp := hide hp
  have hst : V.run (partL m p k fr fr) s = (s, true) := by rw [partL_start]; rfl
  have Hst := hide hst
  have Hhyp : Hid (p.length = 0 → fr = l) := hide hl0
  have Hhyp1 : Hid (0 < p.length → p.getD (p.length - 1) 0 = (fr : Int)) := hide hl1
  have hpl : p.length ≤ 12 := by omega
  have Hn0 : Hid (0 < p.length → w.cell? ⟨g, p.length - 1, none⟩ = some (.int .i64 (fr : Int))) := hide fun hq => by
    obtain ⟨A, c', e, hr, _⟩ := hrd
    injection e with e1 e2 e3
    subst e1
    obtain ⟨ad, e, _, hc⟩ := hr.int (k := p.length - 1) (by omega)
    injection e with e
    subst e
    rw [hl1 hq, Addr.add_lit, Nat.zero_add] at hc
    exact hc
  rcases hR : V.run (partL m p k fr (m + 1)) s with ⟨sR, bR⟩
  have HR := hide hR
  clear h hli hfa hle hrd hgood hst hl0 hl1 hp IH hR
  generalize hn : p.length = n at *
  have Hn := hide hn
  clear hn
  have h00 : Hid (n = 0) ∨ 0 < n := by
    rcases Nat.eq_zero_or_pos n with h0 | h0
    · exact .inl (hide h0)
    · exact .inr h0
  rcases h00 with h0 | h0
  · rw [show l = fr from (Hhyp.out h0.out).symm] at c3
    have h1 : ¬ 0 < n := by have := h0.out; omega
    clear Hhyp Hhyp1 Hn0
    go_enter Try.func93, Try.ntmps93
    go_wp2
    go_loopw [8] (fun i wr => ∃ (f : Nat) (v : Value) (s1 : V.σ) (O1 : Nat → Prop), i = .int .i64 (f : Int) ∧ fr ≤ f ∧ f ≤ m + 1 ∧ Hid (V.run (partL m p k fr f) s = (s1, true)) ∧ Hid (EG V b F m l wr v p s1 O1) ∧ Hid (Below V.lo w wr)) (fun i _ => m + 1 - (intOf i).toNat)
    case atStart => exact ⟨fr, _, s, O, rfl, Nat.le_refl _, hfr, Hst, H, hide (Below.refl _ _)⟩
    case round =>
      obtain ⟨f, v, s1, O1, rfl, hf1, hf2, hrun, hE, hB⟩ := hrel
      obtain ⟨g1, d1, rfl, hd1⟩ := hE.out.form
      have k1 : wr.cell? ⟨b.li, 0, none⟩ = some (.slice (some ⟨g1, 0, none⟩) n d1) := by rw [hE.out.li.cell, ← Hn.out]; rfl
      have k2 : wr.cell? ⟨b.mo, 0, none⟩ = some (.int .i64 (m : Int)) := by rw [hE.out.mo.cell]; rfl
      clear c1 c2 c3 f1
      rw [Hn.out] at hd1
      by_cases hlt : f ≤ m
      · have f2 : (f : Int) ≤ (m : Int) := by omega
        go_upto_region 10 with (at_builtin; refine app1d hE.out.own (by rw [Hn.out]; omega) hE.out.lo.2 rfl rfl (by rw [Hn.out]; rfl) rfl ?_; intro v2 w2 ho2 hg2 hd2; obtain ⟨g2, d2, rfl, -, -, -, -⟩ := owns_form (n := n + 1) ho2.own (by simp [Hn.out]) (by omega); have hl2 := hE.out.li.grown hg2 (fun e => (hE.out.apart b.li e.symm).2.1 rfl); have fr2 := hl2.free 0; have co2 := hl2.cell 0; have hEb := hide (hE.out.grown hV ho2 hg2 hd2); clear ho2 hg2 hd2 hl2)
        generalize w2.setCell ⟨b.li, 0, none⟩ (.slice (some ⟨g2, 0, none⟩) (n + 1) d2) = w3 at hEb ⊢
        obtain ⟨hE3, hB3⟩ := hEb.out
        have hmem : V.Fit (fromL m (p ++ [(f : Int)]) k f) s1 := by
          have hg := Hgood.out
          rw [partL_split m p k hf1 hf2, partL_cons m p k (by omega : f < m + 1)] at hg
          exact hg.part hrun.out
        have HC := HIH.out (p ++ [(f : Int)]) f _ s1 O1 w3 (by simp; have := Hn.out; have := Hp.out; omega) (by simp) (fun _ => by simp) hf2 hmem hE3
        rcases hR2 : V.run (fromL m (p ++ [(f : Int)]) k f) s1 with ⟨s2, r2⟩
        rw [hR2] at HC
        have k3 : w3.cell? ⟨b.gr, 0, none⟩ = some (.func (.func 93) #[] #[.pointer (some ⟨b.li, 0, none⟩), .pointer (some ⟨b.fa, 0, none⟩), .pointer (some ⟨b.vi, 0, none⟩), .pointer (some ⟨b.le, 0, none⟩), .pointer (some ⟨b.mo, 0, none⟩), .pointer (some ⟨b.gr, 0, none⟩)]) := by rw [hE3.gr.cell]; rfl
        have HC2 := Lib.hid HC
        have HR2 := hide hR2
        have HB3 := hide (hB.out.trans hB3)
        clear hE3 hB3 hmem HC hR2 hEb fr2 co2 k1 k2
        cases r2 with
        | false =>
          go_wp2_with (go_at_call 93; refine HC2.out.mono ?_; rintro e w4 ⟨rfl, hi4, hb4, -⟩)
          go_ret
          have e := V.run_stop (C := partL m p k (f + 1) (m + 1)) hrun.out HR2.out
          rw [← partL_cons m p k (by omega : f < m + 1), ← partL_split m p k hf1 hf2, HR.out] at e
          injection e with e1 e2
          subst e1 e2
          exact ⟨rfl, hi4, HB3.out.trans hb4, fun h => by cases h⟩
        | true =>
          go_wp2_with (go_at_call 93; refine HC2.out.mono ?_; rintro e w4 ⟨rfl, -, hb4, hex⟩; obtain ⟨v4, O4, hE4⟩ := hex rfl; obtain ⟨g4, d4, rfl, hd4⟩ := hE4.form; have hln : (p ++ [(f : Int)]).length = n + 1 := (by rw [List.length_append, Hn.out]; rfl); rw [hln] at hE4 hd4; have m1 : w4.cell? ⟨b.li, 0, none⟩ = some (.slice (some ⟨g4, 0, none⟩) (n + 1) d4) := (by rw [hE4.li.cell]; rfl); have m2 := hE4.li.free 0; have m3 : ¬ d4 = n := (by omega); have m4 : ¬ d4 = 0 := (by omega); have HE4 := hide hE4; clear hE4 hex hln)
          have hE5 := HE4.out
          rw [← Hn.out] at hE5
          obtain ⟨hE6, hB6⟩ := hE5.cut hV
          rw [Hn.out] at hE6 hB6
          refine ⟨⟨f + 1, _, s2, O4, rfl, by omega, by omega, hide ?_, hide hE6, hide ((HB3.out.trans hb4).trans hB6)⟩, by simp [intOf]; omega⟩
          rw [partL_next m p k hf1]
          exact V.run_on hrun.out HR2.out
      · have f2 : ¬ (f : Int) ≤ (m : Int) := by omega
        go_wp2
        go_ret
        obtain rfl : f = m + 1 := by omega
        have e := hrun.out.symm.trans HR.out
        injection e with e1 e2
        subst e1 e2
        exact ⟨rfl, ⟨_, hE.out.inv⟩, hB.out, fun _ => ⟨_, _, hE.out⟩⟩
  · have c4 := Hn0.out h0
    clear Hhyp Hhyp1 Hn0
    go_enter Try.func93, Try.ntmps93
    go_wp2
    go_loopw [8] (fun i wr => ∃ (f : Nat) (v : Value) (s1 : V.σ) (O1 : Nat → Prop), i = .int .i64 (f : Int) ∧ fr ≤ f ∧ f ≤ m + 1 ∧ Hid (V.run (partL m p k fr f) s = (s1, true)) ∧ Hid (EG V b F m l wr v p s1 O1) ∧ Hid (Below V.lo w wr)) (fun i _ => m + 1 - (intOf i).toNat)
    case atStart => exact ⟨fr, _, s, O, rfl, Nat.le_refl _, hfr, Hst, H, hide (Below.refl _ _)⟩
    case round =>
      obtain ⟨f, v, s1, O1, rfl, hf1, hf2, hrun, hE, hB⟩ := hrel
      obtain ⟨g1, d1, rfl, hd1⟩ := hE.out.form
      have k1 : wr.cell? ⟨b.li, 0, none⟩ = some (.slice (some ⟨g1, 0, none⟩) n d1) := by rw [hE.out.li.cell, ← Hn.out]; rfl
      have k2 : wr.cell? ⟨b.mo, 0, none⟩ = some (.int .i64 (m : Int)) := by rw [hE.out.mo.cell]; rfl
      clear c1 c2 c3 f1
      rw [Hn.out] at hd1
      by_cases hlt : f ≤ m
      · have f2 : (f : Int) ≤ (m : Int) := by omega
        go_upto_region 10 with (at_builtin; refine app1d hE.out.own (by rw [Hn.out]; omega) hE.out.lo.2 rfl rfl (by rw [Hn.out]; rfl) rfl ?_; intro v2 w2 ho2 hg2 hd2; obtain ⟨g2, d2, rfl, -, -, -, -⟩ := owns_form (n := n + 1) ho2.own (by simp [Hn.out]) (by omega); have hl2 := hE.out.li.grown hg2 (fun e => (hE.out.apart b.li e.symm).2.1 rfl); have fr2 := hl2.free 0; have co2 := hl2.cell 0; have hEb := hide (hE.out.grown hV ho2 hg2 hd2); clear ho2 hg2 hd2 hl2)
        generalize w2.setCell ⟨b.li, 0, none⟩ (.slice (some ⟨g2, 0, none⟩) (n + 1) d2) = w3 at hEb ⊢
        obtain ⟨hE3, hB3⟩ := hEb.out
        have hmem : V.Fit (fromL m (p ++ [(f : Int)]) k f) s1 := by
          have hg := Hgood.out
          rw [partL_split m p k hf1 hf2, partL_cons m p k (by omega : f < m + 1)] at hg
          exact hg.part hrun.out
        have HC := HIH.out (p ++ [(f : Int)]) f _ s1 O1 w3 (by simp; have := Hn.out; have := Hp.out; omega) (by simp) (fun _ => by simp) hf2 hmem hE3
        rcases hR2 : V.run (fromL m (p ++ [(f : Int)]) k f) s1 with ⟨s2, r2⟩
        rw [hR2] at HC
        have k3 : w3.cell? ⟨b.gr, 0, none⟩ = some (.func (.func 93) #[] #[.pointer (some ⟨b.li, 0, none⟩), .pointer (some ⟨b.fa, 0, none⟩), .pointer (some ⟨b.vi, 0, none⟩), .pointer (some ⟨b.le, 0, none⟩), .pointer (some ⟨b.mo, 0, none⟩), .pointer (some ⟨b.gr, 0, none⟩)]) := by rw [hE3.gr.cell]; rfl
        have HC2 := Lib.hid HC
        have HR2 := hide hR2
        have HB3 := hide (hB.out.trans hB3)
        clear hE3 hB3 hmem HC hR2 hEb fr2 co2 k1 k2
        cases r2 with
        | false =>
          go_wp2_with (go_at_call 93; refine HC2.out.mono ?_; rintro e w4 ⟨rfl, hi4, hb4, -⟩)
          go_ret
          have e := V.run_stop (C := partL m p k (f + 1) (m + 1)) hrun.out HR2.out
          rw [← partL_cons m p k (by omega : f < m + 1), ← partL_split m p k hf1 hf2, HR.out] at e
          injection e with e1 e2
          subst e1 e2
          exact ⟨rfl, hi4, HB3.out.trans hb4, fun h => by cases h⟩
        | true =>
          go_wp2_with (go_at_call 93; refine HC2.out.mono ?_; rintro e w4 ⟨rfl, -, hb4, hex⟩; obtain ⟨v4, O4, hE4⟩ := hex rfl; obtain ⟨g4, d4, rfl, hd4⟩ := hE4.form; have hln : (p ++ [(f : Int)]).length = n + 1 := (by rw [List.length_append, Hn.out]; rfl); rw [hln] at hE4 hd4; have m1 : w4.cell? ⟨b.li, 0, none⟩ = some (.slice (some ⟨g4, 0, none⟩) (n + 1) d4) := (by rw [hE4.li.cell]; rfl); have m2 := hE4.li.free 0; have m3 : ¬ d4 = n := (by omega); have m4 : ¬ d4 = 0 := (by omega); have HE4 := hide hE4; clear hE4 hex hln)
          have hE5 := HE4.out
          rw [← Hn.out] at hE5
          obtain ⟨hE6, hB6⟩ := hE5.cut hV
          rw [Hn.out] at hE6 hB6
          refine ⟨⟨f + 1, _, s2, O4, rfl, by omega, by omega, hide ?_, hide hE6, hide ((HB3.out.trans hb4).trans hB6)⟩, by simp [intOf]; omega⟩
          rw [partL_next m p k hf1]
          exact V.run_on hrun.out HR2.out
      · have f2 : ¬ (f : Int) ≤ (m : Int) := by omega
        go_wp2
        go_ret
        obtain rfl : f = m + 1 := by omega
        have e := hrun.out.symm.trans HR.out
        injection e with e1 e2
        subst e1 e2
        exact ⟨rfl, ⟨_, hE.out.inv⟩, hB.out, fun _ => ⟨_, _, hE.out⟩⟩
end Go.Proofs.Ythpboedpoipkcaa
