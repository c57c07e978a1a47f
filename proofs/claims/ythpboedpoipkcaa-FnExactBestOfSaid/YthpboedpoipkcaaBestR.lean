/- BestOf's throwing closure: the contract, by recursion on how many numbers are lacking. Conditions: 1 to 6 dice, faces from 0 to 20. -/
import Derived.Test.YthpboedpoipkcaaBestG
namespace Go.Proofs.Ythpboedpoipkcaa
open Go.ChangeShapes Go.WideShapes Go.ChangeAt Go.RowKit

def RecB (b : BB) (w0 : World) (k : Nat) (dv : Value) (xss : List (List Int)) (m : Nat) : Prop :=
  ∀ (p : List Int) (v : Value) (cs : List Int) (w : World), p.length + m = xss.length → Fit k (thrL p (xss.drop p.length)) cs → BG b w0 k dv w v p cs →
    Calls Try.prog 90 #[.pointer (some ⟨b.fa, 0, none⟩), .pointer (some ⟨b.di, 0, none⟩), .pointer (some ⟨b.co, 0, none⟩), .pointer (some ⟨b.su, 0, none⟩), .pointer (some ⟨b.th, 0, none⟩)] w fun e w' =>
      e = .returned (.tuple #[]) ∧ ∃ v', BG b w0 k dv w' v' p (runC (bestN k) (thrL p (xss.drop p.length)) cs)

set_option maxRecDepth 100000 in
set_option maxHeartbeats 1600000 in
theorem recB0 (b : BB) (w0 : World) (k n c0 : Nat) (A : Option Addr) (xss : List (List Int)) (hn : xss.length = n) (hk1 : 1 ≤ k) (hkn : k ≤ n) (hn6 : n ≤ 6) : RecB b w0 k (.slice A n c0) xss 0 := by
  intro p v cs w hp hfit h
  obtain ⟨g, c, rfl, hc⟩ := h.form
  have hpn : p.length = n := by omega
  rw [List.drop_of_length_le (by omega), thrL_nil] at hfit ⊢
  have c1 : w.cell? ⟨b.fa, 0, none⟩ = some (.slice (some ⟨g, 0, none⟩) p.length c) := by rw [h.fa.cell]; rfl
  have c2 : w.cell? ⟨b.di, 0, none⟩ = some (.slice A n c0) := by rw [h.di.cell]; rfl
  have c3 : w.cell? ⟨b.co, 0, none⟩ = some (.slice (some ⟨b.cn, 0, none⟩) cs.length cs.length) := by rw [h.co.cell]; rfl
  have c4 : w.cell? ⟨b.su, 0, none⟩ = some (.func (.func 88) #[] #[.pointer (some ⟨b.ke, 0, none⟩)]) := by rw [h.su.cell]; rfl
  have H := hide h
  have hrv := h.own.own.rv
  have HF := hide hfit
  have hx : ∀ i, i < n → 0 ≤ p.getD i 0 ∧ p.getD i 0 ≤ 20 := fun i hi => hfit.rng p (by simp) i (by omega)
  have HC := Lib.hid (fun q => iBest b.ke k n (.slice (some ⟨g, 0, none⟩) p.length c) p (w.drewN q) h.ke hrv hpn hk1 hkn hn6 hx)
  have l1 := h.co.lt
  have hs : Hid (bestN k p < cs.length) := hide (hfit.len p (by simp))
  have hbd := hfit.bd (bestN k p)
  have hcn := h.cn.lt
  have HR : Hid (∀ W, Below w.heap.size w W → W.cell? ⟨b.co, 0, none⟩ = some (.slice (some ⟨b.cn, 0, none⟩) cs.length cs.length) ∧ W.cell? ⟨b.cn, bestN k p, none⟩ = some (.int .i64 (cs.getD (bestN k p) 0)) ∧ W.frozen? ⟨b.cn, bestN k p, none⟩ = false ∧ BG b w0 k (.slice A n c0) (W.setCell ⟨b.cn, bestN k p, none⟩ (.int .i64 (cs.getD (bestN k p) 0 + 1))) (.slice (some ⟨g, 0, none⟩) p.length c) p (bmp cs (bestN k p) 1)) := hide fun W hW => by
    have hB := h.to hW
    refine ⟨by rw [hB.co.cell]; rfl, by rw [hB.cn.cell, iv_get hs.out], hB.cn.free _, hB.bumped _ _ rfl⟩
  have hrun : runC (bestN k) [p] cs = bmp cs (bestN k p) 1 := rfl
  rw [hrun]
  clear h hrv hx hfit hrun
  rw [hpn] at *
  generalize bmp cs (bestN k p) 1 = R at *
  generalize cs.getD (bestN k p) 0 = x at *
  generalize bestN k p = s at *
  generalize cs.length = m at *
  have hs2 := hs.out
  have e2 : Hid (IntKind.i64.wrap (x + 1) = x + 1) := hide (IntWalk.i64_in _ (by simp at hbd; omega))
  have d1 : ((n : Int) == (n : Int)) = true := by simp
  go_enter Try.func90, Try.ntmps90
  go_upto_region 1 with fail
  go_region_with (first | (go_at_call 88; refine (HC.out 1).mono ?_; rintro e w1 ⟨rfl, hb1⟩; obtain ⟨r1, r2, r3, r4⟩ := HR.out w1 ((below_drewN (Below.refl _ w) 1).trans hb1)))
  all_goals (rw [e2.out]; go_wp2)
  all_goals (exact bodyPost_ret (results_none rfl _ _ _) rfl ⟨rfl, _, r4⟩)

set_option maxRecDepth 100000 in
set_option maxHeartbeats 1600000 in
theorem recBS (b : BB) (w0 : World) (k n c0 m : Nat) (A : Option Addr) (xss : List (List Int)) (hr : RdR w0 A n xss) (hrow : ∀ i, i < n → (xss.getD i []).length ≤ 1048576) (hn6 : n ≤ 6) (IH : RecB b w0 k (.slice A n c0) xss m) : RecB b w0 k (.slice A n c0) xss (m + 1) := by
  intro p v cs w hp hfit h
  obtain ⟨g, c, rfl, hc⟩ := h.form
  have hn := hr.len
  obtain ⟨ad, B, d, rfl, hbl, hcD, hrD, hdD⟩ := hr.at (k := p.length) (by omega)
  rw [List.drop_eq_getElem_cons (show p.length < xss.length by omega), thrL_cons, show xss[p.length]'(by omega) = xss.getD p.length [] by simp [List.getD, show p.length < xss.length by omega]] at hfit ⊢
  have c1 : w.cell? ⟨b.fa, 0, none⟩ = some (.slice (some ⟨g, 0, none⟩) p.length c) := by rw [h.fa.cell]; rfl
  have c2 : w.cell? ⟨b.di, 0, none⟩ = some (.slice (some ad) n c0) := by rw [h.di.cell]; rfl
  have c3 : w.cell? (ad.add p.length) = some (.slice B (xss.getD p.length []).length d) := (h.base.cell (p := ad.add p.length) (by rw [add_block]; exact hbl)).trans hcD
  have HRd : Hid (∀ W, Below w0.heap.size w0 W → Rd W B (xss.getD p.length []).length (iv (xss.getD p.length []))) := hide fun W hW => hrD.below hW
  have HIH : Hid (∀ x v cs w, Fit k (thrL (p ++ [x]) (xss.drop (p.length + 1))) cs → BG b w0 k (.slice (some ad) n c0) w v (p ++ [x]) cs → Calls Try.prog 90 #[.pointer (some ⟨b.fa, 0, none⟩), .pointer (some ⟨b.di, 0, none⟩), .pointer (some ⟨b.co, 0, none⟩), .pointer (some ⟨b.su, 0, none⟩), .pointer (some ⟨b.th, 0, none⟩)] w fun e w' =>
      e = .returned (.tuple #[]) ∧ ∃ v', BG b w0 k (.slice (some ad) n c0) w' v' (p ++ [x]) (runC (bestN k) (thrL (p ++ [x]) (xss.drop (p.length + 1))) cs)) := hide fun x v cs w hf hg => by
    have e : (p ++ [x]).length = p.length + 1 := by simp
    have := IH (p ++ [x]) v cs w (by rw [e]; omega) (by rw [e]; exact hf) hg
    rwa [e] at this
  have f1 : ((p.length : Int) == (n : Int)) = false := by simp; omega
  have q1 : (0 : Int) ≤ (p.length : Int) := by omega
  have q2 : (p.length : Int) < (n : Int) := by omega
  have hdl := hrow p.length (by omega)
  have H := hide h
  have HF := hide hfit
  clear h hfit IH hp hn hr hrD hcD hrow
  generalize xss.drop (p.length + 1) = ds at *
  generalize xss.getD p.length [] = D at *
  obtain ⟨R, HR⟩ : ∃ R, Hid (runC (bestN k) (partB p D ds 0) cs = R) := ⟨_, hide rfl⟩
  rw [HR.out]
  obtain ⟨n1, Hn1⟩ : ∃ n1, Hid (p.length = n1) := ⟨_, hide rfl⟩
  obtain ⟨dl, HdL⟩ : ∃ dl, Hid (D.length = dl) := ⟨_, hide rfl⟩
  rw [Hn1.out] at c1 c3 f1 q1 q2 hc
  rw [HdL.out] at c3 HRd hdD hdl
  have hn16 : n1 ≤ 6 := by omega
  go_enter Try.func90, Try.ntmps90
  go_wp2
  go_loopw [27] (fun i wr => ∃ (j : Nat) (v : Value) (cs : List Int), i = .int .i64 (j : Int) ∧ j ≤ dl ∧ Hid (runC (bestN k) (partB p D ds j) cs = R) ∧ Hid (Fit k (partB p D ds j) cs) ∧ Hid (BG b w0 k (.slice (some ad) n c0) wr v p cs)) (fun i _ => dl - (intOf i).toNat)
  case atStart => exact ⟨0, _, cs, rfl, Nat.zero_le _, HR, HF, H⟩
  case round =>
    clear H HF HR c1 c2 c3 f1 q1 q2
    obtain ⟨j, v, cs, rfl, hj, hrun, hfit, hE⟩ := hrel
    obtain ⟨g1, d1, rfl, hd1⟩ := hE.out.form
    have k1 : wr.cell? ⟨b.fa, 0, none⟩ = some (.slice (some ⟨g1, 0, none⟩) n1 d1) := by rw [hE.out.fa.cell, ← Hn1.out]; rfl
    rw [Hn1.out] at hd1
    by_cases hlt : j < dl
    · obtain ⟨bd, rfl, hbb, hcB⟩ := (HRd.out wr hE.out.base).int (k := j) (by omega)
      have hps := partB_cons p D ds (j := j) (by have := HdL.out; omega)
      have Hfl : Hid (Fit k (thrL (p ++ [D.getD j 0]) ds) cs) := hide (by have := hfit.out; rw [hps] at this; exact this.left)
      have Hfr : Hid (Fit k (partB p D ds (j + 1)) (runC (bestN k) (thrL (p ++ [D.getD j 0]) ds) cs)) := hide (by have := hfit.out; rw [hps] at this; exact this.right)
      have Hrr : Hid (runC (bestN k) (partB p D ds (j + 1)) (runC (bestN k) (thrL (p ++ [D.getD j 0]) ds) cs) = R) := hide (by have := hrun.out; rw [hps, runC_append] at this; exact this)
      clear hps hrun hfit
      generalize D.getD j 0 = x at *
      go_upto_region 6 with (at_builtin; refine app1d hE.out.own (by rw [Hn1.out]; omega) hE.out.base.size rfl rfl (by rw [Hn1.out]; rfl) rfl ?_; intro v2 w2 ho2 hg2 hd2; obtain ⟨g2, d2, rfl, -, -, -, -⟩ := owns_form (n := n1 + 1) ho2.own (by simp [Hn1.out]) (by omega); have hl2 := hE.out.fa.grown hg2 (fun e => (hE.out.apart b.fa e.symm).1 rfl); have fr2 := hl2.free 0; have co2 := hl2.cell 0; have hEb := hide (hE.out.grown ho2 hg2 hd2); clear ho2 hg2 hd2 hl2)
      generalize w2.setCell ⟨b.fa, 0, none⟩ (.slice (some ⟨g2, 0, none⟩) (n1 + 1) d2) = w3 at hEb ⊢
      have HC := Lib.hid (HIH.out x _ cs w3 Hfl.out hEb.out)
      have k3 : w3.cell? ⟨b.th, 0, none⟩ = some (.func (.func 90) #[] #[.pointer (some ⟨b.fa, 0, none⟩), .pointer (some ⟨b.di, 0, none⟩), .pointer (some ⟨b.co, 0, none⟩), .pointer (some ⟨b.su, 0, none⟩), .pointer (some ⟨b.th, 0, none⟩)]) := by rw [hEb.out.th.cell]; rfl
      clear fr2 co2 k1 hcB hEb
      go_wp2_with (go_at_call 90; refine HC.out.mono ?_; rintro e w4 ⟨rfl, v4, hE4⟩; obtain ⟨g4, d4, rfl, hd4⟩ := hE4.form; have hln : (p ++ [x]).length = n1 + 1 := (by rw [List.length_append, Hn1.out]; rfl); rw [hln] at hE4 hd4; have m1 : w4.cell? ⟨b.fa, 0, none⟩ = some (.slice (some ⟨g4, 0, none⟩) (n1 + 1) d4) := (by rw [hE4.fa.cell]; rfl); have m2 := hE4.fa.free 0; have m3 : ¬ d4 = n1 := (by omega); have m4 : ¬ d4 = 0 := (by omega); have HE4 := hide hE4; clear hE4 hln)
      have hE5 := HE4.out
      rw [← Hn1.out] at hE5
      have hE6 := hE5.cut
      rw [Hn1.out] at hE6
      exact ⟨⟨j + 1, _, _, rfl, by omega, Hrr, Hfr, hide hE6⟩, by simp [intOf]; omega⟩
    · obtain rfl : j = dl := by omega
      have e := hrun.out
      rw [← HdL.out, partB_end] at e
      have e2 : cs = R := e
      subst e2
      go_wp2
      go_end0
      exact ⟨rfl, _, hE.out⟩

theorem recB (b : BB) (w0 : World) (k n c0 : Nat) (A : Option Addr) (xss : List (List Int)) (hr : RdR w0 A n xss) (hrow : ∀ i, i < n → (xss.getD i []).length ≤ 1048576) (hk1 : 1 ≤ k) (hkn : k ≤ n) (hn6 : n ≤ 6) : ∀ m, RecB b w0 k (.slice A n c0) xss m
  | 0 => recB0 b w0 k n c0 A xss hr.len hk1 hkn hn6
  | m + 1 => recBS b w0 k n c0 m A xss hr hrow hn6 (recB b w0 k n c0 A xss hr hrow hk1 hkn hn6 m)
end Go.Proofs.Ythpboedpoipkcaa
