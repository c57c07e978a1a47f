/- The walk of the law FnOtherDice. Conditions: none. Printed by gen_lawoth.py. -/
import Derived.Test.YthpboedpoipkcaaLawOtherPair
import Derived.Test.YthpboedpoipkcaaOthP
import Derived.Test.YthpboedpoipkcaaB10D
import Derived.Test.YthpboedpoipkcaaB10Dice
import Derived.Test.YthpboedpoipkcaaRingR
import Derived.Deep.RegionHeld3
import Derived.Deep.DeepCutAuto
namespace Go.Proofs.Ythpboedpoipkcaa
open Go.ChangeShapes Go.WideShapes Go.ChangeAt Go.RowKit

theorem lAtJ (A : Option Addr) (n c : Nat) (xs : List Int) (i : Nat) (i' : Int) (w : World) (hr : RdU w A n xs) (hi : i ≤ 100) (he : i' = (i : Int)) :
    Calls Try.prog 49 #[.slice A n c, .int .i64 i', .int .i64 6] w fun e w' => (∃ v : Nat, e = .returned (.int .i64 (v : Int)) ∧ v < 6) ∧ w = w' := by
  subst he
  exact lAt A n c i 6 xs w hr hi (by omega) (by omega)
theorem drew_more (w : World) (q x q2 : Nat) : ∃ n, (w.drewN (q + x)).drewN q2 = w.drewN (q + n) := ⟨x + q2, by rw [World.drewN_drewN, Nat.add_assoc]⟩
theorem rdOf {w : World} {B : Option Addr} {n c : Nat} {xs : List Int} (hl : xs.length = n) (h : RV w (.slice B n c) xs) : Rd w B n (iv xs) := by
  obtain ⟨A, c', e, hr, -⟩ := h
  injection e with e1 e2 e3
  subst e1
  rw [← hl]
  exact hr
theorem duo_rows {w : World} {v1 v2 : Value} {xs ys : List Int} (h1 : RV w v1 xs) (h2 : RV w v2 ys) : RVR (w.alloc (.cells #[v1, v2] 27)) (.slice (some ⟨w.heap.size, 0, none⟩) 2 2) [xs, ys] := by
  have hb := (Below.refl w.heap.size w).alloc (Nat.le_refl _) (.cells #[v1, v2] 27)
  refine ⟨_, 2, rfl, ⟨[v1, v2], rfl, (Bk.new w 27 [v1, v2]).rd, fun k v hk => ?_⟩, Nat.le_refl _⟩
  match k, hk with
  | 0, hk => injection hk with hk; subst hk; exact h1.below hb
  | 1, hk => injection hk with hk; subst hk; exact h2.below hb
  | k + 2, hk => simp at hk
theorem trio_rows {w : World} {v1 : Value} {xs : List Int} (h1 : RV w v1 xs) : RVR (w.alloc (.cells #[v1, v1, v1] 27)) (.slice (some ⟨w.heap.size, 0, none⟩) 3 3) [xs, xs, xs] := by
  have hb := (Below.refl w.heap.size w).alloc (Nat.le_refl _) (.cells #[v1, v1, v1] 27)
  refine ⟨_, 3, rfl, ⟨[v1, v1, v1], rfl, (Bk.new w 27 [v1, v1, v1]).rd, fun k v hk => ?_⟩, Nat.le_refl _⟩
  match k, hk with
  | 0, hk => injection hk with hk; subst hk; exact h1.below hb
  | 1, hk => injection hk with hk; subst hk; exact h1.below hb
  | 2, hk => injection hk with hk; subst hk; exact h1.below hb
  | k + 3, hk => simp at hk
theorem RP_plain {v : Nat} (hv : v < 6) : RP ((1 : Int) + (v : Int)) = (pl (v + 2), true) := by
  unfold RP
  rw [inB_t (by omega), if_pos rfl, show ((1 : Int) + (v : Int)).toNat + 1 = v + 2 by omega]
/-- both sides of OtherPair at a plain die -/
theorem pair_at {d : List Int} (hd : d.length ≤ 12) (hok : pairOk d = true) : ∃ X Y b, X.length ≤ 12 ∧ Y.length ≤ 12 ∧ (b = true → RSameSums [X, Y] [d, d] = (true, true) ∧ (eqL X d = false ∨ eqL Y d = false)) ∧
    (∀ v W, RV W v d → Calls Try.prog 46 #[.agg #[v]] W fun e w' => ∃ r1 r2, e = .returned (.tuple #[.agg #[r1], .agg #[r2], .bool b]) ∧ RV w' r1 X ∧ RV w' r2 Y ∧ Below W.heap.size W w') ∧
    (∀ v W, RV W v d → Calls Try.prog 47 #[.agg #[v]] W fun e w' => ∃ r1 r2, e = .returned (.tuple #[.agg #[r1], .agg #[r2], .bool b]) ∧ RV w' r1 X ∧ RV w' r2 Y ∧ Below W.heap.size W w') := by
  unfold pairOk at hok
  cases hr : ROther d with
  | none =>
    refine ⟨[], [], false, by simp, by simp, (fun h => nomatch h), fun v W hv => (sOther v d W hv (by omega)).mono ?_, fun v W hv => (iOther v d W hv (by omega)).mono ?_⟩
    · rintro e w' ⟨r1, r2, rfl, hb, hp⟩
      rw [hr] at hp
      obtain ⟨rfl, rfl⟩ := hp
      exact ⟨_, _, by rw [hr]; rfl, (Own.nil w' 0 0).rv, (Own.nil w' 0 0).rv, hb⟩
    · rintro e w' ⟨r1, r2, rfl, hb, hp⟩
      rw [hr] at hp
      obtain ⟨rfl, rfl⟩ := hp
      exact ⟨_, _, by rw [hr]; rfl, (Own.nil w' 0 0).rv, (Own.nil w' 0 0).rv, hb⟩
  | some p =>
    obtain ⟨x, y⟩ := p
    obtain ⟨hx, hy⟩ := ROther_len hr
    rw [hr] at hok
    simp only [Bool.and_eq_true, Bool.not_eq_true', Bool.and_eq_false_iff] at hok
    refine ⟨x, y, true, by omega, by omega, fun _ => ⟨?_, hok.2⟩, fun v W hv => (sOther v d W hv (by omega)).mono ?_, fun v W hv => (iOther v d W hv (by omega)).mono ?_⟩
    · obtain ⟨⟨h1, h2⟩, -⟩ := hok
      exact Prod.ext h1 h2
    · rintro e w' ⟨r1, r2, rfl, hb, hp⟩
      rw [hr] at hp
      exact ⟨_, _, by rw [hr]; rfl, hp.1, hp.2, hb⟩
    · rintro e w' ⟨r1, r2, rfl, hb, hp⟩
      rw [hr] at hp
      exact ⟨_, _, by rw [hr]; rfl, hp.1.own.rv, hp.2.1.own.rv, hb⟩

set_option maxRecDepth 100000 in
set_option maxHeartbeats 6400000 in
theorem lawOtherDice (A0 A1 : Option Addr) (c0 c1 : Nat) (x0 x1 : List Int) (w : World) (hr0 : RdU w A0 x0.length x0) (hr1 : RdU w A1 x1.length x1) :
    Calls Try.prog 13 #[.slice A0 x0.length c0, .slice A1 x1.length c1] w fun e w' => e = .returned (.bool true) ∧ Below w.heap.size w w' := by
  have HL := Lib.hid (fun W => lLong A0 A1 x0.length x1.length c0 c1 W)
  by_cases hlong : 1048576 < x0.length ∨ 1048576 < x1.length
  · have e : (decide (1048576 < x0.length) || decide (1048576 < x1.length)) = true := by simpa using hlong
    rw [e] at HL
    clear hlong e hr1 hr0
    generalize x0.length = n0 at *
    generalize x1.length = n1 at *
    go_enter Try.func13, Try.ntmps13
    go_wp2_with (go_at_call 48; refine (HL.out _).mono ?_; rintro e w' ⟨rfl, rfl⟩)
    go_ret
    exact ⟨rfl, Below.refl _ _⟩
  have e : (decide (1048576 < x0.length) || decide (1048576 < x1.length)) = false := by simp; omega
  rw [e] at HL
  have HA := Lib.hid (fun W i i' (h : RdU W A1 x1.length x1) a b => lAtJ A1 x1.length c1 x1 i i' W h a b)
  have HDc := Lib.hid (fun W (h : RdU W A0 x0.length x0) => b10Dice A0 x0.length c0 x0 W h (by omega))
  have HR0 := hide hr0
  have HR1 := hide hr1
  clear hlong e hr1 hr0
  generalize x0.length = n0 at *
  generalize x1.length = n1 at *
  go_enter Try.func13, Try.ntmps13
  go_wp2_with fail
  refine (HL.out _).mono ?_
  rintro e w' ⟨rfl, rfl⟩
  have A := Below.refl w.heap.size w
  go_wp2_with fail
  refine (HA.out _ 0 _ HR1.out (by omega) (by omega)).mono ?_
  rintro e w' ⟨⟨f, rfl, hf⟩, rfl⟩
  have ef : IntKind.i64.wrap ((1 : Int) + (f : Int)) = (1 : Int) + (f : Int) := IntWalk.i64_in _ (by omega)
  have HPl := Lib.hid (fun W => iPlainDie ((1 : Int) + (f : Int)) W)
  rw [RP_plain hf] at HPl
  have hpl : (pl (f + 2)).length = f + 1 := by rw [pl_len]; omega
  obtain ⟨X, Y, b, hX, hY, hbt, hs, hi⟩ := pair_at (d := pl (f + 2)) (by omega) (pair_plain (n := f + 1) (by omega) (by omega))
  have hrp : RIsRing [pl (f + 2), pl (f + 2), pl (f + 2)] = (false, true) ∧ dieB (pl (f + 2)) = true := ring_plain ⟨f, by omega⟩
  have HRP := hide hrp
  have HBT := hide hbt
  have HS := Lib.hid hs
  have HI := Lib.hid hi
  obtain ⟨P, HP⟩ : ∃ P, Hid (pl (f + 2) = P) := ⟨_, hide rfl⟩
  rw [HP.out] at HPl hpl HRP HBT HS HI
  have hp12 : P.length ≤ 12 := by omega
  have HLP : Hid (P.length = f + 1) := hide hpl
  obtain ⟨n1, HL1⟩ : ∃ n, Hid (X.length = n) := ⟨_, hide rfl⟩
  obtain ⟨n2, HL2⟩ : ∃ n, Hid (Y.length = n) := ⟨_, hide rfl⟩
  obtain ⟨np, HLp⟩ : ∃ n, Hid (P.length = n) := ⟨_, hide rfl⟩
  have HVd := Lib.hid (fun v W h => iValidD v P W h (by omega))
  rw [HRP.out.2] at HVd
  have HSd := Lib.hid (fun v u W h1 h2 => iSameD v u P P W h1 h2 (by omega) (by omega))
  rw [eqL_t rfl] at HSd
  have HSX := Lib.hid (fun v u W h1 h2 => iSameD v u X P W h1 h2 (by omega) (by omega))
  have HSY := Lib.hid (fun v u W h1 h2 => iSameD v u Y P W h1 h2 (by omega) (by omega))
  have hn1 : n1 ≤ 12 := by rw [← HL1.out]; exact hX
  have hn2 : n2 ≤ 12 := by rw [← HL2.out]; exact hY
  have hnp : np ≤ 12 := by rw [← HLp.out]; exact hp12
  clear hs hi hbt hX hY hrp hpl hp12
  go_wp2_with fail
  refine (HPl.out _).mono ?_
  rintro e w2 ⟨rp, rfl, Op, hb⟩
  have Z1 := hb.size
  replace A := A.trans (hb.mono A.size)
  have Fp := Op.rv
  clear hb Op
  obtain ⟨Bp, cp, hvp, -, hqp⟩ := id Fp
  rw [HLp.out] at hvp hqp
  subst hvp
  have hB := (Below.refl w2.heap.size w2).alloc (Nat.le_refl _) (.cells #[.slice Bp np cp] 27)
  have Z2 := hB.size
  replace A := A.trans (hB.mono A.size)
  replace Fp := Fp.below hB
  have Kp := dcell w2 (.slice Bp np cp) 27
  have Jp : w2.heap.size < (w2.alloc (.cells #[.slice Bp np cp] 27)).heap.size := by simp
  go_wp2_with fail
  generalize w2.alloc (.cells #[.slice Bp np cp] 27) = w3 at *
  clear hB
  refine (HS.out _ _ Fp).mono ?_
  rintro e w4 ⟨rs, rt, rfl, Fs, Ft, hb⟩
  have Z3 := hb.size
  replace A := A.trans (hb.mono A.size)
  replace Fp := Fp.below hb
  replace Kp := bcell1 hb Kp Jp
  replace Jp := Nat.lt_of_lt_of_le Jp hb.size
  clear hb
  obtain ⟨Bs, cs, hvs, -, hqs⟩ := id Fs
  rw [HL1.out] at hvs hqs
  subst hvs
  obtain ⟨Bt, ct, hvt, -, hqt⟩ := id Ft
  rw [HL2.out] at hvt hqt
  subst hvt
  have hB := two_below w4 (.cells #[.slice Bs n1 cs] 27) (.cells #[.slice Bt n2 ct] 27)
  have Z4 := hB.size
  replace A := A.trans (hB.mono A.size)
  replace Fp := Fp.below hB
  replace Fs := Fs.below hB
  replace Ft := Ft.below hB
  replace Kp := bcell1 hB Kp Jp
  replace Jp := Nat.lt_of_lt_of_le Jp hB.size
  obtain ⟨Ks, Kt⟩ := two_box w4 27 (.slice Bs n1 cs) (.slice Bt n2 ct)
  have Js : w4.heap.size < ((w4.alloc (.cells #[.slice Bs n1 cs] 27)).alloc (.cells #[.slice Bt n2 ct] 27)).heap.size := by first | (simp; done) | (simp; omega)
  have Jt : w4.heap.size + 1 < ((w4.alloc (.cells #[.slice Bs n1 cs] 27)).alloc (.cells #[.slice Bt n2 ct] 27)).heap.size := by simp
  go_wp2_with fail
  generalize (w4.alloc (.cells #[.slice Bs n1 cs] 27)).alloc (.cells #[.slice Bt n2 ct] 27) = w5 at *
  clear hB
  clear Fs Ft Ks Kt Js Jt
  refine (HI.out _ _ Fp).mono ?_
  rintro e w6 ⟨rg, rh, rfl, Fg, Fh, hb⟩
  have Z5 := hb.size
  replace A := A.trans (hb.mono A.size)
  replace Fp := Fp.below hb
  replace Kp := bcell1 hb Kp Jp
  replace Jp := Nat.lt_of_lt_of_le Jp hb.size
  clear hb
  obtain ⟨Bg, cg, hvg, -, hqg⟩ := id Fg
  rw [HL1.out] at hvg hqg
  subst hvg
  obtain ⟨Bh, ch, hvh, -, hqh⟩ := id Fh
  rw [HL2.out] at hvh hqh
  subst hvh
  have hB := two_below w6 (.cells #[.slice Bg n1 cg] 27) (.cells #[.slice Bh n2 ch] 27)
  have Z6 := hB.size
  replace A := A.trans (hB.mono A.size)
  replace Fp := Fp.below hB
  replace Fg := Fg.below hB
  replace Fh := Fh.below hB
  replace Kp := bcell1 hB Kp Jp
  replace Jp := Nat.lt_of_lt_of_le Jp hB.size
  obtain ⟨Kg, Kh⟩ := two_box w6 27 (.slice Bg n1 cg) (.slice Bh n2 ch)
  have Jg : w6.heap.size < ((w6.alloc (.cells #[.slice Bg n1 cg] 27)).alloc (.cells #[.slice Bh n2 ch] 27)).heap.size := by first | (simp; done) | (simp; omega)
  have Jh : w6.heap.size + 1 < ((w6.alloc (.cells #[.slice Bg n1 cg] 27)).alloc (.cells #[.slice Bh n2 ch] 27)).heap.size := by simp
  go_wp2_with fail
  generalize (w6.alloc (.cells #[.slice Bg n1 cg] 27)).alloc (.cells #[.slice Bh n2 ch] 27) = w7 at *
  clear hB
  refine (HVd.out _ _ Fp).mono ?_
  rintro e w8 ⟨rfl, hb⟩
  have Z7 := hb.size
  replace A := A.trans (hb.mono A.size)
  replace Fp := Fp.below hb
  replace Fg := Fg.below hb
  replace Fh := Fh.below hb
  replace Kp := bcell1 hb Kp Jp
  replace Jp := Nat.lt_of_lt_of_le Jp hb.size
  replace Kg := bcell1 hb Kg Jg
  replace Jg := Nat.lt_of_lt_of_le Jg hb.size
  replace Kh := bcell1 hb Kh Jh
  replace Jh := Nat.lt_of_lt_of_le Jh hb.size
  clear hb
  go_wp2_with fail
  refine (HSd.out _ _ _ Fp Fp).mono ?_
  rintro e w9 ⟨rfl, hb⟩
  have Z8 := hb.size
  replace A := A.trans (hb.mono A.size)
  replace Fp := Fp.below hb
  replace Fg := Fg.below hb
  replace Fh := Fh.below hb
  replace Kp := bcell1 hb Kp Jp
  replace Jp := Nat.lt_of_lt_of_le Jp hb.size
  replace Kg := bcell1 hb Kg Jg
  replace Jg := Nat.lt_of_lt_of_le Jg hb.size
  replace Kh := bcell1 hb Kh Jh
  replace Jh := Nat.lt_of_lt_of_le Jh hb.size
  clear hb
  go_upto_if 79 with fail
  go_cut [] (fun wx => Below w.heap.size w wx ∧ wx.cell? ⟨w2.heap.size, 0, none⟩ = some (.slice Bp np cp) ∧ RV wx (.slice Bp np cp) P ∧ w2.heap.size < wx.heap.size)
  case first =>
    cases b with
    | false =>
      go_wp2
      go_meet
      exact ⟨A, Kp, Fp, Jp⟩
    | true =>
      go_wp2_with fail
      refine (HS.out _ _ Fp).mono ?_
      rintro e w10 ⟨rk, rl, rfl, Fk, Fl, hb⟩
      have Z9 := hb.size
      replace A := A.trans (hb.mono A.size)
      replace Fp := Fp.below hb
      replace Fg := Fg.below hb
      replace Fh := Fh.below hb
      replace Kp := bcell1 hb Kp Jp
      replace Jp := Nat.lt_of_lt_of_le Jp hb.size
      replace Kg := bcell1 hb Kg Jg
      replace Jg := Nat.lt_of_lt_of_le Jg hb.size
      replace Kh := bcell1 hb Kh Jh
      replace Jh := Nat.lt_of_lt_of_le Jh hb.size
      clear hb
      obtain ⟨Bk, ck, hvk, -, hqk⟩ := id Fk
      rw [HL1.out] at hvk hqk
      subst hvk
      obtain ⟨Bl, cl, hvl, -, hql⟩ := id Fl
      rw [HL2.out] at hvl hql
      subst hvl
      have hB := two_below w10 (.cells #[.slice Bk n1 ck] 27) (.cells #[.slice Bl n2 cl] 27)
      have Z10 := hB.size
      replace A := A.trans (hB.mono A.size)
      replace Fp := Fp.below hB
      replace Fg := Fg.below hB
      replace Fh := Fh.below hB
      replace Fk := Fk.below hB
      replace Fl := Fl.below hB
      replace Kp := bcell1 hB Kp Jp
      replace Jp := Nat.lt_of_lt_of_le Jp hB.size
      replace Kg := bcell1 hB Kg Jg
      replace Jg := Nat.lt_of_lt_of_le Jg hB.size
      replace Kh := bcell1 hB Kh Jh
      replace Jh := Nat.lt_of_lt_of_le Jh hB.size
      obtain ⟨Kk, Kl⟩ := two_box w10 27 (.slice Bk n1 ck) (.slice Bl n2 cl)
      have Jk : w10.heap.size < ((w10.alloc (.cells #[.slice Bk n1 ck] 27)).alloc (.cells #[.slice Bl n2 cl] 27)).heap.size := by first | (simp; done) | (simp; omega)
      have Jl : w10.heap.size + 1 < ((w10.alloc (.cells #[.slice Bk n1 ck] 27)).alloc (.cells #[.slice Bl n2 cl] 27)).heap.size := by simp
      go_upto_region 11 with fail
      generalize (w10.alloc (.cells #[.slice Bk n1 ck] 27)).alloc (.cells #[.slice Bl n2 cl] 27) = w11 at *
      clear hB
      have hrow1 := duo_rows (w := w11) Fg Fh
      have hB1 := (Below.refl w11.heap.size w11).alloc (Nat.le_refl _) (.cells #[.slice Bg n1 cg, .slice Bh n2 ch] 27)
      have hrow2 := duo_rows (w := w11.alloc (.cells #[.slice Bg n1 cg, .slice Bh n2 ch] 27)) (Fp.below hB1) (Fp.below hB1)
      have hsz : (w11.alloc (.cells #[.slice Bg n1 cg, .slice Bh n2 ch] 27)).heap.size = w11.heap.size + 1 := by simp
      rw [hsz] at hrow2
      have hB2 := (Below.refl (w11.alloc (.cells #[.slice Bg n1 cg, .slice Bh n2 ch] 27)).heap.size (w11.alloc (.cells #[.slice Bg n1 cg, .slice Bh n2 ch] 27))).alloc (Nat.le_refl _) (.cells #[.slice Bp np cp, .slice Bp np cp] 27)
      have ht1 : tot [X, Y] ≤ 1048576 := by show totTo _ 2 ≤ _; simp only [totTo, List.getD, List.getElem?_cons_zero, List.getElem?_cons_succ, Option.getD_some]; simp; have := HL1.out; have := HL2.out; omega
      have ht2 : tot [P, P] ≤ 1048576 := by show totTo _ 2 ≤ _; simp only [totTo, List.getD, List.getElem?_cons_zero, List.getElem?_cons_succ, Option.getD_some]; simp; have := HLp.out; omega
      have HSS := Lib.hid (iSameSums _ [X, Y] _ [P, P] _ (hrow1.below hB2) hrow2 ht1 ht2)
      rw [(HBT.out (by trivial)).1] at HSS
      have hB := hB1.trans (hB2.mono hB1.size)
      have Kp2 := bcell1 hB1 Kp Jp
      clear hrow1 hrow2 hB1 hB2 hsz ht1 ht2
      go_wp2_with fail
      refine HSS.out.mono ?_
      rintro e w12 ⟨rfl, hb⟩
      replace hb := hB.trans (hb.mono hB.size)
      clear Kp2
      have Z11 := hb.size
      replace A := A.trans (hb.mono A.size)
      replace Fp := Fp.below hb
      replace Fg := Fg.below hb
      replace Fh := Fh.below hb
      replace Fk := Fk.below hb
      replace Fl := Fl.below hb
      replace Kp := bcell1 hb Kp Jp
      replace Jp := Nat.lt_of_lt_of_le Jp hb.size
      replace Kg := bcell1 hb Kg Jg
      replace Jg := Nat.lt_of_lt_of_le Jg hb.size
      replace Kh := bcell1 hb Kh Jh
      replace Jh := Nat.lt_of_lt_of_le Jh hb.size
      replace Kk := bcell1 hb Kk Jk
      replace Jk := Nat.lt_of_lt_of_le Jk hb.size
      replace Kl := bcell1 hb Kl Jl
      replace Jl := Nat.lt_of_lt_of_le Jl hb.size
      clear hb hB
      have HI1 := Lib.hid (lInts Bg Bk n1 cg ck X w12 (rdOf HL1.out Fg) (rdOf HL1.out Fk) (by omega))
      go_wp2_with fail
      refine HI1.out.mono ?_
      rintro e w' ⟨rfl, q, rfl⟩
      have hb : Below w12.heap.size w12 (w12.drewN q) := below_drewN (Below.refl _ _) q
      have Z12 := hb.size
      replace A := A.trans (hb.mono A.size)
      replace Fp := Fp.below hb
      replace Fg := Fg.below hb
      replace Fh := Fh.below hb
      replace Fk := Fk.below hb
      replace Fl := Fl.below hb
      replace Kp := bcell1 hb Kp Jp
      replace Jp := Nat.lt_of_lt_of_le Jp hb.size
      replace Kg := bcell1 hb Kg Jg
      replace Jg := Nat.lt_of_lt_of_le Jg hb.size
      replace Kh := bcell1 hb Kh Jh
      replace Jh := Nat.lt_of_lt_of_le Jh hb.size
      replace Kk := bcell1 hb Kk Jk
      replace Jk := Nat.lt_of_lt_of_le Jk hb.size
      replace Kl := bcell1 hb Kl Jl
      replace Jl := Nat.lt_of_lt_of_le Jl hb.size
      generalize w12.drewN q = w13 at *
      clear hb
      have HI2 := Lib.hid (lInts Bh Bl n2 ch cl Y w13 (rdOf HL2.out Fh) (rdOf HL2.out Fl) (by omega))
      go_wp2_with fail
      refine HI2.out.mono ?_
      rintro e w' ⟨rfl, q, rfl⟩
      have hb : Below w13.heap.size w13 (w13.drewN q) := below_drewN (Below.refl _ _) q
      have Z13 := hb.size
      replace A := A.trans (hb.mono A.size)
      replace Fp := Fp.below hb
      replace Fg := Fg.below hb
      replace Fh := Fh.below hb
      replace Fk := Fk.below hb
      replace Fl := Fl.below hb
      replace Kp := bcell1 hb Kp Jp
      replace Jp := Nat.lt_of_lt_of_le Jp hb.size
      replace Kg := bcell1 hb Kg Jg
      replace Jg := Nat.lt_of_lt_of_le Jg hb.size
      replace Kh := bcell1 hb Kh Jh
      replace Jh := Nat.lt_of_lt_of_le Jh hb.size
      replace Kk := bcell1 hb Kk Jk
      replace Jk := Nat.lt_of_lt_of_le Jk hb.size
      replace Kl := bcell1 hb Kl Jl
      replace Jl := Nat.lt_of_lt_of_le Jl hb.size
      generalize w13.drewN q = w14 at *
      clear hb
      have HBx := hide (HBT.out (by trivial)).2
      have HX1 := Lib.hid (HSX.out _ _ w14 Fg Fp)
      cases hx : eqL X P with
      | false =>
        rw [hx] at HX1
        clear hx
        go_wp2_with fail
        refine HX1.out.mono ?_
        rintro e w15 ⟨rfl, hb⟩
        go_wp2
        go_meet
        exact ⟨A.trans (hb.mono A.size), bcell1 hb Kp Jp, Fp.below hb, Nat.lt_of_lt_of_le Jp hb.size⟩
      | true =>
        rw [hx] at HX1
        have hy : eqL Y P = false := by
          rcases HBx.out with h | h
          · rw [hx] at h; cases h
          · exact h
        clear hx
        go_wp2_with fail
        refine HX1.out.mono ?_
        rintro e w15 ⟨rfl, hb⟩
        have Z14 := hb.size
        replace A := A.trans (hb.mono A.size)
        replace Fp := Fp.below hb
        replace Fg := Fg.below hb
        replace Fh := Fh.below hb
        replace Fk := Fk.below hb
        replace Fl := Fl.below hb
        replace Kp := bcell1 hb Kp Jp
        replace Jp := Nat.lt_of_lt_of_le Jp hb.size
        replace Kg := bcell1 hb Kg Jg
        replace Jg := Nat.lt_of_lt_of_le Jg hb.size
        replace Kh := bcell1 hb Kh Jh
        replace Jh := Nat.lt_of_lt_of_le Jh hb.size
        replace Kk := bcell1 hb Kk Jk
        replace Jk := Nat.lt_of_lt_of_le Jk hb.size
        replace Kl := bcell1 hb Kl Jl
        replace Jl := Nat.lt_of_lt_of_le Jl hb.size
        clear hb
        have HY1 := Lib.hid (HSY.out _ _ w15 Fh Fp)
        rw [hy] at HY1
        clear hy
        go_wp2_with fail
        refine HY1.out.mono ?_
        rintro e w16 ⟨rfl, hb⟩
        go_wp2
        go_meet
        exact ⟨A.trans (hb.mono A.size), bcell1 hb Kp Jp, Fp.below hb, Nat.lt_of_lt_of_le Jp hb.size⟩
  case rest =>
    clear A Kp Fp Jp Fg Fh Kg Kh Jg Jh
    obtain ⟨A, Kp, Fp, Jp⟩ := hcut
    clear HS HI HSX HSY HVd HSd HBT
    go_wp2_with fail
    refine (HDc.out _ (HR0.out.below A)).mono ?_
    rintro e w30 ⟨xs, ys, rd, rfl, hx, hy, Fd, hb⟩
    have Z15 := hb.size
    replace A := A.trans (hb.mono A.size)
    replace Fp := Fp.below hb
    replace Kp := bcell1 hb Kp Jp
    replace Jp := Nat.lt_of_lt_of_le Jp hb.size
    clear hb
    obtain ⟨AD, cD, rfl, hdr, hcD⟩ := id Fd
    obtain ⟨ad, B1, d1, rfl, hbl1, hc1, hr1, hd1⟩ := hdr.at (k := 0) (show 0 < 2 by omega)
    obtain ⟨ad2, B2, d2, e2, hbl2, hc2, hr2, hd2⟩ := hdr.at (k := 1) (show 1 < 2 by omega)
    cases e2
    have hc1 : w30.cell? ad = some (.slice B1 xs.length d1) := hc1
    have hc1a : w30.cell? (ad.add 0) = some (.slice B1 xs.length d1) := hc1
    have hc2 : w30.cell? ⟨ad.block, ad.off + 1, none⟩ = some (.slice B2 ys.length d2) := hc2
    have hq1 : ad.block < w30.heap.size := hbl1
    have hq2 : (⟨ad.block, ad.off + 1, none⟩ : Addr).block < w30.heap.size := hbl1
    have FX : RV w30 (.slice B1 xs.length d1) xs := RV.mk hr1 hd1
    have FY : RV w30 (.slice B2 ys.length d2) ys := RV.mk hr2 hd2
    have hlx := (dieB_len hx).2
    have hly := (dieB_len hy).2
    have HBx := Lib.hid (fun W (h : Below w30.heap.size w30 W) => iBeatsD (.slice B1 xs.length d1) (.slice B2 ys.length d2) xs ys W (FX.below h) (FY.below h) (by omega) (by omega))
    have HBy := Lib.hid (fun W (h : Below w30.heap.size w30 W) => iBeatsD (.slice B2 ys.length d2) (.slice B1 xs.length d1) ys xs W (FY.below h) (FX.below h) (by omega) (by omega))
    rw [show RBeats xs ys = (bt xs ys, true) from by rw [RBeats, if_pos (by rw [hx, hy]; rfl)]] at HBx
    rw [show RBeats ys xs = (bt ys xs, true) from by rw [RBeats, if_pos (by rw [hx, hy]; rfl)], bt_swap xs ys] at HBy
    have hsum := bt_sum xs ys
    have hmul : xs.length * ys.length ≤ 12 * 12 := Nat.mul_le_mul hlx hly
    generalize xs.length = lx at *
    generalize ys.length = ly at *
    generalize hba : bt xs ys = bb at *
    obtain ⟨ba, bb1, bc⟩ := bb
    have hsum : ba + bb1 + bc = lx * ly := hsum
    obtain ⟨q, Hq⟩ : ∃ q, Hid (lx * ly = q) := ⟨_, hide rfl⟩
    rw [Hq.out] at hsum hmul
    have HSum := hide hsum
    have hw1 : ba + bb1 + bc ≤ 144 := by omega
    clear hba hsum hdr hr1 hr2 hd1 hd2 FX FY hx hy hbl1 hbl2
    have hcur : Below w30.heap.size w30 w30.drew := below_drewN (Below.refl _ _) 1
    go_wp2_with fail
    go_region_held3 (fun w' => w'.cell? ad = some (.slice B1 lx d1) ∧ w'.cell? ⟨ad.block, ad.off + 1, none⟩ = some (.slice B2 ly d2))
      (first | exact ⟨hc1, hc2⟩ | exact ⟨(hcur.cell (p := ad) hq1).trans hc1, (hcur.cell (p := ⟨ad.block, ad.off + 1, none⟩) hq2).trans hc2⟩ | go_keep)
      ((go_at_call 27; refine (HBx.out _ hcur).mono ?_; rintro e w31 ⟨rfl, hb31⟩; have hcur := hcur.trans (hb31.mono hcur.size)))
    have hcur2 : Below w30.heap.size w30 w31.drew := below_drewN hcur 1
    go_wp2_with fail
    go_region_held3 (fun w' => w'.cell? ad = some (.slice B1 lx d1) ∧ w'.cell? ⟨ad.block, ad.off + 1, none⟩ = some (.slice B2 ly d2))
      (first | exact ⟨(hcur2.cell (p := ad) hq1).trans hc1, (hcur2.cell (p := ⟨ad.block, ad.off + 1, none⟩) hq2).trans hc2⟩ | go_keep)
      ((go_at_call 27; refine (HBy.out _ hcur2).mono ?_; rintro e w32 ⟨rfl, hb32⟩; have hcur2 := hcur2.trans (hb32.mono hcur2.size)))
    have hc3 : w32.cell? ad = some (.slice B1 lx d1) := (hcur2.cell (p := ad) hq1).trans hc1
    have hc4 : w32.cell? ⟨ad.block, ad.off + 1, none⟩ = some (.slice B2 ly d2) := (hcur2.cell (p := ⟨ad.block, ad.off + 1, none⟩) hq2).trans hc2
    have hb : Below w30.heap.size w30 w32 := hcur2
    have Z16 := hb.size
    replace A := A.trans (hb.mono A.size)
    replace Fp := Fp.below hb
    replace Kp := bcell1 hb Kp Jp
    replace Jp := Nat.lt_of_lt_of_le Jp hb.size
    clear hb hcur hcur2 hc1 hc1a hc2 hq1 hq2 HBx HBy
    have e1 : IntKind.i64.wrap ((ba : Int) + (bb1 : Int)) = (ba : Int) + (bb1 : Int) := IntWalk.i64_in _ (by omega)
    have e2 : IntKind.i64.wrap ((ba : Int) + (bb1 : Int) + (bc : Int)) = (q : Int) := (IntWalk.i64_in _ (by omega)).trans (by have := HSum.out; omega)
    have e3 : IntKind.i64.wrap ((lx : Int) * (ly : Int)) = (q : Int) := by
      have h : (lx : Int) * (ly : Int) = (q : Int) := by rw [← Hq.out, Int.natCast_mul]
      rw [h]
      exact IntWalk.i64_in _ (by omega)
    go_wp2
    go_quiet (fail)
    have hb : Below w32.heap.size w32 (w32.drewN nq) := below_drewN (Below.refl _ _) nq
    have Z17 := hb.size
    replace A := A.trans (hb.mono A.size)
    replace Fp := Fp.below hb
    replace Kp := bcell1 hb Kp Jp
    replace Jp := Nat.lt_of_lt_of_le Jp hb.size
    generalize w32.drewN nq = w33 at *
    clear hb e1 e2 e3 hc3 hc4 HSum Hq hw1 hmul
    go_wp2_with fail
    refine (HA.out _ 1 _ (HR1.out.below A) (by omega) (by omega)).mono ?_
    rintro e w' ⟨⟨f2, rfl, hf2⟩, rfl⟩
    have ef2 : IntKind.i64.wrap ((1 : Int) + (f2 : Int)) = (1 : Int) + (f2 : Int) := IntWalk.i64_in _ (by omega)
    obtain ⟨xss, b2, hring, htot, hi2, hs2⟩ := ring_both 3 ((1 : Int) + (f2 : Int))
    have HI2 := Lib.hid hi2
    have HS2 := Lib.hid hs2
    have HT := hide htot
    have HRi := hide hring
    clear hi2 hs2 htot hring
    go_wp2_with fail
    refine (HI2.out _).mono ?_
    rintro e w34 ⟨rr, rfl, hb, Or⟩
    have Fr := Or.rv
    clear Or
    have Z18 := hb.size
    replace A := A.trans (hb.mono A.size)
    replace Fp := Fp.below hb
    replace Kp := bcell1 hb Kp Jp
    replace Jp := Nat.lt_of_lt_of_le Jp hb.size
    clear hb
    go_wp2_with fail
    refine (HS2.out _).mono ?_
    rintro e w35 ⟨rw2, rfl, hb, Fw⟩
    have Z19 := hb.size
    replace A := A.trans (hb.mono A.size)
    replace Fp := Fp.below hb
    replace Fr := Fr.below hb
    replace Kp := bcell1 hb Kp Jp
    replace Jp := Nat.lt_of_lt_of_le Jp hb.size
    clear hb
    obtain ⟨Ar, cr, rfl, hrr, hcr⟩ := id Fr
    obtain ⟨Aw, cw, rfl, hrw, hcw⟩ := id Fw
    obtain ⟨nx, Hnx⟩ : ∃ nx, Hid (xss.length = nx) := ⟨_, hide rfl⟩
    rw [Hnx.out] at hrr hcr hrw hcw
    rw [Hnx.out]
    cases b2 with
    | false =>
      clear hrr hrw
      have h3 := trio_rows (w := w35) Fp
      have hB := (Below.refl w35.heap.size w35).alloc (Nat.le_refl _) (.cells #[.slice Bp np cp, .slice Bp np cp, .slice Bp np cp] 27)
      have H3 := Lib.hid (iIsRing _ [P, P, P] _ h3 (by show totTo _ 3 ≤ _; simp only [totTo, List.getD, List.getElem?_cons_zero, List.getElem?_cons_succ, Option.getD_some]; simp; have := HLp.out; omega))
      rw [HRP.out.1] at H3
      replace A := A.trans (hB.mono A.size)
      clear h3 hB
      go_wp2_with fail
      refine H3.out.mono ?_
      rintro e w41 ⟨rfl, hb⟩
      replace A := A.trans (hb.mono A.size)
      go_wp2
      go_ret
      exact ⟨rfl, A⟩
    | true =>
      obtain ⟨hrt, hr3⟩ := HRi.out rfl
      have HIR := Lib.hid (iIsRing (.slice Ar nx cr) xss w35 (by rw [← Hnx.out]; exact Fr) HT.out)
      rw [hrt] at HIR
      rw [Hnx.out] at hr3
      subst hr3
      go_wp2_with fail
      refine HIR.out.mono ?_
      rintro e w36 ⟨rfl, hb⟩
      have Z20 := hb.size
      replace A := A.trans (hb.mono A.size)
      replace Fp := Fp.below hb
      replace Fr := Fr.below hb
      replace Fw := Fw.below hb
      replace Kp := bcell1 hb Kp Jp
      replace Jp := Nat.lt_of_lt_of_le Jp hb.size
      have HRr := hide (hrr.below hb)
      have HRw := hide (hrw.below hb)
      have HTr : Hid (∀ k, (xss.getD k []).length ≤ 1048576 ∨ ¬ k < 3) := hide fun k => by
        by_cases h : k < 3
        · exact .inl (Nat.le_trans (tot_row (by rw [Hnx.out]; exact h)) HT.out)
        · exact .inr h
      clear hb hrr hrw hrt HIR
      go_wp2
      go_loopw [35, 238] (fun _ i wr => ∃ k : Nat, k ≤ 3 ∧ i = .int .i64 (k : Int) ∧ Hid (∃ q, wr = w36.drewN q)) (fun _ i _ => 3 - (intOf i).toNat)
      case atStart => exact ⟨0, by omega, rfl, hide ⟨0, rfl⟩⟩
      case round =>
        obtain ⟨k, hk, rfl, hq⟩ := hrel
        obtain ⟨q, rfl⟩ := hq.out
        by_cases hlt : k < 3
        · obtain ⟨adr, Br, dr, rfl, hblr, hcr2, hrr2, hdr2⟩ := HRr.out.at hlt
          obtain ⟨adw, Bw, dw, rfl, hblw, hcw2, hrw2, hdw2⟩ := HRw.out.at hlt
          have hlr := HTr.out k
          have HIn := Lib.hid (fun (Q : Nat) => lInts Br Bw _ dr dw (xss.getD k []) (w36.drewN Q) (hrr2.drewN Q) (hrw2.drewN Q) (by omega))
          clear hrr2 hrw2
          generalize (xss.getD k []).length = lr at *
          have g1 : (0 : Int) ≤ (k : Int) := by omega
          have g2 : (k : Int) < 3 := by omega
          go_wp2
          go_quiet ((go_at_call 50; refine (HIn.out _).mono ?_; rintro e w' ⟨rfl, q2, rfl⟩; exact ⟨rfl, drew_more _ _ _ _⟩))
          go_wp2
          go_roundw
          case rel => exact ⟨k + 1, by omega, by go_num, hide (by first | exact ⟨_, rfl⟩ | exact drew2 _ _ _)⟩
          case measure => simp [intOf]; omega
        · obtain rfl : k = 3 := by omega
          have hb : Below w36.heap.size w36 (w36.drewN q) := below_drewN (Below.refl _ _) q
          have Z21 := hb.size
          replace A := A.trans (hb.mono A.size)
          replace Fp := Fp.below hb
          replace Fr := Fr.below hb
          replace Fw := Fw.below hb
          replace Kp := bcell1 hb Kp Jp
          replace Jp := Nat.lt_of_lt_of_le Jp hb.size
          generalize w36.drewN q = w37 at *
          clear hb hq
          have h3 := trio_rows (w := w37) Fp
          have hB := (Below.refl w37.heap.size w37).alloc (Nat.le_refl _) (.cells #[.slice Bp np cp, .slice Bp np cp, .slice Bp np cp] 27)
          have H3 := Lib.hid (iIsRing _ [P, P, P] _ h3 (by show totTo _ 3 ≤ _; simp only [totTo, List.getD, List.getElem?_cons_zero, List.getElem?_cons_succ, Option.getD_some]; simp; have := HLp.out; omega))
          rw [HRP.out.1] at H3
          replace A := A.trans (hB.mono A.size)
          clear h3 hB
          go_wp2_with fail
          refine H3.out.mono ?_
          rintro e w41 ⟨rfl, hb⟩
          replace A := A.trans (hb.mono A.size)
          go_wp2
          go_ret
          exact ⟨rfl, A⟩
end Go.Proofs.Ythpboedpoipkcaa
