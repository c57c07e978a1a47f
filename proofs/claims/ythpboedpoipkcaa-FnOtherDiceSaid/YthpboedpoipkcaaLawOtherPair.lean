/- The walk of the law FnExactOtherPair. Conditions: none. Printed by gen_lawpair.py. -/
import Derived.Test.YthpboedpoipkcaaPairS
import Derived.Test.YthpboedpoipkcaaOwnX
import Derived.Deep.RegionHeld3
namespace Go.Proofs.Ythpboedpoipkcaa
open Go.ChangeShapes Go.WideShapes Go.ChangeAt Go.RowKit

theorem ROther_len {d x y : List Int} (h : ROther d = some (x, y)) : x.length = d.length ∧ y.length = d.length := by
  cases hk : okPair d with
  | false => rw [ROther_no hk] at h; cases h
  | true =>
    rw [ROther_yes hk] at h
    obtain ⟨q, hq, h2⟩ := List.exists_of_findSome?_eq_some h
    have hl := (grow_mem _ _ _ q hq).1
    unfold pairX at h2
    cases hd : divR q (twoC d) with
    | none => rw [hd] at h2; cases h2
    | some z =>
      rw [hd] at h2
      have hz := divR_len hd
      simp only [cond_eq_ite] at h2
      split at h2
      · injection h2 with h2
        injection h2 with h3 h4
        subst h3 h4
        exact ⟨hl, hz.trans hl⟩
      · cases h2
/-- both sides of OtherPair, in one form -/
theorem pair_both (d : List Int) (hd : d.length ≤ 1048576) : ∃ X Y b, X.length ≤ 1048576 ∧ Y.length ≤ 1048576 ∧
    (∀ v W, RV W v d → Calls Try.prog 46 #[.agg #[v]] W fun e w' => ∃ r1 r2, e = .returned (.tuple #[.agg #[r1], .agg #[r2], .bool b]) ∧ RV w' r1 X ∧ RV w' r2 Y ∧ Below W.heap.size W w') ∧
    (∀ v W, RV W v d → Calls Try.prog 47 #[.agg #[v]] W fun e w' => ∃ r1 r2 b1 e1 b2 e2, e = .returned (.tuple #[.agg #[r1], .agg #[r2], .bool b]) ∧ Own w' b1 e1 r1 X ∧ Own w' b2 e2 r2 Y ∧ W.heap.size ≤ b1 ∧ W.heap.size ≤ b2 ∧ e1 ≤ w'.heap.size ∧ e2 ≤ w'.heap.size ∧ (e1 ≤ b2 ∨ e2 ≤ b1) ∧ Below W.heap.size W w') := by
  cases hr : ROther d with
  | none =>
    refine ⟨[], [], false, by simp, by simp, fun v W hv => (sOther v d W hv hd).mono ?_, fun v W hv => (iOther v d W hv hd).mono ?_⟩
    · rintro e w' ⟨r1, r2, rfl, hb, hp⟩
      rw [hr] at hp
      obtain ⟨rfl, rfl⟩ := hp
      exact ⟨_, _, by rw [hr]; rfl, (Own.nil w' 0 0).rv, (Own.nil w' 0 0).rv, hb⟩
    · rintro e w' ⟨r1, r2, rfl, hb, hp⟩
      rw [hr] at hp
      obtain ⟨rfl, rfl⟩ := hp
      exact ⟨_, _, W.heap.size, W.heap.size, W.heap.size, W.heap.size, by rw [hr]; rfl, Own.nil _ _ _, Own.nil _ _ _, Nat.le_refl _, Nat.le_refl _, hb.size, hb.size, .inl (Nat.le_refl _), hb⟩
  | some p =>
    obtain ⟨x, y⟩ := p
    obtain ⟨hx, hy⟩ := ROther_len hr
    have hok : okPair d = true := by
      cases hk : okPair d with
      | true => rfl
      | false => rw [ROther_no hk] at hr; cases hr
    have h1 := (dieB_len (okPair_of hok).1).1
    refine ⟨x, y, true, by omega, by omega, fun v W hv => (sOther v d W hv hd).mono ?_, fun v W hv => (iOther v d W hv hd).mono ?_⟩
    · rintro e w' ⟨r1, r2, rfl, hb, hp⟩
      rw [hr] at hp
      exact ⟨_, _, by rw [hr]; rfl, hp.1, hp.2, hb⟩
    · rintro e w' ⟨r1, r2, rfl, hb, hp⟩
      rw [hr] at hp
      obtain ⟨g1, g2, g3⟩ := hp
      obtain ⟨b1, q1, q2, q3⟩ := own_exact g1.own (by omega)
      obtain ⟨b2, q4, q5, q6⟩ := own_exact g2.own (by omega)
      refine ⟨_, _, b1, b1 + 1, b2, b2 + 1, by rw [hr]; rfl, q3, q6, q1, q4, by omega, by omega, ?_, hb⟩
      have hne : b1 ≠ b2 := by
        rintro rfl
        obtain ⟨k1, c1, e1⟩ := owns_some q3.1 (by omega)
        obtain ⟨k2, c2, e2⟩ := owns_some q6.1 (by omega)
        subst e1 e2
        have u1 := q3.2 k1 rfl
        have u2 := q6.2 k2 rfl
        have u3 := (World.ownsRow.lt q3.1 k1 rfl).1
        have u4 := (World.ownsRow.lt q6.1 k2 rfl).1
        obtain rfl : k1 = k2 := by omega
        exact g3 k1 rfl rfl
      omega

set_option maxRecDepth 100000 in
set_option maxHeartbeats 4000000 in
theorem lawOtherPair (A0 : Option Addr) (c0 : Nat) (x0 : List Int) (w : World) (hr0 : Rd w A0 x0.length (iv x0)) (hc0 : x0.length ≤ c0) (hb0 : x0.length ≤ 9223372036854775807) :
    Calls Try.prog 12 #[.agg #[.slice A0 x0.length c0]] w fun e w' => e = .returned (.bool true) ∧ Below w.heap.size w w' := by
  have HZ := Lib.hid (fun W => szD A0 x0.length c0 1048576 W hb0 (Nat.le_refl _))
  by_cases hn0 : 1048576 < x0.length
  · simp only [if_pos hn0] at HZ
    clear hr0
    generalize x0.length = n at *
    go_enter Try.func12, Try.ntmps12
    go_wp2_with (go_at_call 15; refine (HZ.out _).mono ?_; rintro e w1 ⟨rfl, hb1⟩)
    go_ret
    exact ⟨rfl, ((Below.refl _ _).alloc (Nat.le_refl _) _).trans (hb1.mono (by simp))⟩
  simp only [if_neg hn0] at HZ
  have hm0 : x0.length ≤ 1048576 := by omega
  obtain ⟨X, Y, b, hX, hY, hs, hi⟩ := pair_both x0 hm0
  have HS := Lib.hid hs
  have HI := Lib.hid hi
  have hv := RV.mk hr0 hc0
  have Hto := Lib.hid (fun v W h => toD v x0 W h hm0)
  have Heq := Lib.hid (fun v u W h1 h2 => eqD v u x0 W h1 h2 hm0)
  have HeqX := Lib.hid (fun v u W h1 h2 => eqD v u X W h1 h2 hX)
  have HeqY := Lib.hid (fun v u W h1 h2 => eqD v u Y W h1 h2 hY)
  have HV := hide hv
  obtain ⟨n, HL⟩ : ∃ n, Hid (x0.length = n) := ⟨_, hide rfl⟩
  obtain ⟨n1, HL1⟩ : ∃ n, Hid (X.length = n) := ⟨_, hide rfl⟩
  obtain ⟨n2, HL2⟩ : ∃ n, Hid (Y.length = n) := ⟨_, hide rfl⟩
  have HMx := Lib.hid (fun lo hi v W (h : Own W lo hi v x0) => markD lo hi v x0 1 1 W (by simp) h hm0 (by omega))
  have HM1 := Lib.hid (fun lo hi v W (h : Own W lo hi v X) => markD lo hi v X 1 1 W (by simp) h hX (by omega))
  have HM2 := Lib.hid (fun lo hi v W (h : Own W lo hi v Y) => markD lo hi v Y ((1 : Int) + (n1 : Int)) (1 + n1) W (by omega) h hY (by have := HL1.out; omega))
  rw [HL.out] at HMx
  rw [HL1.out] at HM1
  rw [HL2.out] at HM2
  have HH1 := Lib.hid (fun v W (h : RV W v (marks 1 n1)) => heldD v n1 1 1 W (by simp) h (by have := HL1.out; omega) (by omega))
  have HH2 := Lib.hid (fun v W (h : RV W v (marks (1 + n1) n2)) => heldD v n2 ((1 : Int) + (n1 : Int)) (1 + n1) W (by omega) h (by have := HL2.out; omega) (by have := HL1.out; omega))
  rw [HL.out] at HZ hm0 HV hc0 hb0 hn0 ⊢
  have hn1 : n1 ≤ 1048576 := by rw [← HL1.out]; exact hX
  have hn2 : n2 ≤ 1048576 := by rw [← HL2.out]; exact hY
  clear hr0 hv hs hi hX hY
  have t1 : ¬ ((1 : Int) + (n1 : Int) < 0) := by omega
  have t2 : ¬ ((1 : Int) + (n1 : Int) + (n2 : Int) < 0) := by omega
  have t3 : ¬ ((1 : Int) + (n : Int) < 0) := by omega
  have Ka : (w.alloc (.cells #[.slice A0 n c0] 24)).cell? ⟨w.heap.size, 0, none⟩ = some (.slice A0 n c0) := dcell _ _ _
  have A : Below w.heap.size w (w.alloc (.cells #[.slice A0 n c0] 24)) := (Below.refl _ _).alloc (Nat.le_refl _) _
  have Ja : w.heap.size < (w.alloc (.cells #[.slice A0 n c0] 24)).heap.size := by simp
  have Ya := Ja
  go_enter Try.func12, Try.ntmps12
  go_wp2_with fail
  refine (HZ.out _).mono ?_
  rintro e w1 ⟨rfl, hb⟩
  have Z1 := hb.size
  replace A := A.trans (hb.mono A.size)
  replace Ka := bcell1 hb Ka Ja
  replace Ja := Nat.lt_of_lt_of_le Ja hb.size
  clear hb
  go_wp2_with fail
  refine (Hto.out _ _ (HV.out.below A)).mono ?_
  rintro e w2 ⟨ru, rfl, Fu, hb⟩
  have Z2 := hb.size
  replace A := A.trans (hb.mono A.size)
  replace Ka := bcell1 hb Ka Ja
  replace Ja := Nat.lt_of_lt_of_le Ja hb.size
  clear hb
  go_wp2_with fail
  refine (HS.out _ _ Fu.rv).mono ?_
  rintro e w3 ⟨rp, rq, rfl, hp, hq, hb⟩
  have Z3 := hb.size
  replace A := A.trans (hb.mono A.size)
  replace Ka := bcell1 hb Ka Ja
  replace Ja := Nat.lt_of_lt_of_le Ja hb.size
  clear hb Fu
  obtain ⟨Bp, cp, rfl, hp1, hp2⟩ := id hp
  obtain ⟨Bq, cq, rfl, hq1, hq2⟩ := id hq
  rw [HL1.out] at hp
  rw [HL2.out] at hq
  rw [HL1.out, HL2.out]
  have HP := hide hp
  have HQ := hide hq
  have S := Below.refl w3.heap.size w3
  clear hp hq hp1 hp2 hq1 hq2
  have hBp := two_below w3 (.cells #[.slice Bp n1 cp] 27) (.cells #[.slice Bq n2 cq] 27)
  have Z4 := hBp.size
  replace A := A.trans (hBp.mono A.size)
  replace S := S.trans (hBp.mono S.size)
  replace Ka := bcell1 hBp Ka Ja
  replace Ja := Nat.lt_of_lt_of_le Ja hBp.size
  obtain ⟨Kp, Kq⟩ := two_box w3 27 (.slice Bp n1 cp) (.slice Bq n2 cq)
  have Jp : w3.heap.size < ((w3.alloc (.cells #[.slice Bp n1 cp] 27)).alloc (.cells #[.slice Bq n2 cq] 27)).heap.size := by first | (simp; done) | (simp; omega)
  have Jq : w3.heap.size + 1 < ((w3.alloc (.cells #[.slice Bp n1 cp] 27)).alloc (.cells #[.slice Bq n2 cq] 27)).heap.size := by simp
  go_wp2_with fail
  generalize (w3.alloc (.cells #[.slice Bp n1 cp] 27)).alloc (.cells #[.slice Bq n2 cq] 27) = w4 at *
  have Yp := Jp
  have Yq := Jq
  clear hBp
  refine (Hto.out _ _ (HV.out.below A)).mono ?_
  rintro e w5 ⟨rx, rfl, Fx, hb⟩
  have Z5 := hb.size
  replace A := A.trans (hb.mono A.size)
  replace S := S.trans (hb.mono S.size)
  replace Ka := bcell1 hb Ka Ja
  replace Ja := Nat.lt_of_lt_of_le Ja hb.size
  replace Kp := bcell1 hb Kp Jp
  replace Jp := Nat.lt_of_lt_of_le Jp hb.size
  replace Kq := bcell1 hb Kq Jq
  replace Jq := Nat.lt_of_lt_of_le Jq hb.size
  clear hb
  obtain ⟨Bx, cx, hvx, -, -, -, -⟩ := Fx.form
  rw [HL.out] at hvx
  subst hvx
  have hBx : Below w5.heap.size w5 (w5.alloc (.cells #[.slice Bx n cx] 27)) := (Below.refl _ _).alloc (Nat.le_refl _) _
  have Z6 := hBx.size
  replace A := A.trans (hBx.mono A.size)
  replace S := S.trans (hBx.mono S.size)
  replace Fx := Fx.below hBx
  replace Ka := bcell1 hBx Ka Ja
  replace Ja := Nat.lt_of_lt_of_le Ja hBx.size
  replace Kp := bcell1 hBx Kp Jp
  replace Jp := Nat.lt_of_lt_of_le Jp hBx.size
  replace Kq := bcell1 hBx Kq Jq
  replace Jq := Nat.lt_of_lt_of_le Jq hBx.size
  have Kx := dcell w5 (.slice Bx n cx) 27
  have Jx : w5.heap.size < (w5.alloc (.cells #[.slice Bx n cx] 27)).heap.size := by simp
  go_wp2_with fail
  generalize w5.alloc (.cells #[.slice Bx n cx] 27) = w6 at *
  have Yx := Jx
  clear hBx
  refine (HI.out _ _ Fx.rv).mono ?_
  rintro e w7 ⟨rg, rh, b1, e1, b2, e2, rfl, Fg, Fh, q1, q2, q3, q4, q5, hb⟩
  have Z7 := hb.size
  replace A := A.trans (hb.mono A.size)
  replace S := S.trans (hb.mono S.size)
  replace Fx := Fx.below hb
  replace Ka := bcell1 hb Ka Ja
  replace Ja := Nat.lt_of_lt_of_le Ja hb.size
  replace Kp := bcell1 hb Kp Jp
  replace Jp := Nat.lt_of_lt_of_le Jp hb.size
  replace Kq := bcell1 hb Kq Jq
  replace Jq := Nat.lt_of_lt_of_le Jq hb.size
  replace Kx := bcell1 hb Kx Jx
  replace Jx := Nat.lt_of_lt_of_le Jx hb.size
  clear hb
  obtain ⟨Bg, cg, hvg, -, -, -, -⟩ := Fg.form
  rw [HL1.out] at hvg
  subst hvg
  obtain ⟨Bh, ch, hvh, -, -, -, -⟩ := Fh.form
  rw [HL2.out] at hvh
  subst hvh
  have hBg := two_below w7 (.cells #[.slice Bg n1 cg] 27) (.cells #[.slice Bh n2 ch] 27)
  have Z8 := hBg.size
  replace A := A.trans (hBg.mono A.size)
  replace S := S.trans (hBg.mono S.size)
  replace Fx := Fx.below hBg
  replace Fg := Fg.below hBg
  replace Fh := Fh.below hBg
  replace Ka := bcell1 hBg Ka Ja
  replace Ja := Nat.lt_of_lt_of_le Ja hBg.size
  replace Kp := bcell1 hBg Kp Jp
  replace Jp := Nat.lt_of_lt_of_le Jp hBg.size
  replace Kq := bcell1 hBg Kq Jq
  replace Jq := Nat.lt_of_lt_of_le Jq hBg.size
  replace Kx := bcell1 hBg Kx Jx
  replace Jx := Nat.lt_of_lt_of_le Jx hBg.size
  obtain ⟨Kg, Kh⟩ := two_box w7 27 (.slice Bg n1 cg) (.slice Bh n2 ch)
  have Jg : w7.heap.size < ((w7.alloc (.cells #[.slice Bg n1 cg] 27)).alloc (.cells #[.slice Bh n2 ch] 27)).heap.size := by first | (simp; done) | (simp; omega)
  have Jh : w7.heap.size + 1 < ((w7.alloc (.cells #[.slice Bg n1 cg] 27)).alloc (.cells #[.slice Bh n2 ch] 27)).heap.size := by simp
  go_wp2_with fail
  generalize (w7.alloc (.cells #[.slice Bg n1 cg] 27)).alloc (.cells #[.slice Bh n2 ch] 27) = w8 at *
  have Yg := Jg
  have Yh := Jh
  clear hBg
  refine (HeqX.out _ _ _ Fg.rv (HP.out.below S)).mono ?_
  rintro e w9 ⟨rfl, hb⟩
  have Z9 := hb.size
  replace A := A.trans (hb.mono A.size)
  replace S := S.trans (hb.mono S.size)
  replace Fx := Fx.below hb
  replace Fg := Fg.below hb
  replace Fh := Fh.below hb
  replace Ka := bcell1 hb Ka Ja
  replace Ja := Nat.lt_of_lt_of_le Ja hb.size
  replace Kp := bcell1 hb Kp Jp
  replace Jp := Nat.lt_of_lt_of_le Jp hb.size
  replace Kq := bcell1 hb Kq Jq
  replace Jq := Nat.lt_of_lt_of_le Jq hb.size
  replace Kx := bcell1 hb Kx Jx
  replace Jx := Nat.lt_of_lt_of_le Jx hb.size
  replace Kg := bcell1 hb Kg Jg
  replace Jg := Nat.lt_of_lt_of_le Jg hb.size
  replace Kh := bcell1 hb Kh Jh
  replace Jh := Nat.lt_of_lt_of_le Jh hb.size
  clear hb
  go_wp2_with fail
  refine (HeqY.out _ _ _ Fh.rv (HQ.out.below S)).mono ?_
  rintro e w10 ⟨rfl, hb⟩
  have Z10 := hb.size
  replace A := A.trans (hb.mono A.size)
  replace S := S.trans (hb.mono S.size)
  replace Fx := Fx.below hb
  replace Fg := Fg.below hb
  replace Fh := Fh.below hb
  replace Ka := bcell1 hb Ka Ja
  replace Ja := Nat.lt_of_lt_of_le Ja hb.size
  replace Kp := bcell1 hb Kp Jp
  replace Jp := Nat.lt_of_lt_of_le Jp hb.size
  replace Kq := bcell1 hb Kq Jq
  replace Jq := Nat.lt_of_lt_of_le Jq hb.size
  replace Kx := bcell1 hb Kx Jx
  replace Jx := Nat.lt_of_lt_of_le Jx hb.size
  replace Kg := bcell1 hb Kg Jg
  replace Jg := Nat.lt_of_lt_of_le Jg hb.size
  replace Kh := bcell1 hb Kh Jh
  replace Jh := Nat.lt_of_lt_of_le Jh hb.size
  clear hb
  go_wp2_with fail
  have hxa : w5.heap.size < w10.heap.size := Jx
  have haa : w.heap.size < w10.heap.size := Ja
  go_region_held3 (fun w' => w'.cell? ⟨w5.heap.size, 0, none⟩ = some (.slice Bx n cx) ∧ w'.cell? ⟨w.heap.size, 0, none⟩ = some (.slice A0 n c0))
    (first | exact ⟨Kx, Ka⟩ | go_keep | (go_split_ands; refine ⟨?_, ?_⟩ <;> (rw [hbk.cell (by show _ < _; first | exact hxa | exact haa | exact Nat.lt_of_lt_of_le hxa HBa.out.size | exact Nat.lt_of_lt_of_le haa HBa.out.size)]; assumption)))
    ((first | (go_at_call 17; refine (Hto.out _ w10.drew (HV.out.below (below_drewN A 1))).mono ?_; rintro e wa ⟨ra, rfl, hOa, hbk⟩; have HBa := hide hbk) | (go_at_call 19; refine (Heq.out _ _ _ ((Fx.drew).below HBa.out).rv hOa.rv).mono ?_; rintro e w11 ⟨rfl, hbk⟩)))
  have hb : Below w10.heap.size w10 w11 := (below_drewN (Below.refl w10.heap.size w10) 1).trans (HBa.out.trans (hbk.mono HBa.out.size))
  clear hbk HBa hOa
  have Z11 := hb.size
  replace A := A.trans (hb.mono A.size)
  replace S := S.trans (hb.mono S.size)
  replace Fx := Fx.below hb
  replace Fg := Fg.below hb
  replace Fh := Fh.below hb
  replace Ka := bcell1 hb Ka Ja
  replace Ja := Nat.lt_of_lt_of_le Ja hb.size
  replace Kp := bcell1 hb Kp Jp
  replace Jp := Nat.lt_of_lt_of_le Jp hb.size
  replace Kq := bcell1 hb Kq Jq
  replace Jq := Nat.lt_of_lt_of_le Jq hb.size
  replace Kx := bcell1 hb Kx Jx
  replace Jx := Nat.lt_of_lt_of_le Jx hb.size
  replace Kg := bcell1 hb Kg Jg
  replace Jg := Nat.lt_of_lt_of_le Jg hb.size
  replace Kh := bcell1 hb Kh Jh
  replace Jh := Nat.lt_of_lt_of_le Jh hb.size
  clear hb
  go_wp2_with fail
  refine (HMx.out _ _ _ _ Fx).mono ?_
  rintro e w12 ⟨rfl, Fmx, hk⟩
  have Zk1 := hk.size
  replace A := hk.to_below A (by omega) A.size
  replace S := hk.to_below S (by omega) S.size
  replace Fg := Fg.kept hk (by omega)
  replace Fh := Fh.kept hk (by omega)
  replace Ka := hk.cell Ka Ja (by omega)
  replace Ja := Nat.lt_of_lt_of_le Ja hk.size
  replace Kp := hk.cell Kp Jp (by omega)
  replace Jp := Nat.lt_of_lt_of_le Jp hk.size
  replace Kq := hk.cell Kq Jq (by omega)
  replace Jq := Nat.lt_of_lt_of_le Jq hk.size
  replace Kx := hk.cell Kx Jx (by omega)
  replace Jx := Nat.lt_of_lt_of_le Jx hk.size
  replace Kg := hk.cell Kg Jg (by omega)
  replace Jg := Nat.lt_of_lt_of_le Jg hk.size
  replace Kh := hk.cell Kh Jh (by omega)
  replace Jh := Nat.lt_of_lt_of_le Jh hk.size
  clear hk
  clear Fx Fmx
  go_wp2_with fail
  refine (HeqX.out _ _ _ Fg.rv (HP.out.below S)).mono ?_
  rintro e w13 ⟨rfl, hb⟩
  have Z12 := hb.size
  replace A := A.trans (hb.mono A.size)
  replace S := S.trans (hb.mono S.size)
  replace Fg := Fg.below hb
  replace Fh := Fh.below hb
  replace Ka := bcell1 hb Ka Ja
  replace Ja := Nat.lt_of_lt_of_le Ja hb.size
  replace Kp := bcell1 hb Kp Jp
  replace Jp := Nat.lt_of_lt_of_le Jp hb.size
  replace Kq := bcell1 hb Kq Jq
  replace Jq := Nat.lt_of_lt_of_le Jq hb.size
  replace Kx := bcell1 hb Kx Jx
  replace Jx := Nat.lt_of_lt_of_le Jx hb.size
  replace Kg := bcell1 hb Kg Jg
  replace Jg := Nat.lt_of_lt_of_le Jg hb.size
  replace Kh := bcell1 hb Kh Jh
  replace Jh := Nat.lt_of_lt_of_le Jh hb.size
  clear hb
  go_wp2_with fail
  refine (HeqY.out _ _ _ Fh.rv (HQ.out.below S)).mono ?_
  rintro e w14 ⟨rfl, hb⟩
  have Z13 := hb.size
  replace A := A.trans (hb.mono A.size)
  replace S := S.trans (hb.mono S.size)
  replace Fg := Fg.below hb
  replace Fh := Fh.below hb
  replace Ka := bcell1 hb Ka Ja
  replace Ja := Nat.lt_of_lt_of_le Ja hb.size
  replace Kp := bcell1 hb Kp Jp
  replace Jp := Nat.lt_of_lt_of_le Jp hb.size
  replace Kq := bcell1 hb Kq Jq
  replace Jq := Nat.lt_of_lt_of_le Jq hb.size
  replace Kx := bcell1 hb Kx Jx
  replace Jx := Nat.lt_of_lt_of_le Jx hb.size
  replace Kg := bcell1 hb Kg Jg
  replace Jg := Nat.lt_of_lt_of_le Jg hb.size
  replace Kh := bcell1 hb Kh Jh
  replace Jh := Nat.lt_of_lt_of_le Jh hb.size
  clear hb
  go_wp2_with fail
  refine (HM1.out _ _ _ _ Fg).mono ?_
  rintro e w15 ⟨rfl, Fm1, hk⟩
  have Zk2 := hk.size
  replace A := hk.to_below A (by omega) A.size
  replace S := hk.to_below S (by omega) S.size
  replace Fh := Fh.kept hk (by omega)
  replace Ka := hk.cell Ka Ja (by omega)
  replace Ja := Nat.lt_of_lt_of_le Ja hk.size
  replace Kp := hk.cell Kp Jp (by omega)
  replace Jp := Nat.lt_of_lt_of_le Jp hk.size
  replace Kq := hk.cell Kq Jq (by omega)
  replace Jq := Nat.lt_of_lt_of_le Jq hk.size
  replace Kx := hk.cell Kx Jx (by omega)
  replace Jx := Nat.lt_of_lt_of_le Jx hk.size
  replace Kg := hk.cell Kg Jg (by omega)
  replace Jg := Nat.lt_of_lt_of_le Jg hk.size
  replace Kh := hk.cell Kh Jh (by omega)
  replace Jh := Nat.lt_of_lt_of_le Jh hk.size
  clear hk
  clear Fg
  have Fg := Fm1
  clear Fm1
  go_wp2_with fail
  refine (HM2.out _ _ _ _ Fh).mono ?_
  rintro e w16 ⟨rfl, Fm2, hk⟩
  have Zk3 := hk.size
  replace A := hk.to_below A (by omega) A.size
  replace S := hk.to_below S (by omega) S.size
  replace Fg := Fg.kept hk (by omega)
  replace Ka := hk.cell Ka Ja (by omega)
  replace Ja := Nat.lt_of_lt_of_le Ja hk.size
  replace Kp := hk.cell Kp Jp (by omega)
  replace Jp := Nat.lt_of_lt_of_le Jp hk.size
  replace Kq := hk.cell Kq Jq (by omega)
  replace Jq := Nat.lt_of_lt_of_le Jq hk.size
  replace Kx := hk.cell Kx Jx (by omega)
  replace Jx := Nat.lt_of_lt_of_le Jx hk.size
  replace Kg := hk.cell Kg Jg (by omega)
  replace Jg := Nat.lt_of_lt_of_le Jg hk.size
  replace Kh := hk.cell Kh Jh (by omega)
  replace Jh := Nat.lt_of_lt_of_le Jh hk.size
  clear hk
  clear Fh
  have Fh := Fm2
  clear Fm2
  go_wp2_with fail
  refine (HH1.out _ _ Fg.rv).mono ?_
  rintro e w17 ⟨rfl, hb⟩
  have Z14 := hb.size
  replace A := A.trans (hb.mono A.size)
  replace S := S.trans (hb.mono S.size)
  replace Fh := Fh.below hb
  replace Fg := Fg.below hb
  replace Ka := bcell1 hb Ka Ja
  replace Ja := Nat.lt_of_lt_of_le Ja hb.size
  replace Kp := bcell1 hb Kp Jp
  replace Jp := Nat.lt_of_lt_of_le Jp hb.size
  replace Kq := bcell1 hb Kq Jq
  replace Jq := Nat.lt_of_lt_of_le Jq hb.size
  replace Kx := bcell1 hb Kx Jx
  replace Jx := Nat.lt_of_lt_of_le Jx hb.size
  replace Kg := bcell1 hb Kg Jg
  replace Jg := Nat.lt_of_lt_of_le Jg hb.size
  replace Kh := bcell1 hb Kh Jh
  replace Jh := Nat.lt_of_lt_of_le Jh hb.size
  clear hb
  go_wp2_with fail
  refine (HH2.out _ _ Fh.rv).mono ?_
  rintro e w18 ⟨rfl, hb⟩
  have Z15 := hb.size
  replace A := A.trans (hb.mono A.size)
  replace S := S.trans (hb.mono S.size)
  replace Fh := Fh.below hb
  replace Fg := Fg.below hb
  replace Ka := bcell1 hb Ka Ja
  replace Ja := Nat.lt_of_lt_of_le Ja hb.size
  replace Kp := bcell1 hb Kp Jp
  replace Jp := Nat.lt_of_lt_of_le Jp hb.size
  replace Kq := bcell1 hb Kq Jq
  replace Jq := Nat.lt_of_lt_of_le Jq hb.size
  replace Kx := bcell1 hb Kx Jx
  replace Jx := Nat.lt_of_lt_of_le Jx hb.size
  replace Kg := bcell1 hb Kg Jg
  replace Jg := Nat.lt_of_lt_of_le Jg hb.size
  replace Kh := bcell1 hb Kh Jh
  replace Jh := Nat.lt_of_lt_of_le Jh hb.size
  clear hb
  go_wp2_with fail
  refine (Hto.out _ _ (HV.out.below A)).mono ?_
  rintro e w19 ⟨ry, rfl, Fy, hb⟩
  have Z16 := hb.size
  replace A := A.trans (hb.mono A.size)
  replace S := S.trans (hb.mono S.size)
  replace Fh := Fh.below hb
  replace Fg := Fg.below hb
  replace Ka := bcell1 hb Ka Ja
  replace Ja := Nat.lt_of_lt_of_le Ja hb.size
  replace Kp := bcell1 hb Kp Jp
  replace Jp := Nat.lt_of_lt_of_le Jp hb.size
  replace Kq := bcell1 hb Kq Jq
  replace Jq := Nat.lt_of_lt_of_le Jq hb.size
  replace Kx := bcell1 hb Kx Jx
  replace Jx := Nat.lt_of_lt_of_le Jx hb.size
  replace Kg := bcell1 hb Kg Jg
  replace Jg := Nat.lt_of_lt_of_le Jg hb.size
  replace Kh := bcell1 hb Kh Jh
  replace Jh := Nat.lt_of_lt_of_le Jh hb.size
  clear hb
  go_wp2_with fail
  refine (HI.out _ _ Fy.rv).mono ?_
  rintro e w20 ⟨rk, rl, b3, e3, b4, e4, rfl, Fk, Fl, -, -, -, -, -, hb⟩
  have Z17 := hb.size
  replace A := A.trans (hb.mono A.size)
  replace S := S.trans (hb.mono S.size)
  replace Fh := Fh.below hb
  replace Fg := Fg.below hb
  replace Ka := bcell1 hb Ka Ja
  replace Ja := Nat.lt_of_lt_of_le Ja hb.size
  replace Kp := bcell1 hb Kp Jp
  replace Jp := Nat.lt_of_lt_of_le Jp hb.size
  replace Kq := bcell1 hb Kq Jq
  replace Jq := Nat.lt_of_lt_of_le Jq hb.size
  replace Kx := bcell1 hb Kx Jx
  replace Jx := Nat.lt_of_lt_of_le Jx hb.size
  replace Kg := bcell1 hb Kg Jg
  replace Jg := Nat.lt_of_lt_of_le Jg hb.size
  replace Kh := bcell1 hb Kh Jh
  replace Jh := Nat.lt_of_lt_of_le Jh hb.size
  clear hb Fy
  obtain ⟨Bk, ck, hvk, -, -, -, -⟩ := Fk.form
  rw [HL1.out] at hvk
  subst hvk
  obtain ⟨Bl, cl, hvl, -, -, -, -⟩ := Fl.form
  rw [HL2.out] at hvl
  subst hvl
  have hBk := two_below w20 (.cells #[.slice Bk n1 ck] 27) (.cells #[.slice Bl n2 cl] 27)
  have Z18 := hBk.size
  replace A := A.trans (hBk.mono A.size)
  replace S := S.trans (hBk.mono S.size)
  replace Fh := Fh.below hBk
  replace Fg := Fg.below hBk
  replace Fk := Fk.below hBk
  replace Fl := Fl.below hBk
  replace Ka := bcell1 hBk Ka Ja
  replace Ja := Nat.lt_of_lt_of_le Ja hBk.size
  replace Kp := bcell1 hBk Kp Jp
  replace Jp := Nat.lt_of_lt_of_le Jp hBk.size
  replace Kq := bcell1 hBk Kq Jq
  replace Jq := Nat.lt_of_lt_of_le Jq hBk.size
  replace Kx := bcell1 hBk Kx Jx
  replace Jx := Nat.lt_of_lt_of_le Jx hBk.size
  replace Kg := bcell1 hBk Kg Jg
  replace Jg := Nat.lt_of_lt_of_le Jg hBk.size
  replace Kh := bcell1 hBk Kh Jh
  replace Jh := Nat.lt_of_lt_of_le Jh hBk.size
  obtain ⟨Kk, Kl⟩ := two_box w20 27 (.slice Bk n1 ck) (.slice Bl n2 cl)
  have Jk : w20.heap.size < ((w20.alloc (.cells #[.slice Bk n1 ck] 27)).alloc (.cells #[.slice Bl n2 cl] 27)).heap.size := by first | (simp; done) | (simp; omega)
  have Jl : w20.heap.size + 1 < ((w20.alloc (.cells #[.slice Bk n1 ck] 27)).alloc (.cells #[.slice Bl n2 cl] 27)).heap.size := by simp
  go_wp2_with fail
  generalize (w20.alloc (.cells #[.slice Bk n1 ck] 27)).alloc (.cells #[.slice Bl n2 cl] 27) = w21 at *
  have Yk := Jk
  have Yl := Jl
  clear hBk
  refine (HeqX.out _ _ _ Fk.rv (HP.out.below S)).mono ?_
  rintro e w22 ⟨rfl, hb⟩
  have Z19 := hb.size
  replace A := A.trans (hb.mono A.size)
  replace S := S.trans (hb.mono S.size)
  replace Fh := Fh.below hb
  replace Fg := Fg.below hb
  replace Fk := Fk.below hb
  replace Fl := Fl.below hb
  replace Ka := bcell1 hb Ka Ja
  replace Ja := Nat.lt_of_lt_of_le Ja hb.size
  replace Kp := bcell1 hb Kp Jp
  replace Jp := Nat.lt_of_lt_of_le Jp hb.size
  replace Kq := bcell1 hb Kq Jq
  replace Jq := Nat.lt_of_lt_of_le Jq hb.size
  replace Kx := bcell1 hb Kx Jx
  replace Jx := Nat.lt_of_lt_of_le Jx hb.size
  replace Kg := bcell1 hb Kg Jg
  replace Jg := Nat.lt_of_lt_of_le Jg hb.size
  replace Kh := bcell1 hb Kh Jh
  replace Jh := Nat.lt_of_lt_of_le Jh hb.size
  replace Kk := bcell1 hb Kk Jk
  replace Jk := Nat.lt_of_lt_of_le Jk hb.size
  replace Kl := bcell1 hb Kl Jl
  replace Jl := Nat.lt_of_lt_of_le Jl hb.size
  clear hb
  go_wp2_with fail
  refine (HeqY.out _ _ _ Fl.rv (HQ.out.below S)).mono ?_
  rintro e w23 ⟨rfl, hb⟩
  have Z20 := hb.size
  replace A := A.trans (hb.mono A.size)
  replace S := S.trans (hb.mono S.size)
  replace Fh := Fh.below hb
  replace Fg := Fg.below hb
  replace Fk := Fk.below hb
  replace Fl := Fl.below hb
  replace Ka := bcell1 hb Ka Ja
  replace Ja := Nat.lt_of_lt_of_le Ja hb.size
  replace Kp := bcell1 hb Kp Jp
  replace Jp := Nat.lt_of_lt_of_le Jp hb.size
  replace Kq := bcell1 hb Kq Jq
  replace Jq := Nat.lt_of_lt_of_le Jq hb.size
  replace Kx := bcell1 hb Kx Jx
  replace Jx := Nat.lt_of_lt_of_le Jx hb.size
  replace Kg := bcell1 hb Kg Jg
  replace Jg := Nat.lt_of_lt_of_le Jg hb.size
  replace Kh := bcell1 hb Kh Jh
  replace Jh := Nat.lt_of_lt_of_le Jh hb.size
  replace Kk := bcell1 hb Kk Jk
  replace Jk := Nat.lt_of_lt_of_le Jk hb.size
  replace Kl := bcell1 hb Kl Jl
  replace Jl := Nat.lt_of_lt_of_le Jl hb.size
  clear hb
  go_wp2_with fail
  refine (HH1.out _ _ Fg.rv).mono ?_
  rintro e w24 ⟨rfl, hb⟩
  have Z21 := hb.size
  replace A := A.trans (hb.mono A.size)
  replace S := S.trans (hb.mono S.size)
  replace Fh := Fh.below hb
  replace Fg := Fg.below hb
  replace Fk := Fk.below hb
  replace Fl := Fl.below hb
  replace Ka := bcell1 hb Ka Ja
  replace Ja := Nat.lt_of_lt_of_le Ja hb.size
  replace Kp := bcell1 hb Kp Jp
  replace Jp := Nat.lt_of_lt_of_le Jp hb.size
  replace Kq := bcell1 hb Kq Jq
  replace Jq := Nat.lt_of_lt_of_le Jq hb.size
  replace Kx := bcell1 hb Kx Jx
  replace Jx := Nat.lt_of_lt_of_le Jx hb.size
  replace Kg := bcell1 hb Kg Jg
  replace Jg := Nat.lt_of_lt_of_le Jg hb.size
  replace Kh := bcell1 hb Kh Jh
  replace Jh := Nat.lt_of_lt_of_le Jh hb.size
  replace Kk := bcell1 hb Kk Jk
  replace Jk := Nat.lt_of_lt_of_le Jk hb.size
  replace Kl := bcell1 hb Kl Jl
  replace Jl := Nat.lt_of_lt_of_le Jl hb.size
  clear hb
  go_wp2_with fail
  refine (HH2.out _ _ Fh.rv).mono ?_
  rintro e w25 ⟨rfl, hb⟩
  have Z22 := hb.size
  replace A := A.trans (hb.mono A.size)
  replace S := S.trans (hb.mono S.size)
  replace Fh := Fh.below hb
  replace Fg := Fg.below hb
  replace Fk := Fk.below hb
  replace Fl := Fl.below hb
  replace Ka := bcell1 hb Ka Ja
  replace Ja := Nat.lt_of_lt_of_le Ja hb.size
  replace Kp := bcell1 hb Kp Jp
  replace Jp := Nat.lt_of_lt_of_le Jp hb.size
  replace Kq := bcell1 hb Kq Jq
  replace Jq := Nat.lt_of_lt_of_le Jq hb.size
  replace Kx := bcell1 hb Kx Jx
  replace Jx := Nat.lt_of_lt_of_le Jx hb.size
  replace Kg := bcell1 hb Kg Jg
  replace Jg := Nat.lt_of_lt_of_le Jg hb.size
  replace Kh := bcell1 hb Kh Jh
  replace Jh := Nat.lt_of_lt_of_le Jh hb.size
  replace Kk := bcell1 hb Kk Jk
  replace Jk := Nat.lt_of_lt_of_le Jk hb.size
  replace Kl := bcell1 hb Kl Jl
  replace Jl := Nat.lt_of_lt_of_le Jl hb.size
  clear hb
  go_wp2
  all_goals go_ret
  all_goals exact ⟨rfl, A⟩
end Go.Proofs.Ythpboedpoipkcaa
