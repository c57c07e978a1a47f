/- The walk of impl.partner: the counts divided by a die. Conditions: 1 to 6 faces from 1 to 20, at most 20 counts. -/
import Derived.Test.YthpboedpoipkcaaDivP
import Derived.Test.YthpboedpoipkcaaFindV
import Derived.Test.YthpboedpoipkcaaPlain
namespace Go.Proofs.Ythpboedpoipkcaa
open Go.ChangeShapes Go.WideShapes Go.ChangeAt Go.RowKit

set_option maxRecDepth 100000 in
set_option maxHeartbeats 3200000 in
theorem iPart (A B : Option Addr) (n c L d : Nat) (fs want : List Int) (w : World) (hr : Rd w A n (iv fs)) (hr2 : Rd w B L (iv want)) (hc2 : L ≤ d) (h1 : 1 ≤ n) (hn : n ≤ 6) (hL : L ≤ 20)
    (hf : ∀ j, j < n → 1 ≤ fs.getD 0 0 ∧ fs.getD 0 0 ≤ fs.getD j 0 ∧ fs.getD j 0 ≤ 20) (hf0 : fs.getD 0 0 < (L : Int)) (hw : InB 0 want) :
    Calls Try.prog 83 #[.agg #[.slice A n c], .slice B L d, .int .i64 (n : Int)] w fun e w' => ∃ rA rn rc, e = .returned (.tuple #[.agg #[.slice rA rn rc], .bool (divR fs want).isSome]) ∧ Below w.heap.size w w' ∧
      ∀ ys, divR fs want = some ys → Own w' w.heap.size w'.heap.size (.slice rA rn rc) ys := by
  have hl1 := hr.len
  have hl2 := hr2.len
  obtain ⟨f0, hf0e⟩ : ∃ f0 : Nat, fs.getD 0 0 = (f0 : Int) := ⟨(fs.getD 0 0).toNat, by have := (hf 0 (by omega)).1; omega⟩
  have hf01 : 1 ≤ f0 := by have := (hf 0 (by omega)).1; omega
  have hf0L : f0 < L := by omega
  have HF : Hid (∀ j, j < n → ∃ f : Nat, fs.getD j 0 = (f : Int) ∧ f0 ≤ f ∧ f ≤ 20) := hide fun j hj => ⟨(fs.getD j 0).toNat, by have := hf j hj; omega, by have := hf j hj; omega, by have := hf j hj; omega⟩
  have Hr := hide hr
  obtain ⟨ad, ea, hbl, hc0⟩ := hr.int (k := 0) (by omega)
  subst ea
  rw [hf0e] at hc0
  have HW := Lib.hid (libClone (.slice B L d) want)
  have HI := hide (DivI.start (fs := fs) hw)
  have Hl1 := hide hl1
  have Hl2 := hide hl2
  have Hf0 := hide hf0e
  have HRV := hide (RV.mk hr2 hc2)
  have HCp := Lib.hid (fun j (h : 0 < j) => cntE_pos fs h)
  have HCl := Lib.hid (fun j => cntE_le fs j)
  have HC0 : Hid (cntE fs 0 = 0) := hide rfl
  have HCs : Hid (∀ j, cntE fs (j + 1) = cntE fs j + if fs.getD j 0 = (f0 : Int) then 1 else 0) := hide fun j => by rw [cntE, hf0e]
  obtain ⟨CE, hCE⟩ : ∃ CE, cntE fs = CE := ⟨_, rfl⟩
  rw [hCE] at HCs HC0 HCl HCp
  have HCE := hide hCE
  clear hCE hf0 hf hw hr hr2 hl1 hl2 hf0e
  have hb0 : Below w.heap.size w ((w.alloc (.cells #[.slice (some ad) n c] 27)).alloc (.cells #[.slice none 0 0] 27)) := ((Below.refl _ _).alloc (Nat.le_refl _) _).alloc (by simp) _
  obtain ⟨b1, b2⟩ := two w 27 (.slice (some ad) n c) (.slice none 0 0)
  have hs2 : ((w.alloc (.cells #[.slice (some ad) n c] 27)).alloc (.cells #[.slice none 0 0] 27)).heap.size = w.heap.size + 2 := by simp
  go_enter Try.func83, Try.ntmps83
  go_upto_region 1 with fail
  generalize (w.alloc (.cells #[.slice (some ad) n c] 27)).alloc (.cells #[.slice none 0 0] 27) = W2 at *
  have k1 : W2.cell? ⟨w.heap.size, 0, none⟩ = some (.slice (some ad) n c) := (b1.cell 0).trans rfl
  have k0 : W2.cell? ad = some (.int .i64 (f0 : Int)) := (hb0.cell (p := ad) hbl).trans hc0
  have kd : ¬ (L : Int) ≤ (f0 : Int) := by omega
  have hr3 := (HRV.out.below hb0)
  go_upto_region 5 with (go_at_call 73; refine (HW.out W2 hr3 (by rw [Hl2.out]; omega)).mono ?_; rintro e w3 ⟨r3, rfl, ho3, hb3⟩)
  obtain ⟨gl, cl, hr3e⟩ := owns_some ho3.1 (by rw [Hl2.out]; omega)
  rw [Hl2.out] at hr3e
  subst hr3e
  have ho3l : w3.ownsRow w.heap.size 2 1 (.slice (some ⟨gl, 0, none⟩) L cl) L (iv want) := by have := (ho3.lo (hb0.size)).1; rw [Hl2.out] at this; exact this
  have hglt := World.ownsRow.lt ho3.1 gl rfl
  have Ho3 := hide ho3l
  have B1 := b1.below hb3 b1.lt
  have B2 := b2.below hb3 b2.lt
  have hb4 := hb0.trans (hb3.mono hb0.size)
  have hs3 := hb3.size
  have k3 : w3.cell? ⟨w.heap.size, 0, none⟩ = some (.slice (some ad) n c) := (B1.cell 0).trans rfl
  clear ho3 ho3l b1 b2 k0 k1 hr3 hc0
  go_wp2
  go_loopw [10, 12, 36] (fun m _ i wr => ∃ j : Nat, j ≤ n ∧ i = .int .i64 (j : Int) ∧ m = .int .i64 ((CE j : Nat) : Int) ∧ wr = w3) (fun _ _ i _ => n - (intOf i).toNat)
  case atStart => exact ⟨0, Nat.zero_le _, rfl, by rw [HC0.out]; rfl, rfl⟩
  case round =>
    obtain ⟨j, hj, rfl, rfl, rfl⟩ := hrel
    by_cases hlt : j < n
    · obtain ⟨ad', e', hbl', hc⟩ := (Hr.out.below hb4).int hlt
      cases e'
      have hst := HCs.out j
      have hle := HCl.out j
      obtain ⟨f, hf, hf1, hf2⟩ := HF.out j hlt
      rw [hf] at hc hst
      by_cases e : f = f0
      · subst e
        rw [if_pos rfl] at hst
        have Hst := hide hst
        clear hst hf
        go_wp2
        go_roundw
        case rel => exact ⟨j + 1, by omega, by go_num, by rw [Hst.out]; go_num, trivial⟩
        case measure => simp [intOf]; omega
      · rw [if_neg (by omega)] at hst
        have Hst := hide hst
        have hne : ¬ (f : Int) = (f0 : Int) := by omega
        clear hst hf
        go_wp2
        go_roundw
        case rel => exact ⟨j + 1, by omega, by go_num, by rw [Hst.out]; rfl, trivial⟩
        case measure => simp [intOf]; omega
    · have hjn : n = j := by omega
      subst hjn
      have hm1 := HCp.out n (by omega)
      have hm2 := HCl.out n
      have HM : Hid (cntE fs n = CE n) := hide (by rw [HCE.out])
      generalize CE n = m at *
      clear HCs HCp HCl HC0 k3
      have B3 := Bk.new wr 27 [.slice none 0 0]
      have B1 := B1.alloc (.cells #[.slice none 0 0] 27)
      have B2 := B2.alloc (.cells #[.slice none 0 0] 27)
      have Ho4 := hide (World.ownsRow.alloc Ho3.out (.cells #[.slice none 0 0] 27))
      have hb5 := hb4.alloc hb4.size (.cells #[.slice none 0 0] 27)
      clear hb4 Ho3
      go_upto_region 12 with fail
      have hs5 : (wr.alloc (.cells #[.slice none 0 0] 27)).heap.size = wr.heap.size + 1 := by simp
      have hgl3 : gl < wr.heap.size := hglt.2
      generalize hw5 : wr.alloc (.cells #[.slice none 0 0] 27) = w5 at *
      generalize hbq : wr.heap.size = bq at *
      clear hw5 hbq
      go_wp2
      go_loopw [14, 15, 16, 18, 49] (fun _ _ _ _ i wr => ∃ (k : Nat) (left out : List Int) (bv : Value), k ≤ L ∧ i = .int .i64 (k : Int) ∧ Hid (DivI fs want k (left, out)) ∧ Hid (wr.ownsRow w.heap.size 2 1 (.slice (some ⟨gl, 0, none⟩) L cl) L (iv left)) ∧ Hid (Bk wr bq 27 [bv]) ∧ Hid (OwnL wr (bq + 1) bv out) ∧ Hid (Bk wr (w.heap.size + 1) 27 [.slice none 0 0]) ∧ Hid (Bk wr w.heap.size 27 [.slice (some ad) n c]) ∧ Hid (Below w.heap.size w wr)) (fun _ _ _ _ i _ => L - (intOf i).toNat)
      case atStart => exact ⟨0, want, [], _, Nat.zero_le _, rfl, HI, Ho4, hide B3, hide (OwnL.nil _ _), hide B2, hide B1, hide hb5⟩
      case round =>
        clear HI Ho4 B3 B2 B1 hb5
        obtain ⟨k, left, out, bv, hk, rfl, hdi, ho, hbq, hov, hb6, hb3, hb⟩ := hrel
        by_cases hlk : k < L
        · have hcv := ho.out.cellAt k (by omega)
          have hll := hdi.out.len
          rw [iv_get (by show k < left.length; rw [show left.length = want.length from hll, Hl2.out]; exact hlk)] at hcv
          have hinb := hdi.out.inb k
          have hout : out.length ≤ n := by have := hdi.out.out; rw [Hl1.out] at this; exact this
          have hrow : out.length * fs.length ≤ 36 := by rw [Hl1.out]; exact Nat.le_trans (Nat.mul_le_mul hout (Nat.le_refl n)) (Nat.le_trans (Nat.mul_le_mul hn hn) (by decide))
          have hz0 := fun h => hdi.out.zero (k := k) h
          have hbad : stepP fs k (left, out) = none → Hid (divR fs want = none) := fun h => hide (divR_step hdi.out.eq h (by rw [Hl2.out]; exact hlk))
          have hstep : stepP fs k (left, out) = if left.getD k 0 = 0 then some (left, out) else if left.getD k 0 < 0 ∨ left.getD k 0 % (m : Int) ≠ 0 ∨ k < f0 + 1 ∨ n < out.length + (left.getD k 0 / (m : Int)).toNat ∨ fitB L (k - f0) fs = false then none else some (decR (k - f0) fs left (left.getD k 0 / (m : Int)).toNat, out ++ List.replicate (left.getD k 0 / (m : Int)).toNat ((k - f0 : Nat) : Int)) := by
            unfold stepP
            rw [Hl1.out, HM.out, Hf0.out, Int.toNat_natCast, show left.length = want.length from hll, Hl2.out]
          obtain ⟨v, Hv⟩ : ∃ v, Hid (left.getD k 0 = v) := ⟨_, hide rfl⟩
          have hinb2 : -((out.length * fs.length : Nat) : Int) ≤ left.getD k 0 ∧ left.getD k 0 ≤ 1000 := hinb
          rw [Hv.out] at hcv hinb2 hstep
          have hvlo : -36 ≤ v := by omega
          have hvhi : v ≤ 1000 := hinb2.2
          have Hstep := hide hstep
          have Hz0 : Hid (v = 0 → DivI fs want (k + 1) (left, out)) := hide fun h => hz0 (Hv.out.trans h)
          have Hbad := hide hbad
          have hf1 : (0 : Int) ≤ (k : Int) := by omega
          have hf2 : (k : Int) < (L : Int) := by omega
          clear hz0 hstep hbad hinb hinb2 hrow hll
          by_cases h0 : v = 0
          · subst h0
            go_wp2
            go_roundw
            case rel => exact ⟨k + 1, left, out, bv, by omega, by go_num, hide (Hz0.out rfl), ho, hbq, hov, hb6, hb3, hb⟩
            case measure => simp [intOf]; omega
          · obtain ⟨AV, cv, hbv, -, -, -, -⟩ := hov.out.own.form
            obtain ⟨lv, Hlv⟩ : ∃ lv, Hid (out.length = lv) := ⟨_, hide rfl⟩
            rw [Hlv.out] at hbv hout Hstep
            subst hbv
            have kq : wr.cell? ⟨bq, 0, none⟩ = some (.slice AV lv cv) := (hbq.out.cell 0).trans rfl
            have k6 : wr.cell? ⟨w.heap.size + 1, 0, none⟩ = some (.slice none 0 0) := (hb6.out.cell 0).trans rfl
            have f6 := hb6.out.free 0
            have e1 : IntKind.i64.wrap ((k : Int) - (f0 : Int)) = (k : Int) - (f0 : Int) := IntWalk.i64_in _ (by omega)
            by_cases hneg : v < 0
            · have HN := Hbad.out (by rw [Hstep.out, if_neg h0, if_pos (.inl hneg)])
              go_wp2
              go_quiet (fail)
              go_wp2
              have cR : ((wr.drewN nq).setCell ⟨w.heap.size + 1, 0, none⟩ (.slice none 0 0)).cell? ⟨w.heap.size + 1, 0, none⟩ = some (.slice none 0 0) := (((hb6.out.drewN nq).set 0 (.slice none 0 0)).cell 0).trans rfl
              exact bodyPost_ret (v := .tuple #[.agg #[.slice none 0 0], .bool false]) (by simp [results, Try.results83, go_sem, cR]) rfl ⟨_, _, _, by rw [HN.out]; rfl, (below_drewN hb.out nq).setCell (p := ⟨w.heap.size + 1, 0, none⟩) (by show w.heap.size ≤ w.heap.size + 1; omega) _, fun ys h => by rw [HN.out] at h; cases h⟩
            · obtain ⟨vn, rfl⟩ : ∃ vn : Nat, v = (vn : Int) := ⟨v.toNat, by omega⟩
              obtain ⟨r, Hrr⟩ : ∃ r, Hid (vn % m = r) := ⟨_, hide rfl⟩
              obtain ⟨q, Hq⟩ : ∃ q, Hid (vn / m = q) := ⟨_, hide rfl⟩
              have hq1000 : q ≤ 1000 := by rw [← Hq.out]; exact Nat.le_trans (Nat.div_le_self _ _) (by omega)
              have hr1000 : r < m := by rw [← Hrr.out]; exact Nat.mod_lt _ (by omega)
              have e2 : Int.tmod (vn : Int) (m : Int) = (r : Int) := by rw [← Hrr.out]; exact (Int.ofNat_tmod _ _).symm
              have e2b : (vn : Int) % (m : Int) = (r : Int) := by rw [← Hrr.out]; exact (Int.natCast_emod _ _).symm
              have e3 : Int.tdiv (vn : Int) (m : Int) = (q : Int) := by rw [← Hq.out]; exact (Int.ofNat_tdiv _ _).symm
              have e3b : (vn : Int) / (m : Int) = (q : Int) := by rw [← Hq.out]; exact (Int.natCast_ediv _ _).symm
              have e4 : IntKind.i64.wrap (r : Int) = (r : Int) := IntWalk.i64_in _ (by omega)
              have e5 : IntKind.i64.wrap (q : Int) = (q : Int) := IntWalk.i64_in _ (by omega)
              have e6 : IntKind.i64.wrap ((lv : Int) + (q : Int)) = (lv : Int) + (q : Int) := IntWalk.i64_in _ (by omega)
              have m0 : ¬ (m : Int) = 0 := by omega
              have m0n : ¬ m = 0 := by omega
              have dn : decide ((vn : Int) < 0) = false := decide_eq_false (by omega)
              have hst2 := Hstep.out
              rw [if_neg h0, e2b, e3b, Int.toNat_natCast] at hst2
              have Hst2 := hide hst2
              have E7 : Hid (wrap64 ((vn : Int) / (m : Int)) = (q : Int)) := hide (by rw [e3b]; exact IntWalk.wrap64_in _ (by omega))
              have E2 := hide e2b
              have E3 := hide e3b
              clear hst2 e2b e3b Hstep
              by_cases hr0 : r = 0
              · subst hr0
                by_cases hx : k < f0 + 1
                · have HN := Hbad.out (by rw [Hst2.out, if_pos (.inr (.inr (.inl hx)))])
                  have d1 : decide ((k : Int) - (f0 : Int) < 1) = true := decide_eq_true (by omega)
                  go_wp2
                  go_quiet (fail)
                  go_wp2
                  have cR : ((wr.drewN nq).setCell ⟨w.heap.size + 1, 0, none⟩ (.slice none 0 0)).cell? ⟨w.heap.size + 1, 0, none⟩ = some (.slice none 0 0) := (((hb6.out.drewN nq).set 0 (.slice none 0 0)).cell 0).trans rfl
                  exact bodyPost_ret (v := .tuple #[.agg #[.slice none 0 0], .bool false]) (by simp [results, Try.results83, go_sem, cR]) rfl ⟨_, _, _, by rw [HN.out]; rfl, (below_drewN hb.out nq).setCell (p := ⟨w.heap.size + 1, 0, none⟩) (by show w.heap.size ≤ w.heap.size + 1; omega) _, fun ys h => by rw [HN.out] at h; cases h⟩
                · have d1 : decide ((k : Int) - (f0 : Int) < 1) = false := decide_eq_false (by omega)
                  have d2 : decide ((20 : Int) < (k : Int) - (f0 : Int)) = false := decide_eq_false (by omega)
                  by_cases hlen : n < lv + q
                  · have HN := Hbad.out (by rw [Hst2.out, if_pos (.inr (.inr (.inr (.inl hlen))))])
                    have d3 : decide ((n : Int) < (lv : Int) + (q : Int)) = true := decide_eq_true (by omega)
                    go_wp2
                    go_quiet (fail)
                    go_wp2
                    have cR : ((wr.drewN nq).setCell ⟨w.heap.size + 1, 0, none⟩ (.slice none 0 0)).cell? ⟨w.heap.size + 1, 0, none⟩ = some (.slice none 0 0) := (((hb6.out.drewN nq).set 0 (.slice none 0 0)).cell 0).trans rfl
                    exact bodyPost_ret (v := .tuple #[.agg #[.slice none 0 0], .bool false]) (by simp [results, Try.results83, go_sem, cR]) rfl ⟨_, _, _, by rw [HN.out]; rfl, (below_drewN hb.out nq).setCell (p := ⟨w.heap.size + 1, 0, none⟩) (by show w.heap.size ≤ w.heap.size + 1; omega) _, fun ys h => by rw [HN.out] at h; cases h⟩
                  · have d3 : decide ((n : Int) < (lv : Int) + (q : Int)) = false := decide_eq_false (by omega)
                    go_wp2
                    go_quiet (fail)
                    have ho6 : Hid ((wr.drewN nq).ownsRow w.heap.size 2 1 (.slice (some ⟨gl, 0, none⟩) L cl) L (iv left)) := ho
                    have hbq6 : Hid (Bk (wr.drewN nq) bq 27 [.slice AV lv cv]) := hbq
                    have hov6 : Hid (OwnL (wr.drewN nq) (bq + 1) (.slice AV lv cv) out) := hov
                    have hb66 : Hid (Bk (wr.drewN nq) (w.heap.size + 1) 27 [.slice none 0 0]) := hb6
                    have hb36 : Hid (Bk (wr.drewN nq) w.heap.size 27 [.slice (some ad) n c]) := hb3
                    have hbb6 : Hid (Below w.heap.size w (wr.drewN nq)) := hide (below_drewN hb.out nq)
                    obtain ⟨x, Hx2⟩ : ∃ x, Hid (k = x + f0) := ⟨k - f0, hide (by omega)⟩
                    have hx1 : 1 ≤ x := by have := Hx2.out; omega
                    have hx20 : x ≤ 20 := by have := Hx2.out; omega
                    have hxk : Hid (k - f0 = x) := hide (by have := Hx2.out; omega)
                    rw [hxk.out] at Hst2
                    have hxe : (k : Int) - (f0 : Int) = (x : Int) := by have := Hx2.out; omega
                    rw [hxe] at d1 d2 e1 ⊢
                    clear kq k6 f6 ho hbq hov hb6 hb3 hb d1 d2 d3 e1 e2 e4 e6 dn
                    generalize wr.drewN nq = w6 at *
                    have hinbL := hide hdi.out.inb
                    have hq6 : lv + q ≤ 6 := by omega
                    have hfitbad : fitB L x fs = false → Hid (divR fs want = none) := fun h => Hbad.out (by rw [Hst2.out, if_pos (.inr (.inr (.inr (.inr h))))])
                    have HFB := hide hfitbad
                    clear hfitbad hxe
                    have e7 := E7.out
                    go_wp2
                    clear e3 e5 e7 m0 m0n
                    go_loopw [18, 92] (fun _ i wr => ∃ (ρ : Nat) (bv : Value), ρ ≤ q ∧ i = .int .i64 (ρ : Int) ∧ (ρ = 0 ∨ fitB L x fs = true) ∧ Hid (wr.ownsRow w.heap.size 2 1 (.slice (some ⟨gl, 0, none⟩) L cl) L (iv (decR x fs left ρ))) ∧ Hid (Bk wr bq 27 [bv]) ∧ Hid (OwnL wr (bq + 1) bv (out ++ List.replicate ρ (x : Int))) ∧ Hid (Bk wr (w.heap.size + 1) 27 [.slice none 0 0]) ∧ Hid (Bk wr w.heap.size 27 [.slice (some ad) n c]) ∧ Hid (Below w.heap.size w wr)) (fun _ i _ => q - (intOf i).toNat)
                    case atStart => exact ⟨0, _, Nat.zero_le _, rfl, .inl rfl, ho6, hbq6, hide (by simpa using hov6.out), hb66, hb36, hbb6⟩
                    case round =>
                      clear ho6 hbq6 hov6 hb66 hb36 hbb6
                      obtain ⟨ρ, bv, hρ, rfl, hfit, ho, hbq, hov, hb6, hb3, hb⟩ := hrel
                      by_cases hlρ : ρ < q
                      · have hlen : (out ++ List.replicate ρ (x : Int)).length ≤ 1048576 := by rw [List.length_append, List.length_replicate, Hlv.out]; omega
                        have hz := hbq.out.lt
                        have cu : wr.cell? ⟨bq, 0, none⟩ = some bv := (hbq.out.cell 0).trans rfl
                        have Hrep : Hid (out ++ List.replicate (ρ + 1) (x : Int) = out ++ List.replicate ρ (x : Int) ++ [(x : Int)]) := hide (by rw [List.replicate_succ', List.append_assoc])
                        obtain ⟨Oρ, HOρ⟩ : ∃ O, Hid (out ++ List.replicate ρ (x : Int) = O) := ⟨_, hide rfl⟩
                        rw [HOρ.out] at hov hlen Hrep
                        have Hlenρ := hide hlen
                        clear hlen
                        obtain ⟨Dρ, HDρ⟩ : ∃ D, Hid (decR x fs left ρ = D) := ⟨_, hide rfl⟩
                        rw [HDρ.out] at ho
                        have HD2 : Hid (decR x fs left (ρ + 1) = cnF fs x (-1) Dρ n) := hide (by rw [decR, HDρ.out, Hl1.out])
                        have hglq : gl ≠ bq := by omega
                        go_upto_region 23 with (at_builtin; refine app1 hov.out Hlenρ.out (by omega) rfl rfl rfl rfl ?_; intro v' w7 ho7 hg7; have hn7 : ∀ b, b ≤ bq → some b ≠ bv.ownBlock := (fun b hb' e => by have := (hov.out.lt _ e.symm).1; omega); have hq7 := hbq.out.grown hg7 (hn7 bq (Nat.le_refl _)); have cu7 : w7.cell? ⟨bq, 0, none⟩ = some bv := (hq7.cell 0).trans rfl; have fr7 := hq7.free 0; obtain ⟨A7, c7, hv7, -, -, -, -⟩ := ho7.own.form; generalize (Oρ ++ [(x : Int)]).length = l7 at hv7; subst hv7)
                        have g1 : Hid ((w7.setCell ⟨bq, 0, none⟩ (.slice A7 l7 c7)).ownsRow w.heap.size 2 1 (.slice (some ⟨gl, 0, none⟩) L cl) L (iv Dρ)) := hide (ownsRow_setCell_other (World.ownsRow.kept ho.out hg7 (.inr (hn7 gl (by omega)))) (by simp [Value.ownBlock]; omega) _)
                        have g2 : Hid (Bk (w7.setCell ⟨bq, 0, none⟩ (.slice A7 l7 c7)) bq 27 [.slice A7 l7 c7]) := hide (hq7.set 0 _)
                        have g3 : Hid (OwnL (w7.setCell ⟨bq, 0, none⟩ (.slice A7 l7 c7)) (bq + 1) (.slice A7 l7 c7) (Oρ ++ [(x : Int)])) := hide (ho7.own.setCell (p := ⟨bq, 0, none⟩) (by show bq < bq + 1; omega) _).l
                        have g4 : Hid (Bk (w7.setCell ⟨bq, 0, none⟩ (.slice A7 l7 c7)) (w.heap.size + 1) 27 [.slice none 0 0]) := hide ((hb6.out.grown hg7 (hn7 _ (by omega))).far (by show w.heap.size + 1 ≠ bq; omega) _)
                        have g5 : Hid (Bk (w7.setCell ⟨bq, 0, none⟩ (.slice A7 l7 c7)) w.heap.size 27 [.slice (some ad) n c]) := hide ((hb3.out.grown hg7 (hn7 _ (by omega))).far (by show w.heap.size ≠ bq; omega) _)
                        have g6 : Hid (Below w.heap.size w (w7.setCell ⟨bq, 0, none⟩ (.slice A7 l7 c7))) := hide ((hb.out.grown hg7 (by omega) (fun g e => by have := (hov.out.lt g e).1; omega)).setCell (p := ⟨bq, 0, none⟩) (by show w.heap.size ≤ bq; omega) _)
                        clear ho hbq hov hb6 hb3 hb cu ho7 hg7 hn7 hq7 cu7 fr7 hz
                        generalize w7.setCell ⟨bq, 0, none⟩ (.slice A7 l7 c7) = w8 at *
                        have k8 : w8.cell? ⟨w.heap.size, 0, none⟩ = some (.slice (some ad) n c) := (g5.out.cell 0).trans rfl
                        have HDl : Hid (Dρ.length = L) := hide (by rw [← HDρ.out, decR_len, show left.length = want.length from hdi.out.len, Hl2.out])
                        have HDb : Hid (InB 990 Dρ) := hide (by
                          rw [← HDρ.out]
                          refine (hinbL.out.decR x fs ρ).mono ?_
                          show out.length * fs.length + ρ * fs.length ≤ 990
                          rw [Hlv.out, Hl1.out]
                          have h1 : lv * n ≤ 6 * 6 := Nat.mul_le_mul (by omega) hn
                          have h2 : ρ * n ≤ 6 * 6 := Nat.mul_le_mul (by omega) hn
                          omega)
                        go_wp2
                        go_loopw [18, 103] (fun _ i wr => ∃ (j : Nat), j ≤ n ∧ i = .int .i64 (j : Int) ∧ Hid (∀ j', j' < j → x + (fs.getD j' 0).toNat < L) ∧ Hid (wr.ownsRow w.heap.size 2 1 (.slice (some ⟨gl, 0, none⟩) L cl) L (iv (cnF fs x (-1) Dρ j))) ∧ Hid (Bk wr bq 27 [.slice A7 l7 c7]) ∧ Hid (OwnL wr (bq + 1) (.slice A7 l7 c7) (Oρ ++ [(x : Int)])) ∧ Hid (Bk wr (w.heap.size + 1) 27 [.slice none 0 0]) ∧ Hid (Bk wr w.heap.size 27 [.slice (some ad) n c]) ∧ Hid (Below w.heap.size w wr)) (fun _ i _ => n - (intOf i).toNat)
                        case atStart => exact ⟨0, Nat.zero_le _, rfl, hide (fun j' h => by omega), g1, g2, g3, g4, g5, g6⟩
                        case round =>
                          clear g1 g2 g3 g4 g5 g6 k8
                          obtain ⟨j, hj, rfl, hfj, ho, hbq, hov, hb6, hb3, hb⟩ := hrel
                          by_cases hlj : j < n
                          · obtain ⟨ad', e', hbl', hc⟩ := (Hr.out.below hb.out).int hlj
                            cases e'
                            obtain ⟨f, hf, hfa, hfb⟩ := HF.out j hlj
                            rw [hf] at hc
                            have Hf := hide hf
                            clear hf
                            have e1 : IntKind.i64.wrap ((x : Int) + (f : Int)) = (x : Int) + (f : Int) := IntWalk.i64_in _ (by omega)
                            have q1 : (0 : Int) ≤ (j : Int) := by omega
                            have q2 : (j : Int) < (n : Int) := by omega
                            by_cases hfit2 : x + f < L
                            · have d1 : decide ((L : Int) ≤ (x : Int) + (f : Int)) = false := decide_eq_false (by omega)
                              have hcy := ho.out.cellAt (x + f) (by omega)
                              rw [iv_get (by rw [cnF_len, HDl.out]; exact hfit2)] at hcy
                              have hyb := HDb.out.cnF fs x j (x + f)
                              have HST : Hid (cnF fs x (-1) Dρ (j + 1) = (cnF fs x (-1) Dρ j).set (x + f) ((cnF fs x (-1) Dρ j).getD (x + f) 0 + -1)) := hide (by rw [cnF, Hf.out, Int.toNat_natCast]; rfl)
                              generalize (cnF fs x (-1) Dρ j).getD (x + f) 0 = y at *
                              have hS := hide (ho.out.stored (x + f) (.int .i64 (y - 1)))
                              have hfz := ho.out.frozenAt (x + f)
                              have e2 : IntKind.i64.wrap (y - 1) = y - 1 := IntWalk.i64_in _ (by omega)
                              have q3 : (0 : Int) ≤ (x : Int) + (f : Int) := by omega
                              have q4 : (x : Int) + (f : Int) < (L : Int) := by omega
                              have q5 : ((x : Int) + (f : Int)).toNat = x + f := by omega
                              have hgn : ∀ b, b ≠ gl → some b ≠ some gl := fun b h e => h (Option.some.inj e)
                              have HS2 : Hid (∀ W, W.ownsRow w.heap.size 2 1 (.slice (some ⟨gl, 0, none⟩) L cl) L ((iv (cnF fs x (-1) Dρ j)).set (x + f) (.int .i64 (y - 1))) ∧ wr.grownBy W (some gl) → (Hid (W.ownsRow w.heap.size 2 1 (.slice (some ⟨gl, 0, none⟩) L cl) L (iv (cnF fs x (-1) Dρ (j + 1)))) ∧ Hid (Bk W bq 27 [.slice A7 l7 c7]) ∧ Hid (OwnL W (bq + 1) (.slice A7 l7 c7) (Oρ ++ [(x : Int)])) ∧ Hid (Bk W (w.heap.size + 1) 27 [.slice none 0 0]) ∧ Hid (Bk W w.heap.size 27 [.slice (some ad) n c]) ∧ Hid (Below w.heap.size w W))) := hide fun W hW => by
                                obtain ⟨h1, h2⟩ := hW
                                refine ⟨hide ?_, hide (hbq.out.grown h2 (hgn _ (by omega))), hide (hov.out.own.grown h2 (fun g e => .inl (by cases e; omega))).l, hide (hb6.out.grown h2 (hgn _ (by omega))), hide (hb3.out.grown h2 (hgn _ (by omega))), hide (hb.out.grown h2 (by have := hb.out.size; omega) (fun g e => by cases e; omega))⟩
                                rw [HST.out, show y + -1 = y - 1 by omega]
                                have e : iv ((cnF fs x (-1) Dρ j).set (x + f) (y - 1)) = (iv (cnF fs x (-1) Dρ j)).set (x + f) (.int .i64 (y - 1)) := by simp [iv, List.map_set]
                                rw [e]
                                exact h1
                              go_wp2
                              go_roundw
                              case rel => exact ⟨j + 1, by omega, by go_num, hide (fun j' hj' => by
                                by_cases e : j' = j
                                · subst e; rw [Hf.out, Int.toNat_natCast]; exact hfit2
                                · exact hfj.out j' (by omega)), HS2.out _ hS.out⟩
                              case measure => simp [intOf]; omega
                            · have d1 : decide ((L : Int) ≤ (x : Int) + (f : Int)) = true := decide_eq_true (by omega)
                              have HN := HFB.out (fitB_no (j := j) (by rw [Hl1.out]; exact hlj) (by rw [Hf.out, Int.toNat_natCast]; exact hfit2))
                              have k6 : wr.cell? ⟨w.heap.size + 1, 0, none⟩ = some (.slice none 0 0) := (hb6.out.cell 0).trans rfl
                              have f6 := hb6.out.free 0
                              go_wp2
                              have cR : (wr.setCell ⟨w.heap.size + 1, 0, none⟩ (.slice none 0 0)).cell? ⟨w.heap.size + 1, 0, none⟩ = some (.slice none 0 0) := ((hb6.out.set 0 (.slice none 0 0)).cell 0).trans rfl
                              exact bodyPost_ret (v := .tuple #[.agg #[.slice none 0 0], .bool false]) (by simp [results, Try.results83, go_sem, cR]) rfl ⟨_, _, _, by rw [HN.out]; rfl, hb.out.setCell (p := ⟨w.heap.size + 1, 0, none⟩) (by show w.heap.size ≤ w.heap.size + 1; omega) _, fun ys h => by rw [HN.out] at h; cases h⟩
                    
                          · have hjn : n = j := by omega
                            subst hjn
                            have HFY : Hid (fitB L x fs = true) := hide (fitB_yes (fun j' hj' => hfj.out j' (by rw [← Hl1.out]; exact hj')))
                            go_wp2
                            go_roundw
                            case rel => exact ⟨ρ + 1, _, by omega, by go_num, .inr HFY.out, by rw [HD2.out]; exact ho, hbq, by rw [Hrep.out]; exact hov, hb6, hb3, hb⟩
                            case measure => simp [intOf]; omega
                      · have hρq : ρ = q := by omega
                        subst hρq
                        have hq1 : ρ * m = vn := by have h1 := Nat.div_add_mod vn m; rw [Hrr.out, Hq.out, Nat.mul_comm] at h1; omega
                        have hρ1 : 1 ≤ ρ := by
                          rcases Nat.eq_zero_or_pos ρ with e | e
                          · rw [e] at hq1; omega
                          · exact e
                        have hft : fitB L x fs = true := by
                          rcases hfit with e | e
                          · omega
                          · exact e
                        have HDN := hide (hdi.out.next (q := ρ) (by rw [show (left, out).1.getD k 0 = (vn : Int) from Hv.out]; omega) (by rw [show (left, out).1.getD k 0 = (vn : Int) from Hv.out, Hl1.out, HM.out, hq1]) (by rw [Hf0.out, Int.toNat_natCast]; omega) (by rw [show (left, out).2.length = lv from Hlv.out, Hl1.out]; omega) (by rw [Hf0.out, Int.toNat_natCast, hxk.out, show (left, out).1.length = want.length from hdi.out.len, Hl2.out]; exact hft))
                        rw [Hf0.out, Int.toNat_natCast, hxk.out] at HDN
                        clear hq1 hft hfit
                        go_wp2
                        go_roundw
                        case rel => exact ⟨k + 1, _, _, _, by omega, by go_num, HDN, ho, hbq, hov, hb6, hb3, hb⟩
                        case measure => simp [intOf]; omega
              · have HN := Hbad.out (by rw [Hst2.out, if_pos (.inr (.inl (by omega)))])
                have d0 : ((r : Int) != 0) = true := by simp [hr0]
                have d00 : ¬ (r : Int) = 0 := by omega
                go_wp2
                go_quiet (fail)
                go_wp2
                have cR : ((wr.drewN nq).setCell ⟨w.heap.size + 1, 0, none⟩ (.slice none 0 0)).cell? ⟨w.heap.size + 1, 0, none⟩ = some (.slice none 0 0) := (((hb6.out.drewN nq).set 0 (.slice none 0 0)).cell 0).trans rfl
                exact bodyPost_ret (v := .tuple #[.agg #[.slice none 0 0], .bool false]) (by simp [results, Try.results83, go_sem, cR]) rfl ⟨_, _, _, by rw [HN.out]; rfl, (below_drewN hb.out nq).setCell (p := ⟨w.heap.size + 1, 0, none⟩) (by show w.heap.size ≤ w.heap.size + 1; omega) _, fun ys h => by rw [HN.out] at h; cases h⟩
        · have hkL : L = k := by omega
          subst hkL
          have HE := hide (divR_end (s := (left, out)) (by have h := hdi.out.eq; rw [← Hl2.out] at h; exact h))
          obtain ⟨AV, cv, hbv, -, -, -, -⟩ := hov.out.own.form
          obtain ⟨lv, Hlv⟩ : ∃ lv, Hid (out.length = lv) := ⟨_, hide rfl⟩
          rw [show (left, out).2.length = out.length from rfl, Hlv.out, Hl1.out] at HE
          rw [Hlv.out] at hbv
          subst hbv
          have kq : wr.cell? ⟨bq, 0, none⟩ = some (.slice AV lv cv) := (hbq.out.cell 0).trans rfl
          have k6 : wr.cell? ⟨w.heap.size + 1, 0, none⟩ = some (.slice none 0 0) := (hb6.out.cell 0).trans rfl
          have f6 := hb6.out.free 0
          clear HM HCE HF
          by_cases hln : lv = n
          · rw [if_pos hln] at HE
            subst hln
            go_wp2
            go_region
            go_wp2
            have cR : (wr.setCell ⟨w.heap.size + 1, 0, none⟩ (.slice AV lv cv)).cell? ⟨w.heap.size + 1, 0, none⟩ = some (.slice AV lv cv) := ((hb6.out.set 0 (.slice AV lv cv)).cell 0).trans rfl
            exact bodyPost_ret (v := .tuple #[.agg #[.slice AV lv cv], .bool true]) (by simp [results, Try.results83, go_sem, cR]) rfl ⟨_, _, _, by rw [HE.out]; rfl, (hb.out.setCell (p := ⟨w.heap.size + 1, 0, none⟩) (by show w.heap.size ≤ w.heap.size + 1; omega) _).drew, fun ys h => by
              rw [HE.out] at h
              injection h with h
              subst h
              have h1 := hov.out.own.setCell (p := ⟨w.heap.size + 1, 0, none⟩) (by show w.heap.size + 1 < bq + 1; omega) (.slice AV lv cv)
              have h2 : Own (wr.setCell ⟨w.heap.size + 1, 0, none⟩ (.slice AV lv cv)) w.heap.size wr.heap.size (.slice AV lv cv) out := h1.lo (by omega)
              have h3 : (wr.setCell ⟨w.heap.size + 1, 0, none⟩ (.slice AV lv cv)).drew.heap.size = wr.heap.size := set_size _ _ _
              rw [h3]
              exact h2.drew⟩
          · rw [if_neg hln] at HE
            have dl : decide ((lv : Int) = (n : Int)) = false := decide_eq_false (by omega)
            go_wp2
            go_region
            go_wp2
            have cR : (wr.setCell ⟨w.heap.size + 1, 0, none⟩ (.slice AV lv cv)).cell? ⟨w.heap.size + 1, 0, none⟩ = some (.slice AV lv cv) := ((hb6.out.set 0 (.slice AV lv cv)).cell 0).trans rfl
            exact bodyPost_ret (v := .tuple #[.agg #[.slice AV lv cv], .bool false]) (by simp [results, Try.results83, go_sem, cR]; try omega) rfl ⟨_, _, _, by rw [HE.out]; rfl, (hb.out.setCell (p := ⟨w.heap.size + 1, 0, none⟩) (by show w.heap.size ≤ w.heap.size + 1; omega) _).drew, fun ys h => by rw [HE.out] at h; cases h⟩
end Go.Proofs.Ythpboedpoipkcaa
