/- The walk of spec.l05Divide: the counts divided by a die. Conditions: 1 to 6 faces from 1 to 20, at most 20 counts. -/
import Derived.Test.YthpboedpoipkcaaDivP
import Derived.Test.YthpboedpoipkcaaFindV
namespace Go.Proofs.Ythpboedpoipkcaa
open Go.ChangeShapes Go.WideShapes Go.ChangeAt Go.RowKit

set_option maxRecDepth 100000 in
set_option maxHeartbeats 3200000 in
theorem sDiv (A B : Option Addr) (n c L d : Nat) (fs want : List Int) (w : World) (hr : Rd w A n (iv fs)) (hr2 : Rd w B L (iv want)) (h1 : 1 ≤ n) (hn : n ≤ 6) (hL : L ≤ 20)
    (hf : ∀ j, j < n → 1 ≤ fs.getD 0 0 ∧ fs.getD 0 0 ≤ fs.getD j 0 ∧ fs.getD j 0 ≤ 20) (hf0 : fs.getD 0 0 < (L : Int)) (hw : InB 0 want) :
    Calls Try.prog 79 #[.slice B L d, .slice A n c, .int .i64 (n : Int)] w fun e w' => ∃ r, e = .returned (.tuple #[r, .bool (divR fs want).isSome]) ∧ Below w.heap.size w w' ∧
      ∀ ys, divR fs want = some ys → Own w' w.heap.size w'.heap.size r ys := by
  have hl1 := hr.len
  have hl2 := hr2.len
  obtain ⟨f0, hf0e⟩ : ∃ f0 : Nat, fs.getD 0 0 = (f0 : Int) := ⟨(fs.getD 0 0).toNat, by have := (hf 0 (by omega)).1; omega⟩
  have hf01 : 1 ≤ f0 := by have := (hf 0 (by omega)).1; omega
  have hf0L : f0 < L := by omega
  have HF : Hid (∀ j, j < n → ∃ f : Nat, fs.getD j 0 = (f : Int) ∧ f0 ≤ f ∧ f ≤ 20) := hide fun j hj => ⟨(fs.getD j 0).toNat, by have := hf j hj; omega, by have := hf j hj; omega, by have := hf j hj; omega⟩
  have HS0 := hide (fun j (hj : j < fs.length) => (hf j (by omega)).2.1)
  have Hr := hide hr
  obtain ⟨ad, ea, hbl, hc0⟩ := hr.int (k := 0) (by omega)
  subst ea
  rw [hf0e] at hc0
  have HC0 := Lib.hid hc0
  have HI := hide (DivI.start (fs := fs) hw)
  have Hl1 := hide hl1
  have Hl2 := hide hl2
  have Hf0 := hide hf0e
  obtain ⟨m, HM⟩ : ∃ m, Hid (cntE fs n = m) := ⟨_, hide rfl⟩
  have hm1 : 0 < m := by rw [← HM.out]; exact cntE_pos fs (by omega)
  have hm2 : m ≤ n := by rw [← HM.out]; exact cntE_le fs n
  have Hr2 := hide hr2
  clear hf0 hf hw hr hl1 hl2 hf0e hc0 hr2
  go_enter Try.func79, Try.ntmps79
  go_upto_region 2 with (at_builtin; refine appR (OwnL.empty w #[] rfl (Nat.le_refl _)) (Hr2.out.alloc _) (by simp; have := Hl2.out; omega) ((Below.refl w.heap.size w).alloc (Nat.le_refl _) _).size rfl rfl rfl rfl ?_; intro v' w3 ho3 hg3 hd3; obtain ⟨gl, cl, hv'⟩ := owns_some ho3 (by rw [List.nil_append, Hl2.out]; omega); rw [List.nil_append, Hl2.out] at hv'; subst hv')
  rw [List.nil_append] at ho3
  have ho3l : w3.ownsRow w.heap.size 2 1 (.slice (some ⟨gl, 0, none⟩) L cl) L (iv want) := by have := ho3; unfold OwnL at this; rw [Hl2.out] at this; exact this
  have hglt := World.ownsRow.lt ho3l gl rfl
  have hb3 : Below w.heap.size w w3 := ((Below.refl _ _).alloc (Nat.le_refl _) _).grown hg3 ((Below.refl w.heap.size w).alloc (Nat.le_refl _) _).size (fun k hk => by simp [Value.ownBlock] at hk; omega)
  have Ho4 := hide (World.ownsRow.alloc ho3l (.cells #[] 2))
  have hov4 := hide (OwnL.empty w3 #[] rfl (lo := w3.heap.size) (Nat.le_refl _))
  have hb4 := hide (hb3.alloc hb3.size (.cells #[] 2))
  have hz3 := hb3.size
  clear ho3 ho3l hg3 hd3 hb3
  go_upto_region 3 with fail
  have hs4 : (w3.alloc (.cells #[] 2)).heap.size = w3.heap.size + 1 := by simp
  generalize w3.alloc (.cells #[] 2) = w4 at *
  generalize w3.heap.size = bq at *
  go_wp2
  go_loopw [9, 10, 11, 12, 13, 20] (fun ov _ _ _ _ i wr => ∃ (k : Nat) (left out : List Int), k ≤ L ∧ i = .int .i64 (k : Int) ∧ Hid (DivI fs want k (left, out)) ∧ Hid (wr.ownsRow w.heap.size 2 1 (.slice (some ⟨gl, 0, none⟩) L cl) L (iv left)) ∧ Hid (OwnL wr bq ov out) ∧ Hid (Below w.heap.size w wr) ∧ bq ≤ wr.heap.size) (fun _ _ _ _ _ i _ => L - (intOf i).toNat)
  case atStart => exact ⟨0, want, [], Nat.zero_le _, rfl, HI, Ho4, hov4, hb4, by omega⟩
  case round =>
    clear HI Ho4 hov4 hb4 hs4
    obtain ⟨k, left, out, hk, rfl, hdi, ho, hov, hb, hzq⟩ := hrel
    by_cases hlk : k < L
    · have hll : left.length = L := by have := hdi.out.len; rw [← Hl2.out]; exact this
      have hinb : -((out.length * fs.length : Nat) : Int) ≤ left.getD k 0 ∧ left.getD k 0 ≤ 1000 := hdi.out.inb k
      have hout : out.length ≤ n := by have := hdi.out.out; rw [Hl1.out] at this; exact this
      have hrow : out.length * fs.length ≤ 36 := by rw [Hl1.out]; exact Nat.le_trans (Nat.mul_le_mul hout (Nat.le_refl n)) (Nat.le_trans (Nat.mul_le_mul hn hn) (by decide))
      obtain ⟨v, Hv⟩ : ∃ v, Hid (left.getD k 0 = v) := ⟨_, hide rfl⟩
      obtain ⟨lv, Hlv⟩ : ∃ lv, Hid (out.length = lv) := ⟨_, hide rfl⟩
      have hz0 : Hid (v = 0 → DivI fs want (k + 1) (left, out)) := hide fun h => hdi.out.zero (Hv.out.trans h)
      have hbad : stepP fs k (left, out) = none → Hid (divR fs want = none) := fun h => hide (divR_step hdi.out.eq h (by rw [Hl2.out]; exact hlk))
      have hstep : stepP fs k (left, out) = if v = 0 then some (left, out) else if v < 0 ∨ v % (m : Int) ≠ 0 ∨ k < f0 + 1 ∨ n < lv + (v / (m : Int)).toNat ∨ fitB L (k - f0) fs = false then none else some (decR (k - f0) fs left (v / (m : Int)).toNat, out ++ List.replicate (v / (m : Int)).toNat ((k - f0 : Nat) : Int)) := by
        unfold stepP
        rw [Hl1.out, HM.out, Hf0.out, Int.toNat_natCast, show (left, out).1 = left from rfl, show (left, out).2 = out from rfl, Hv.out, Hlv.out, hll]
      have HBad : Hid (v ≠ 0 → (v < 0 ∨ v % (m : Int) ≠ 0 ∨ k < f0 + 1 ∨ n < lv + (v / (m : Int)).toNat ∨ fitB L (k - f0) fs = false) → Hid (divR fs want = none)) := hide fun h h2 => hbad (by rw [hstep, if_neg h, if_pos h2])
      rw [Hv.out] at hinb
      rw [Hlv.out] at hout
      have hvlo : -36 ≤ v := by omega
      have hvhi : v ≤ 1000 := hinb.2
      have hf1 : (0 : Int) ≤ (k : Int) := by omega
      have hf2 : (k : Int) < (L : Int) := by omega
      have HNext : Hid (∀ q : Nat, 0 < v → v = ((q * m : Nat) : Int) → f0 + 1 ≤ k → lv + q ≤ n → fitB L (k - f0) fs = true → DivI fs want (k + 1) (decR (k - f0) fs left q, out ++ List.replicate q ((k - f0 : Nat) : Int))) := hide fun q h1 h2 h3 h4 h5 => by
        have h := hdi.out.next (q := q) (by rw [show (left, out).1.getD k 0 = v from Hv.out]; exact h1) (by rw [show (left, out).1.getD k 0 = v from Hv.out, Hl1.out, HM.out, h2]) (by rw [Hf0.out, Int.toNat_natCast]; exact h3) (by rw [show (left, out).2.length = lv from Hlv.out, Hl1.out]; exact h4) (by rw [Hf0.out, Int.toNat_natCast, show (left, out).1.length = L from hll]; exact h5)
        rw [Hf0.out, Int.toNat_natCast] at h
        exact h
      have HDb : Hid (∀ ρ, lv + ρ ≤ n → InB 990 (decR (k - f0) fs left ρ)) := hide fun ρ hρ => by
        refine (hdi.out.inb.decR (k - f0) fs ρ).mono ?_
        show out.length * fs.length + ρ * fs.length ≤ 990
        rw [Hlv.out, Hl1.out]
        have h1 : lv * n ≤ 6 * 6 := Nat.mul_le_mul (by omega) hn
        have h2 : ρ * n ≤ 6 * 6 := Nat.mul_le_mul (by omega) hn
        omega
      have HDl : Hid (∀ ρ, (decR (k - f0) fs left ρ).length = L) := hide fun ρ => by rw [decR_len, hll]
      have HDf : Hid (∀ ρ, f0 + 1 ≤ k → fitB L (k - f0) fs = true → (decR (k - f0) fs left ρ).getD k 0 = v - ((ρ * m : Nat) : Int)) := hide fun ρ h1 h2 => by
        have h := decR_first (fs := fs) (left := left) (x := k - f0) (k := k) (by rw [Hf0.out, Int.toNat_natCast]; omega) HS0.out (by rw [Hf0.out]; omega) (by rw [hll]; exact h2) ρ
        rw [Hv.out, Hl1.out, HM.out] at h
        exact h
      have HD0 : Hid (decR (k - f0) fs left 0 = left) := hide rfl
      have HDs : Hid (∀ ρ, decR (k - f0) fs left (ρ + 1) = cnF fs (k - f0) (-1) (decR (k - f0) fs left ρ) n) := hide fun ρ => by rw [decR, Hl1.out]
      obtain ⟨x, Hx⟩ : ∃ x, Hid (k - f0 = x) := ⟨_, hide rfl⟩
      have hx20 : x ≤ 20 := by have := Hx.out; omega
      rw [Hx.out] at HBad HNext HDb HDl HDf HD0 HDs
      generalize decR x fs left = DR at *
      clear hstep hbad hinb hrow hll
      have hov0 : Hid (OwnL wr bq u9 (out ++ List.replicate 0 (x : Int))) := hide (by simpa using hov.out)
      have ho0 : Hid (wr.ownsRow w.heap.size 2 1 (.slice (some ⟨gl, 0, none⟩) L cl) L (iv (DR 0))) := by rw [HD0.out]; exact ho
      go_wp2
      go_loopg [9, 11, 12, 13] (n - lv) (fun gk ov _ _ _ wr => ∃ ρ : Nat, lv + ρ ≤ n ∧ gk = n - (lv + ρ) ∧ Hid (ρ = 0 ∨ (f0 + 1 ≤ k ∧ fitB L x fs = true ∧ (((ρ - 1) * m : Nat) : Int) < v)) ∧ Hid (wr.ownsRow w.heap.size 2 1 (.slice (some ⟨gl, 0, none⟩) L cl) L (iv (DR ρ))) ∧ Hid (OwnL wr bq ov (out ++ List.replicate ρ (x : Int))) ∧ Hid (Below w.heap.size w wr) ∧ bq ≤ wr.heap.size)
      case atStart => exact ⟨0, by omega, rfl, hide (.inl rfl), ho0, hov0, hb, hzq⟩
      case round =>
        clear ho hov hb ho0 hov0
        obtain ⟨ρ, hρ, hgk, hinv, ho, hov, hb, hzq⟩ := hrel
        have hcu := ho.out.cellAt k (by omega)
        rw [iv_get (by rw [HDl.out]; exact hlk)] at hcu
        have HU : Hid ((DR ρ).getD k 0 = v - ((ρ * m : Nat) : Int)) := hide (by
          rcases hinv.out with e | ⟨e1, e2, -⟩
          · subst e; rw [HD0.out, Hv.out]; simp
          · exact HDf.out ρ e1 e2)
        have hu1 := (HDb.out ρ hρ k).2
        have hu0 := (HDb.out ρ hρ k).1
        generalize (DR ρ).getD k 0 = u at *
        by_cases hu : u = 0
        · subst hu
          have HNX : Hid (DivI fs want (k + 1) (DR ρ, out ++ List.replicate ρ (x : Int))) := hide (by
            rcases hinv.out with e | ⟨e1, e2, e3⟩
            · subst e
              have h := hz0.out (by have := HU.out; simp at this; omega)
              rw [HD0.out]
              simpa using h
            · have h1 := HU.out
              have h2 := HNext.out ρ (by have : (0 : Int) ≤ (((ρ - 1) * m : Nat) : Int) := Int.natCast_nonneg _; omega) (by omega) e1 hρ e2
              exact h2)
          go_wp2
          go_roundw
          case rel => exact ⟨k + 1, _, _, by omega, by go_num, HNX, ho, hov, hb, hzq⟩
          case measure => simp [intOf]; omega
        · have hv0 : v ≠ 0 := by
            intro e
            rcases hinv.out with e1 | ⟨-, -, e3⟩
            · subst e1; have h := HU.out; simp at h; omega
            · have : (0 : Int) ≤ (((ρ - 1) * m : Nat) : Int) := Int.natCast_nonneg _
              omega
          have hk0 : wr.cell? ad = some (.int .i64 (f0 : Int)) := (hb.out.cell (p := ad) hbl).trans HC0.out
          have e1 : IntKind.i64.wrap ((k : Int) - (f0 : Int)) = (k : Int) - (f0 : Int) := IntWalk.i64_in _ (by omega)
          have u1 : (u != 0) = true := by simpa using hu
          by_cases hneg : u < 0
          · have HN := HBad.out hv0 (by
              by_cases hvn : v < 0
              · exact .inl hvn
              · refine .inr (.inl (fun e => ?_))
                have h1 := HU.out
                rcases hinv.out with e1 | ⟨-, -, e3⟩
                · subst e1; simp at h1; omega
                · obtain ⟨ρ', rfl⟩ : ∃ ρ', ρ = ρ' + 1 := ⟨ρ - 1, by
                    rcases Nat.eq_zero_or_pos ρ with e | e
                    · subst e; simp at h1; omega
                    · omega⟩
                  obtain ⟨t, ht⟩ := Int.dvd_of_emod_eq_zero e
                  rw [Nat.add_sub_cancel] at e3
                  rw [ht, Int.natCast_mul, Int.mul_comm] at e3
                  rw [ht, Int.natCast_mul, Int.mul_comm ((ρ' + 1 : Nat) : Int)] at h1
                  have h4 : ((ρ' : Nat) : Int) < t := Int.lt_of_mul_lt_mul_left e3 (by omega)
                  have h5 : (m : Int) * ((ρ' + 1 : Nat) : Int) ≤ (m : Int) * t := Int.mul_le_mul_of_nonneg_left (by omega) (by omega)
                  omega)
            go_wp2
            go_ret2
            exact ⟨_, by rw [HN.out]; rfl, hb.out, fun ys h => by rw [HN.out] at h; cases h⟩
          · obtain ⟨AV, cv, hbv, -, -, -, -⟩ := hov.out.own.form
            have hlo : (out ++ List.replicate ρ (x : Int)).length = lv + ρ := by rw [List.length_append, List.length_replicate, Hlv.out]
            rw [hlo] at hbv
            obtain ⟨l9, Hl9⟩ : ∃ l9, Hid (lv + ρ = l9) := ⟨_, hide rfl⟩
            rw [Hl9.out] at hbv hρ hlo
            have Hlo := hide hlo
            clear hlo
            subst hbv
            have un : decide (u < 0) = false := decide_eq_false hneg
            by_cases hfull : l9 = n
            · have HN := HBad.out hv0 (by
                by_cases hr0 : v % (m : Int) = 0
                · obtain ⟨t, ht⟩ := Int.dvd_of_emod_eq_zero hr0
                  have h1 := HU.out
                  have h3 : (0 : Int) < v := by have : (0 : Int) ≤ ((ρ * m : Nat) : Int) := Int.natCast_nonneg _; omega
                  refine .inr (.inr (.inr (.inl ?_)))
                  have h4 : v / (m : Int) = t := by rw [ht]; exact Int.mul_ediv_cancel_left _ (by omega)
                  rw [h4]
                  have h5 : (m : Int) * (ρ : Int) < (m : Int) * t := by rw [← ht, Int.mul_comm]; rw [Int.natCast_mul] at h1; omega
                  have h6 : (ρ : Int) < t := Int.lt_of_mul_lt_mul_left h5 (by omega)
                  have := Hl9.out
                  omega
                · exact .inr (.inl hr0))
              have d1 : decide ((l9 : Int) = (n : Int)) = true := decide_eq_true (by omega)
              clear hgk
              subst hfull
              go_wp2
              go_ret2
              exact ⟨_, by rw [HN.out]; rfl, hb.out, fun ys h => by rw [HN.out] at h; cases h⟩
            · have d1 : decide ((l9 : Int) = (n : Int)) = false := decide_eq_false (by omega)
              by_cases hx1 : k < f0 + 1
              · have HN := HBad.out hv0 (.inr (.inr (.inl hx1)))
                have d2 : decide ((k : Int) - (f0 : Int) < 1) = true := decide_eq_true (by omega)
                go_wp2
                go_ret2
                exact ⟨_, by rw [HN.out]; rfl, hb.out, fun ys h => by rw [HN.out] at h; cases h⟩
              · have hx1' : 1 ≤ x := by have := Hx.out; omega
                have ex : IntKind.i64.wrap ((k : Int) - (f0 : Int)) = (x : Int) := e1.trans (by have := Hx.out; omega)
                clear e1
                have d2 : decide ((x : Int) < 1) = false := decide_eq_false (by omega)
                go_upto_region 10 with fail
                clear d1 d2 ex un u1 hk0
                have Hho := ho
                have Hhov := hov
                have Hhb := hb
                obtain ⟨Dρ, HDρ⟩ : ∃ D, Hid (DR ρ = D) := ⟨_, hide rfl⟩
                rw [HDρ.out] at Hho
                have HDρl : Hid (Dρ.length = L) := hide (by rw [← HDρ.out]; exact HDl.out ρ)
                have HDρb : Hid (InB 990 Dρ) := hide (by rw [← HDρ.out]; exact HDb.out ρ (by have := Hl9.out; omega))
                have HD2 : Hid (DR (ρ + 1) = cnF fs x (-1) Dρ n) := hide (by rw [HDs.out, HDρ.out])
                obtain ⟨Oρ, HOρ⟩ : ∃ O, Hid (out ++ List.replicate ρ (x : Int) = O) := ⟨_, hide rfl⟩
                have Hrep : Hid (out ++ List.replicate (ρ + 1) (x : Int) = Oρ ++ [(x : Int)]) := hide (by rw [List.replicate_succ', ← List.append_assoc, HOρ.out])
                rw [HOρ.out] at Hhov
                have hOl : Hid (Oρ.length = l9) := hide (by rw [← HOρ.out]; exact Hlo.out)
                have HNF : fitB L x fs = false → Hid (divR fs want = none) := fun h => HBad.out hv0 (.inr (.inr (.inr (.inr h))))
                have HFB := hide HNF
                have hglq : gl < bq := hglt.2
                have hwq : w.heap.size ≤ bq := hz3
                clear ho hov hb hcu HNF
                go_wp2
                go_loopw [12, 13, 50] (fun _ _ i wr => ∃ j : Nat, j ≤ n ∧ i = .int .i64 (j : Int) ∧ Hid (∀ j', j' < j → x + (fs.getD j' 0).toNat < L) ∧ Hid (wr.ownsRow w.heap.size 2 1 (.slice (some ⟨gl, 0, none⟩) L cl) L (iv (cnF fs x (-1) Dρ j))) ∧ Hid (OwnL wr bq (.slice AV l9 cv) Oρ) ∧ Hid (Below w.heap.size w wr) ∧ bq ≤ wr.heap.size) (fun _ _ i _ => n - (intOf i).toNat)
                case atStart => exact ⟨0, Nat.zero_le _, rfl, hide (fun j' h => by omega), Hho, Hhov, Hhb, hzq⟩
                case round =>
                  clear Hho Hhov Hhb
                  obtain ⟨j, hj, rfl, hfj, ho, hov, hb, hzq⟩ := hrel
                  by_cases hlj : j < n
                  · obtain ⟨ad', e', hbl', hc⟩ := (Hr.out.below hb.out).int hlj
                    cases e'
                    obtain ⟨f, hf, hfa, hfb⟩ := HF.out j hlj
                    rw [hf] at hc
                    have Hf := hide hf
                    clear hf
                    have e1 : IntKind.i64.wrap ((x : Int) + (f : Int)) = (x : Int) + (f : Int) := IntWalk.i64_in _ (by omega)
                    have q1 : (0 : Int) ≤ (j : Int) := by omega
                    have q2 : (j : Int) < (n : Int) := by omega
                    by_cases hfit2 : x + f < L
                    · have d1 : decide ((L : Int) ≤ (x : Int) + (f : Int)) = false := decide_eq_false (by omega)
                      have hcy := ho.out.cellAt (x + f) (by omega)
                      rw [iv_get (by rw [cnF_len, HDρl.out]; exact hfit2)] at hcy
                      have hyb := HDρb.out.cnF fs x j (x + f)
                      have HST : Hid (cnF fs x (-1) Dρ (j + 1) = (cnF fs x (-1) Dρ j).set (x + f) ((cnF fs x (-1) Dρ j).getD (x + f) 0 + -1)) := hide (by rw [cnF, Hf.out, Int.toNat_natCast]; rfl)
                      generalize (cnF fs x (-1) Dρ j).getD (x + f) 0 = y at *
                      have hS := hide (ho.out.stored (x + f) (.int .i64 (y - 1)))
                      have hfz := ho.out.frozenAt (x + f)
                      have e2 : IntKind.i64.wrap (y - 1) = y - 1 := IntWalk.i64_in _ (by omega)
                      have q3 : (0 : Int) ≤ (x : Int) + (f : Int) := by omega
                      have q4 : (x : Int) + (f : Int) < (L : Int) := by omega
                      have q5 : ((x : Int) + (f : Int)).toNat = x + f := by omega
                      have HS2 : Hid (∀ W, W.ownsRow w.heap.size 2 1 (.slice (some ⟨gl, 0, none⟩) L cl) L ((iv (cnF fs x (-1) Dρ j)).set (x + f) (.int .i64 (y - 1))) ∧ wr.grownBy W (some gl) → (Hid (W.ownsRow w.heap.size 2 1 (.slice (some ⟨gl, 0, none⟩) L cl) L (iv (cnF fs x (-1) Dρ (j + 1)))) ∧ Hid (OwnL W bq (.slice AV l9 cv) Oρ) ∧ Hid (Below w.heap.size w W) ∧ bq ≤ W.heap.size)) := hide fun W hW => by
                        obtain ⟨h1, h2⟩ := hW
                        refine ⟨hide ?_, hide (hov.out.own.grown h2 (fun g e => .inl (by cases e; omega))).l, hide (hb.out.grown h2 (by have := hb.out.size; omega) (fun g e => by cases e; omega)), Nat.le_trans hzq h2.size⟩
                        rw [HST.out, show y + -1 = y - 1 by omega]
                        have e : iv ((cnF fs x (-1) Dρ j).set (x + f) (y - 1)) = (iv (cnF fs x (-1) Dρ j)).set (x + f) (.int .i64 (y - 1)) := by simp [iv, List.map_set]
                        rw [e]
                        exact h1
                      go_wp2
                      go_roundw
                      case rel => exact ⟨j + 1, by omega, by go_num, hide (fun j' hj' => by
                        by_cases e : j' = j
                        · subst e; rw [Hf.out, Int.toNat_natCast]; exact hfit2
                        · exact hfj.out j' (by omega)), HS2.out _ hS.out⟩
                      case measure => simp [intOf]; omega
                    · have d1 : decide ((L : Int) ≤ (x : Int) + (f : Int)) = true := decide_eq_true (by omega)
                      have HN := HFB.out (fitB_no (j := j) (by rw [Hl1.out]; exact hlj) (by rw [Hf.out, Int.toNat_natCast]; exact hfit2))
                      go_wp2
                      go_ret2
                      exact ⟨_, by rw [HN.out]; rfl, hb.out, fun ys h => by rw [HN.out] at h; cases h⟩
                  · have hjn : n = j := by omega
                    subst hjn
                    have HFY : Hid (fitB L x fs = true) := hide (fitB_yes (fun j' hj' => hfj.out j' (by rw [← Hl1.out]; exact hj')))
                    have HV : Hid (((ρ * m : Nat) : Int) < v) := hide (by have := HU.out; omega)
                    have hz := hb.out.size
                    go_wp2_with (at_builtin; refine app1 hov.out (by rw [hOl.out]; omega) hzq rfl rfl rfl rfl ?_; intro v7 w7 ho7 hg7)
                    have hne : some gl ≠ (Value.slice AV l9 cv).ownBlock := fun e => by have := (hov.out.lt _ e.symm).1; omega
                    go_roundg (n - (lv + (ρ + 1)))
                    case measure => have := Hl9.out; omega
                    case rel => exact ⟨ρ + 1, by have := Hl9.out; omega, rfl, hide (.inr ⟨by omega, HFY.out, by rw [Nat.add_sub_cancel]; exact HV.out⟩), hide (by rw [HD2.out]; exact World.ownsRow.kept ho.out hg7 (.inr hne)), hide (by rw [Hrep.out]; exact ho7), hide (hb.out.grown hg7 (by omega) (fun g e => by have := (hov.out.lt g e).1; omega)), Nat.le_trans hzq hg7.size⟩
    · have hkL : L = k := by omega
      subst hkL
      have HE := hide (divR_end (s := (left, out)) (by have h := hdi.out.eq; rw [← Hl2.out] at h; exact h))
      obtain ⟨AV, cv, hbv, -, -, -, -⟩ := hov.out.own.form
      obtain ⟨lv, Hlv⟩ : ∃ lv, Hid (out.length = lv) := ⟨_, hide rfl⟩
      rw [show (left, out).2.length = out.length from rfl, Hlv.out, Hl1.out] at HE
      rw [Hlv.out] at hbv
      subst hbv
      clear HM HF
      by_cases hln : lv = n
      · rw [if_pos hln] at HE
        have dl : ((lv : Int) == (n : Int)) = true := by simp [hln]
        clear hln
        go_wp2
        go_ret2
        exact ⟨_, by rw [HE.out]; rfl, hb.out, fun ys h => by
          rw [HE.out] at h
          injection h with h
          subst h
          exact hov.out.own.lo hz3⟩
      · rw [if_neg hln] at HE
        have dl : ((lv : Int) == (n : Int)) = false := by simp; omega
        go_wp2
        go_ret2
        exact ⟨_, by rw [HE.out]; rfl, hb.out, fun ys h => by rw [HE.out] at h; cases h⟩
end Go.Proofs.Ythpboedpoipkcaa
