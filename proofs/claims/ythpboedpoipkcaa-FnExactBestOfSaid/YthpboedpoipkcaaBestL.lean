/- spec.BestOf where all is allowed. Conditions: those. -/
import Derived.Test.YthpboedpoipkcaaBestK
import Derived.Test.YthpboedpoipkcaaEachG
import Derived.Deep.QuietTactic
import Derived.BigQuiet
namespace Go.Proofs.Ythpboedpoipkcaa
open Go.ChangeShapes Go.WideShapes Go.ChangeAt Go.RowKit

def slLen : Value → Nat
  | .slice _ n _ => n
  | _ => 0
/-- what is left of a throw's number behind i dice -/
def resT (xss : List (List Int)) (W : Nat) : Nat → Nat
  | 0 => W
  | i + 1 => resT xss W i / (xss.getD i []).length
theorem resT_cons (D : List Int) (xss : List (List Int)) (W i : Nat) : resT (D :: xss) W (i + 1) = resT xss (W / D.length) i := by
  induction i with
  | zero => simp [resT, List.getD]
  | succ i ih => rw [resT, ih, resT]; simp [List.getD]
theorem resT_le (xss : List (List Int)) (W i : Nat) : resT xss W i ≤ W := by
  induction i with
  | zero => exact Nat.le_refl _
  | succ i ih => rw [resT]; exact Nat.le_trans (Nat.div_le_self _ _) ih
theorem digT_len (xss : List (List Int)) : ∀ W, (digT xss W).length = xss.length := by
  induction xss with
  | nil => intro W; rfl
  | cons D xss ih => intro W; simp [digT, ih]
theorem digT_get : ∀ (xss : List (List Int)) (W i : Nat), i < xss.length → (digT xss W).getD i 0 = (xss.getD i []).getD (resT xss W i % (xss.getD i []).length) 0 := by
  intro xss
  induction xss with
  | nil => intro W i h; simp at h
  | cons D xss ih =>
    intro W i hi
    cases i with
    | zero => simp [digT, resT, List.getD]
    | succ i =>
      have := ih (W / D.length) i (by simpa using hi)
      rw [resT_cons]
      simpa [digT, List.getD] using this
theorem digT_step (xss : List (List Int)) (W : Nat) {i : Nat} (hi : i < xss.length) : (digT xss W).take (i + 1) = (digT xss W).take i ++ [(xss.getD i []).getD (resT xss W i % (xss.getD i []).length) 0] := by
  rw [List.take_succ_eq_append_getElem (by rw [digT_len]; exact hi), ← digT_get xss W i hi]
  simp [List.getD, digT_len, hi]

set_option maxRecDepth 100000 in
set_option maxHeartbeats 1600000 in
theorem sBestT (A : Option Addr) (n c k : Nat) (xss : List (List Int)) (w : World) (hr : RdR w A n xss) (hok : boOk xss (k : Int) = true) :
    Calls Try.prog 52 #[.slice A n c, .int .i64 (k : Int)] w fun e w' => ∃ r, e = .returned (.tuple #[r, .int .i64 ((waysL xss : Nat) : Int), .bool true]) ∧ Own w' w.heap.size w'.heap.size r (spW (bestN k) xss (waysL xss)) ∧ Below w.heap.size w w' := by
  obtain ⟨hD, hK, hT⟩ := boOk_of hok
  have hl := hr.len
  obtain ⟨hn1, hn6, hdie⟩ := diceB_of hD
  have hk := hK
  rw [inB_iff] at hk
  have hk1 : 1 ≤ k := by omega
  have hkn : k ≤ n := by omega
  have hn16 : n ≤ 6 := by omega
  have H := Lib.hid (sDice A n c xss w hr (by omega) (fun i hi => by have := dieB_len (hdie i (by omega)); omega))
  have HK := Lib.hid (fun V => sIn (k : Int) 1 (n : Int) V)
  have HW := Lib.hid (fun q => sWays A n c xss (w.drewN q) (hr.drewN q) hn16 (fun i hi => (dieB_len (hdie i (by omega))).2))
  rw [hl] at hK
  rw [hD] at H
  rw [hK] at HK
  have Hr := hide hr
  have Hdie : Hid (∀ i, i < n → dieB (xss.getD i []) = true) := hide fun i hi => hdie i (by omega)
  have HdS : Hid (∀ W i, i < n → (digT xss W).take (i + 1) = (digT xss W).take i ++ [(xss.getD i []).getD (resT xss W i % (xss.getD i []).length) 0]) := hide fun W i hi => digT_step xss W (by omega)
  have HdL : Hid (∀ W, (digT xss W).length = n) := hide fun W => by rw [digT_len, hl]
  have Hrs : Hid (∀ W i, resT xss W (i + 1) = resT xss W i / (xss.getD i []).length) := hide fun _ _ => rfl
  clear hr hl hdie hok hk hn1 hn6 hD hK
  generalize hTd : waysL xss = T at *
  have HTd := hide hTd
  clear hTd
  have d1 : decide ((100000 : Int) < (T : Int)) = false := decide_eq_false (by omega)
  go_enter Try.func52, Try.ntmps52
  go_upto_region 5 with (first | (go_at_call 65; refine H.out.mono ?_; rintro e w2 ⟨rfl, q, rfl⟩) | (go_at_call 60; with_reducible refine (HK.out _).mono ?_; rintro e w' ⟨rfl, rfl⟩) | (go_at_call 87; refine (HW.out _).mono ?_; rintro e w' ⟨rfl, rfl⟩))
  have hE0 := OwnL.empty (w.drewN q) #[] rfl (lo := w.heap.size) (Nat.le_refl _)
  have hB0 : Below w.heap.size w ((w.drewN q).alloc (.cells #[] 2)) := (below_drewN (Below.refl _ _) q).alloc (Nat.le_refl _) _
  have HE0 := hide hE0
  have HB0 := hide hB0
  clear hE0 hB0 H HK HW
  change Code.wp _ _ _ _ ((w.drewN q).alloc (.cells #[] 2))
  generalize (w.drewN q).alloc (.cells #[] 2) = w1 at *
  have HE0' : Hid (OwnL w1 w.heap.size (.slice (some ⟨w.heap.size, 0, none⟩) 0 0) []) := HE0
  clear HE0
  go_wp2
  go_loopw [8, 9] (fun c8 t9 wr => ∃ U : Nat, U ≤ T ∧ t9 = .int .i64 (U : Int) ∧ Hid (OwnL wr w.heap.size c8 (spW (bestN k) xss U)) ∧ Hid (Below w.heap.size w wr)) (fun _ t9 _ => T - (intOf t9).toNat)
  case atStart => exact ⟨0, Nat.zero_le _, rfl, HE0', HB0⟩
  case round =>
    clear HE0' HB0
    obtain ⟨U, hU, rfl, ho, hb⟩ := hrel
    by_cases hlt : U < T
    · obtain ⟨w3, rfl⟩ : ∃ w3 : World, w3 = wr := ⟨_, rfl⟩
      have hD0 : Hid (OwnL (w3.alloc (.cells #[] 2)) w3.heap.size (.slice (some ⟨w3.heap.size, 0, none⟩) 0 0) ((digT xss U).take 0)) := hide (OwnL.empty w3 #[] rfl (lo := w3.heap.size) (Nat.le_refl _))
      have hDb : Hid (Below w3.heap.size w3 (w3.alloc (.cells #[] 2))) := hide ((Below.refl _ _).alloc (Nat.le_refl _) _)
      go_upto_region 10 with fail
      change Code.wp _ _ _ _ (w3.alloc (.cells #[] 2))
      generalize w3.alloc (.cells #[] 2) = w4 at *
      have HdS2 := hide (fun i (hi : i < n) => HdS.out U i hi)
      have HdL2 := hide (HdL.out U)
      have Hrs2 := hide (fun i => Hrs.out U i)
      have Hr0 : Hid (resT xss U 0 = U) := hide rfl
      have Hrl := hide (fun i => resT_le xss U i)
      have HDr : Hid (∀ x ∈ digT xss U, 0 ≤ x ∧ x ≤ 20) := hide fun x hx => by
        obtain ⟨i, hi, e⟩ := list_getD_mem hx
        rw [HdL2.out] at hi
        rw [← e]
        have hl := Hr.out.len
        rw [digT_get xss U i (by omega)]
        have hdi := Hdie.out i hi
        exact die_in hdi (Nat.mod_lt _ (by have := dieB_len hdi; omega))
      clear HdS HdL Hrs
      generalize hDT : digT xss U = DT at *
      have HDT := hide hDT
      clear hDT
      generalize resT xss U = RT at *
      go_wp2
      go_loopw [10, 11, 45] (fun r10 f11 i wr => ∃ j : Nat, j ≤ n ∧ i = .int .i64 (j : Int) ∧ r10 = .int .i64 ((RT j : Nat) : Int) ∧ Hid (OwnL wr w3.heap.size f11 (DT.take j)) ∧ Hid (Below w3.heap.size w3 wr)) (fun _ _ i _ => n - (intOf i).toNat)
      case atStart => exact ⟨0, Nat.zero_le _, rfl, by rw [Hr0.out], hD0, hDb⟩
      case round =>
        clear hD0 hDb
        obtain ⟨j, hj, rfl, rfl, hf, hbf⟩ := hrel
        by_cases hjn : j < n
        · obtain ⟨ad, B, d, rfl, hbl, hc0, hrr, hdd⟩ := Hr.out.at hjn
          have HBw := hide (hb.out.trans (hbf.out.mono hb.out.size))
          have hc := (HBw.out.cell (p := ad.add j) (by rw [add_block]; exact hbl)).trans hc0
          have hdi := Hdie.out j hjn
          have hlen := dieB_len hdi
          have Hs1 := hide (HdS2.out j hjn)
          have Hs2 := hide (Hrs2.out j)
          have hrl := Hrl.out j
          have hmod : RT j % (xss.getD j []).length < (xss.getD j []).length := Nat.mod_lt _ (by omega)
          obtain ⟨bd, rfl, hbb, hcB0⟩ := hrr.int hmod
          have hcB := (HBw.out.cell (p := bd.add _) (by rw [add_block]; exact hbb)).trans hcB0
          clear hrr hdi hc0 hcB0
          generalize (xss.getD j []).getD (RT j % (xss.getD j []).length) 0 = z at *
          generalize (xss.getD j []).length = m at *
          generalize RT j = r at *
          go_upto_region 14 with fail
          have hx0 : ((r : Int) % (m : Int)) = ((r % m : Nat) : Int) := (Int.natCast_emod r m).symm
          have hx1 : IntKind.i64.wrap ((r : Int) % (m : Int)) = ((r % m : Nat) : Int) := by rw [hx0]; exact IntWalk.i64_in _ (by omega)
          have hx2 : IntKind.i64.wrap (Int.tmod (r : Int) (m : Int)) = ((r % m : Nat) : Int) := by rw [Int.tmod_eq_emod_of_nonneg (by omega), hx0]; exact IntWalk.i64_in _ (by omega)
          have hx3 : Int.tmod (r : Int) (m : Int) = ((r % m : Nat) : Int) := by rw [Int.tmod_eq_emod_of_nonneg (by omega), hx0]
          have hm0 : ¬ m = 0 := by omega
          have hy0 : ((r : Int) / (m : Int)) = ((r / m : Nat) : Int) := (Int.natCast_ediv r m).symm
          have hyl : r / m ≤ r := Nat.div_le_self r m
          generalize r % m = x at *
          generalize r / m = y at *
          have hyb : wrap64 (y : Int) = (y : Int) := IntWalk.wrap64_in _ (by omega)
          have Hyb := hide hyb
          clear hyb
          have qx1 : (0 : Int) ≤ (x : Int) := by omega
          have qx2 : (x : Int) < (m : Int) := by omega
          have Hfl : Hid ((DT.take j).length = j) := hide (by rw [List.length_take, HdL2.out]; omega)
          have hfo := hf.out
          have hbl2 : (ad.add j).block < w3.heap.size := by rw [add_block]; exact Nat.lt_of_lt_of_le hbl hb.out.size
          have hbb2 : (bd.add x).block < w3.heap.size := by rw [add_block]; exact Nat.lt_of_lt_of_le hbb hb.out.size
          have hc1' := hc
          have hc2' := hcB
          go_region_held3 (fun w' => w'.cell? (ad.add j) = some (.slice (some bd) m d) ∧ w'.cell? (bd.add x) = some (.int .i64 z))
            (first | exact ⟨hc1', hc2'⟩ | go_keep | exact ⟨(hb4.cell (p := ad.add j) hbl2).trans hc1', (hb4.cell (p := bd.add x) hbb2).trans hc2'⟩)
            ((refine step_app1 (by rfl) (by rfl) (by rfl) (by rfl) (OwnL.alloc hfo _) (g := wr.heap.size) (y := z) (by show (wr.alloc _).cell? _ = _; rw [World.cell?_alloc_at _ _ _ _ rfl]; rfl) (by have := Hfl.out; omega) (by have := hbf.out.size; simp; omega) ?_; intro v4 w4 ho4 hgrow; have hg' : wr.grownBy w4 u11.ownBlock := (World.grownBy_alloc wr _ _).trans (⟨hgrow.os, hgrow.tape, hgrow.output, hgrow.size, hgrow.block⟩ : (wr.alloc (.cells #[.int .i64 z] 2)).grownBy w4 u11.ownBlock); have hb4 : Below w3.heap.size wr w4 := (Below.refl _ _).grown hg' hbf.out.size (fun g hg => (World.ownsRow.lt hfo g hg).1)))
          go_wp2
          exact ⟨⟨j + 1, by omega, by go_num, by rw [Hs2.out], hide (by rw [Hs1.out]; exact ho4), hide (hbf.out.trans hb4)⟩, by simp [intOf]; omega⟩
        · obtain rfl : j = n := by omega
          have Hff : Hid (OwnL wr w3.heap.size u11 DT) := hide (by have := hf.out; rw [List.take_of_length_le (by rw [HdL2.out]; omega)] at this; exact this)
          clear hf
          obtain ⟨g, cc, rfl, hg1, hg2, hcc, hrow⟩ := owns_form (n := j) Hff.out.own HdL2.out (by omega)
          have HR0 : Hid (wr.ownsRow w3.heap.size 2 1 (.slice (some ⟨g, 0, none⟩) j cc) j (iv (selT DT 0).2)) := hide hrow
          have HSel : Hid (∀ i, i ≤ j → (selT DT i).2.length = j ∧ (∀ x ∈ (selT DT i).2, -1 ≤ x ∧ x ≤ 20) ∧ 0 ≤ (selT DT i).1 ∧ (selT DT i).1 ≤ 120) := hide fun i hi => by
            have a6 := bestN_le j DT
            obtain ⟨a1, a2, _, a4, a5⟩ := selT_inv DT HDr.out j (by rw [HdL2.out]; exact Nat.le_refl _) i hi
            exact ⟨by rw [a1, HdL2.out], a2, a5, by omega⟩
          have HS0 : Hid ((selT DT 0).1 = 0) := hide rfl
          have HB3 := hbf
          clear hrow Hff hbf
          go_wp2
          go_loopw [14, 15] (fun s14 t15 wr => ∃ i : Nat, i ≤ k ∧ t15 = .int .i64 (i : Int) ∧ s14 = .int .i64 (selT DT i).1 ∧ Hid (wr.ownsRow w3.heap.size 2 1 (.slice (some ⟨g, 0, none⟩) j cc) j (iv (selT DT i).2)) ∧ Hid (Below w3.heap.size w3 wr)) (fun _ t15 _ => k - (intOf t15).toNat)
          case atStart => exact ⟨0, Nat.zero_le _, rfl, by rw [HS0.out], HR0, HB3⟩
          case round =>
            clear HR0 HB3 hg2
            obtain ⟨i, hi, rfl, rfl, hrow, hbf⟩ := hrel
            by_cases hik : i < k
            · have hys := HSel.out i (by omega)
              obtain ⟨hys1, hys2, hys3, hys4⟩ := hys
              have Hst : Hid (selT DT (i + 1) = ((selT DT i).1 + (selT DT i).2.getD (amTo (selT DT i).2 j) 0, (selT DT i).2.set (amTo (selT DT i).2 j) (-1))) := hide (by rw [selT, hys1])
              generalize hYS : (selT DT i).2 = ys at *
              generalize (selT DT i).1 = s at *
              clear hYS
              have Hys1 := hide hys1
              have Hys2 := hide hys2
              clear hys1 hys2
              obtain ⟨w5, rfl⟩ : ∃ w5 : World, w5 = wr := ⟨_, rfl⟩
              have HA0 : Hid (amTo ys 0 = 0) := hide rfl
              have HAs : Hid (∀ p, amTo ys (p + 1) = if ys.getD (amTo ys p) 0 < ys.getD p 0 then p else amTo ys p) := hide fun _ => rfl
              have HAl : Hid (∀ p, 0 < p → amTo ys p < p) := hide fun p hp => amTo_lt ys p hp
              go_wp2
              go_loopw [16, 78] (fun b16 i78 wr => ∃ p : Nat, p ≤ j ∧ i78 = .int .i64 (p : Int) ∧ b16 = .int .i64 ((amTo ys p : Nat) : Int) ∧ ∃ q, wr = w5.drewN q) (fun _ i78 _ => j - (intOf i78).toNat)
              case atStart => exact ⟨0, Nat.zero_le _, rfl, by rw [HA0.out]; rfl, 0, rfl⟩
              case round =>
                obtain ⟨p, hp, rfl, rfl, q1, rfl⟩ := hrel
                by_cases hpj : p < j
                · have hbl : amTo ys p < j := by
                    rcases Nat.eq_zero_or_pos p with e | e
                    · subst e; rw [HA0.out]; omega
                    · have := HAl.out p e; omega
                  have hc1 := hrow.out.cellAt p (by omega)
                  have hc2 := hrow.out.cellAt (amTo ys p) (by omega)
                  rw [iv_get (by rw [Hys1.out]; omega)] at hc1 hc2
                  have Hs1 := hide (HAs.out p)
                  generalize ys.getD (amTo ys p) 0 = x at *
                  generalize ys.getD p 0 = z at *
                  generalize amTo ys p = b at *
                  have q2 : (p : Int) < (j : Int) := by omega
                  have q3 : (0 : Int) ≤ (p : Int) := by omega
                  have q4 : (b : Int) < (j : Int) := by omega
                  have q5 : (0 : Int) ≤ (b : Int) := by omega
                  by_cases hxz : x < z
                  · rw [if_pos hxz] at Hs1
                    have d2 : decide (x < z) = true := decide_eq_true hxz
                    go_wp2
                    go_quiet (fail)
                    go_wp2
                    exact ⟨⟨p + 1, by omega, by go_num, by rw [Hs1.out], by repeat (first | exact ⟨_, rfl⟩ | exact drew2 _ _ _)⟩, by simp [intOf]; omega⟩
                  · rw [if_neg hxz] at Hs1
                    have d2 : decide (x < z) = false := decide_eq_false hxz
                    go_wp2
                    go_quiet (fail)
                    go_wp2
                    exact ⟨⟨p + 1, by omega, by go_num, by rw [Hs1.out], by repeat (first | exact ⟨_, rfl⟩ | exact drew2 _ _ _)⟩, by simp [intOf]; omega⟩
                · obtain rfl : p = j := by omega
                  have hbl := HAl.out p (by omega)
                  have Hst2 := Hst
                  have hr6 : Hid ((w5.drewN q1).ownsRow w3.heap.size 2 1 (.slice (some ⟨g, 0, none⟩) p cc) p (iv ys)) := hrow
                  have hb6 : Hid (Below w3.heap.size w3 (w5.drewN q1)) := hide (below_drewN hbf.out q1)
                  clear HAs HA0 HAl Hst hrow hbf
                  generalize w5.drewN q1 = w6 at *
                  generalize amTo ys p = b at *
                  have hc1 := hr6.out.cellAt b (by omega)
                  have hf1 := hr6.out.frozenAt b
                  rw [iv_get (by rw [Hys1.out]; exact hbl)] at hc1
                  have hxr := Hys2.out (ys.getD b 0) (by have : b < ys.length := (by rw [Hys1.out]; exact hbl); simp [List.getD, this])
                  have hst6 := hide ((hr6.out.stored b (.int .i64 (-1))).1)
                  have hbs := hide (hb6.out.setCell (p := ⟨g, b, none⟩) hg1 (.int .i64 (-1)))
                  have HyI : Hid ((iv ys).set b (.int .i64 (-1)) = iv (ys.set b (-1))) := hide (by simp [iv, List.map_set])
                  rw [HyI.out] at hst6
                  generalize ys.getD b 0 = x at *
                  generalize ys.set b (-1) = ys2 at *
                  have q4 : (b : Int) < (p : Int) := by omega
                  have q5 : (0 : Int) ≤ (b : Int) := by omega
                  have e1 : wrap64 (s + x) = s + x := IntWalk.wrap64_in _ (by omega)
                  go_wp2
                  exact ⟨⟨i + 1, by omega, by go_num, by rw [Hst2.out], hide (by rw [Hst2.out]; exact hst6.out), hbs⟩, by simp [intOf]; omega⟩
            · obtain rfl : i = k := by omega
              have Hsum : Hid ((selT DT i).1 = (bestN i DT : Int)) := hide (selT_best DT HDr.out i (by rw [HdL2.out]; exact hkn))
              have Hbl := hide (bestN_le i DT)
              rw [Hsum.out]
              clear hrow Hsum HSel HS0
              have HO5 : Hid (OwnL wr w.heap.size u8 (spW (bestN i) xss U)) := hide (ho.out.same fun g hg => hbf.out.block g (World.ownsRow.lt ho.out g hg).2)
              have HB5 : Hid (Below w.heap.size w wr) := hide (hb.out.trans (hbf.out.mono hb.out.size))
              have HSp : Hid (spW (bestN i) xss (U + 1) = bmp (growC (spW (bestN i) xss U) (bestN i DT)) (bestN i DT) 1) := hide (by rw [spW, HDT.out])
              clear ho hb hbf
              have HLn : Hid ((spW (bestN i) xss U).length ≤ 121) := hide (by
                rcases Nat.eq_zero_or_pos (spW (bestN i) xss U).length with e | e
                · omega
                · obtain ⟨i0, _, e2⟩ := (spW_facts (bestN i) xss U).2.2 e
                  have := bestN_le i (digT xss i0)
                  omega)
              have HNb : Hid (∀ y, 0 ≤ (spW (bestN i) xss U).getD y 0 ∧ (spW (bestN i) xss U).getD y 0 ≤ 100000) := hide fun y => by
                rw [(spW_facts (bestN i) xss U).1 y]
                have : sN (fun i1 => ind (bestN i) y (digT xss i1)) U ≤ U := by
                  have h2 := sN_le (f := fun i1 => ind (bestN i) y (digT xss i1)) (g := fun _ => 1) (n := U) (fun i1 _ => by simp only [ind]; split <;> omega)
                  have h3 : ∀ n, sN (fun _ => 1) n = n := fun n => by induction n with | zero => rfl | succ n ih => simp only [sN, ih]
                  rw [h3] at h2
                  exact h2
                omega
              generalize bestN i DT = s at *
              generalize spW (bestN i) xss U = L0 at *
              have hs120 : s ≤ 120 := by have := Hbl.out; omega
              have HL0 : Hid (L0 ++ List.replicate 0 0 = L0) := hide (by simp)
              go_wp2
              go_loopw [8] (fun c8 wr => ∃ r : Nat, slLen c8 = L0.length + r ∧ r ≤ s + 1 - L0.length ∧ Hid (OwnL wr w.heap.size c8 (L0 ++ List.replicate r 0)) ∧ Hid (Below w.heap.size w wr)) (fun c8 _ => 1000 - slLen c8)
              case atStart => exact ⟨0, by obtain ⟨A1, c1, e, _⟩ := HO5.out.own.form; rw [e]; rfl, Nat.zero_le _, by rw [HL0.out]; exact HO5, HB5⟩
              case round =>
                clear HO5 HB5 HL0
                obtain ⟨r, hsl, hrs, hO, hB⟩ := hrel
                obtain ⟨A1, c1, rfl, -, -, -, -⟩ := hO.out.own.form
                have Hm : Hid ((L0 ++ List.replicate r 0).length = L0.length + r) := hide (by simp)
                have Hgr : Hid ((L0 ++ List.replicate r 0) ++ [0] = L0 ++ List.replicate (r + 1) 0) := hide (by rw [List.append_assoc, List.replicate_succ'])
                have hl121 := HLn.out
                by_cases hms : L0.length + r ≤ s
                · have hms2 : (L0 ++ List.replicate r 0).length ≤ s := by rw [Hm.out]; exact hms
                  generalize hN : (L0 ++ List.replicate r 0).length = N at *
                  have HN := hide hN
                  clear hN
                  have d5 : decide ((N : Int) ≤ (s : Int)) = true := decide_eq_true (by omega)
                  go_wp2_with (at_builtin; refine app1d hO.out (by rw [HN.out]; omega) hB.out.size rfl rfl rfl rfl ?_; intro v2 w6 ho2 hg2 hd2)
                  obtain ⟨A2, c2, rfl, -, -, -, -⟩ := ho2.own.form
                  refine ⟨⟨r + 1, by simp [slLen], by omega, hide (by rw [← Hgr.out]; exact ho2), hide (hB.out.grown hg2 hB.out.size (fun g hg => (World.ownsRow.lt hO.out g hg).1))⟩, ?_⟩
                  simp [slLen]
                  have := Hm.out
                  omega
                · have hrE : r = s + 1 - L0.length := by omega
                  have HGC : Hid (L0 ++ List.replicate r 0 = growC L0 s) := hide (by rw [hrE]; rfl)
                  have hgl := growC_len L0 s
                  have HgN : Hid (0 ≤ (growC L0 s).getD s 0 ∧ (growC L0 s).getD s 0 ≤ 100000) := hide (by rw [growC_get]; exact HNb.out s)
                  rw [HGC.out] at hO hsl Hm ⊢
                  clear HGC Hgr HNb hsl HLn
                  generalize growC L0 s = LL at *
                  have hN := Hm.out
                  have hsLL : s < LL.length := by omega
                  have hLL121 : LL.length ≤ 121 := by omega
                  generalize hLN : LL.length = N at *
                  have HLN := hide hLN
                  obtain ⟨g5, c5, e5, hlo5, hlt5, hc5, hrow5⟩ := owns_form hO.out.own HLN.out (by omega)
                  cases e5
                  have hc1 := hrow5.cellAt s (by omega)
                  have hf1 := hrow5.frozenAt s
                  rw [iv_get (by rw [HLN.out]; exact hsLL)] at hc1
                  have hx0 := HgN.out
                  have hst6 := hide ((hrow5.stored s (.int .i64 (LL.getD s 0 + 1))).1)
                  have hbs := hide (hB.out.setCell (p := ⟨g5, s, none⟩) hlo5 (.int .i64 (LL.getD s 0 + 1)))
                  have HyI : Hid ((iv LL).set s (.int .i64 (LL.getD s 0 + 1)) = iv (bmp LL s 1)) := hide (by simp [iv, List.map_set, bmp])
                  have HyL : Hid ((bmp LL s 1).length = N) := hide (by simp [bmp, HLN.out])
                  rw [HyI.out] at hst6
                  clear hrow5 hO hB HyI HgN Hm hN hgl hLN
                  generalize LL.getD s 0 = x at *
                  generalize bmp LL s 1 = LL2 at *
                  have d5 : decide ((N : Int) ≤ (s : Int)) = false := decide_eq_false (by omega)
                  have q4 : (s : Int) < (N : Int) := by omega
                  have q5 : (0 : Int) ≤ (s : Int) := by omega
                  have e1 : wrap64 (x + 1) = x + 1 := IntWalk.wrap64_in _ (by omega)
                  have e2 : wrap64 ((U : Int) + 1) = (U : Int) + 1 := IntWalk.wrap64_in _ (by omega)
                  go_wp2
                  rw [e2]
                  clear e1 e2 d5 q4 q5 hx0 hc1 hf1
                  refine ⟨⟨U + 1, hlt, rfl, ?_, hbs⟩, Nat.sub_lt_sub_left hlt (Nat.lt_succ_self U)⟩
                  rw [HSp.out]
                  exact hide (by unfold OwnL; rw [HyL.out]; exact hst6.out)
    · obtain rfl : U = T := by omega
      have d2 : decide ((U : Int) < (U : Int)) = false := decide_eq_false (by omega)
      clear HdS HdL Hrs Hdie
      obtain ⟨A8, c8, rfl, -, -, -, -⟩ := ho.out.own.form
      generalize hN : (spW (bestN k) xss U).length = N at *
      clear hN
      go_wp2
      go_ret3
      exact ⟨_, rfl, ho.out.own, hb.out⟩
end Go.Proofs.Ythpboedpoipkcaa
