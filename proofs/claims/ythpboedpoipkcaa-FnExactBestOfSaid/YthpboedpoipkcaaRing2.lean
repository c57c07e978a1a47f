/- Contracts of IsRing on both sides. Conditions: sizes at most 2^20. -/
import Derived.Test.YthpboedpoipkcaaRing
import Derived.Deep.RegionHeld3
namespace Go.Proofs.Ythpboedpoipkcaa
open Go.ChangeShapes Go.WideShapes Go.ChangeAt Go.RowKit
theorem quiet_at {f : FuncId} {args : Array Value} {w : World} {q x : Nat} {v : Value} (h : ∀ Q, Calls Try.prog f args (w.drewN Q) fun e w' => e = .returned v ∧ ∃ m, w' = (w.drewN Q).drewN m) :
    Calls Try.prog f args (w.drewN (q + x)) fun e w'' => e = .returned v ∧ ∃ n, w'' = w.drewN (q + n) :=
  (h (q + x)).mono fun _ _ ⟨he, m, hm⟩ => ⟨he, x + m, by rw [hm, World.drewN_drewN, Nat.add_assoc]⟩

def lostB (xss : List (List Int)) (k : Nat) : Bool := !winB (xss.getD k []) (xss.getD ((k + 1) % xss.length) [])
def ringB (xss : List (List Int)) : Bool := !(List.range xss.length).any (lostB xss)
def RIsRing (xss : List (List Int)) : Bool × Bool := if (diceB xss && decide (3 ≤ xss.length)) = true then (ringB xss, true) else (false, false)
theorem ringB_f {xss : List (List Int)} {k : Nat} (hk : k < xss.length) (h : lostB xss k = true) : ringB xss = false := by
  have : (List.range xss.length).any (lostB xss) = true := by
    rw [List.any_eq_true]
    exact ⟨k, by simpa using hk, h⟩
  simp [ringB, this]
theorem ringB_t {xss : List (List Int)} (h : ∀ k, k < xss.length → lostB xss k = false) : ringB xss = true := by
  have : (List.range xss.length).any (lostB xss) = false := by
    rw [List.any_eq_false]
    intro x hx
    rw [h x (by simpa using hx)]
    simp
  simp [ringB, this]

set_option maxRecDepth 100000 in
set_option maxHeartbeats 3200000 in
theorem iRing (A : Option Addr) (n c : Nat) (xss : List (List Int)) (w : World) (hr : RdR w A n xss) (hn : n ≤ 1048576) (hrow : ∀ k, k < n → (xss.getD k []).length ≤ 1048576) :
    Calls Try.prog 31 #[.slice A n c] w fun e w' => e = .returned (.tuple #[.bool (RIsRing xss).1, .bool (RIsRing xss).2]) ∧ Below w.heap.size w w' := by
  have H := Lib.hid (iDice A n c xss w hr hn hrow)
  have hl := hr.len
  cases hq : diceB xss with
  | false =>
    rw [hq] at H
    have HR : Hid (RIsRing xss = (false, false)) := hide (by rw [RIsRing, hq]; rfl)
    clear hr hrow
    go_enter Try.func31, Try.ntmps31
    go_wp2_with (go_at_call 67; refine H.out.mono ?_; rintro e w2 ⟨rfl, hb2⟩)
    go_ret2
    exact ⟨by rw [HR.out]; rfl, hb2⟩
  | true =>
    rw [hq] at H
    obtain ⟨hd1, hd6, hdie⟩ := diceB_of hq
    by_cases h3 : n < 3
    · have HR : Hid (RIsRing xss = (false, false)) := hide (by rw [RIsRing, hq, decide_eq_false (by omega)]; rfl)
      have d3 : decide ((n : Int) < 3) = true := decide_eq_true (by omega)
      clear hr hrow
      go_enter Try.func31, Try.ntmps31
      go_wp2_with (go_at_call 67; refine H.out.mono ?_; rintro e w2 ⟨rfl, hb2⟩)
      go_ret2
      exact ⟨by rw [HR.out]; rfl, hb2⟩
    · have HR : Hid (RIsRing xss = (ringB xss, true)) := hide (by rw [RIsRing, hq, decide_eq_true (by omega)]; rfl)
      have d3 : decide ((n : Int) < 3) = false := decide_eq_false (by omega)
      have Hbad : Hid (∀ k, k < n → lostB xss k = true → ringB xss = false) := hide fun k hk h => ringB_f (by omega) h
      have Hok : Hid ((∀ k, k < n → lostB xss k = false) → ringB xss = true) := hide fun h => ringB_t (by rw [hl]; exact h)
      have Hlost : Hid (∀ k, lostB xss k = !winB (xss.getD k []) (xss.getD ((k + 1) % n) [])) := hide fun k => by rw [lostB, hl]
      have Hlen : Hid (∀ k, k < n → (xss.getD k []).length ≤ 12) := hide fun k hk => (dieB_len (hdie k (by omega))).2
      have hn6 : n ≤ 6 := by omega
      generalize RIsRing xss = RR at *
      generalize ringB xss = R at *
      clear hrow hdie hd1 hd6 hl hq
      go_enter Try.func31, Try.ntmps31
      go_wp2_with (go_at_call 67; refine H.out.mono ?_; rintro e w2 ⟨rfl, hb2⟩)
      go_loopw [4, 5, 16] (fun _ _ i wr => ∃ k : Nat, k ≤ n ∧ i = .int .i64 k ∧ Hid (∀ j, j < k → lostB xss j = false) ∧ Below w.heap.size w wr) (fun _ _ i _ => n - (intOf i).toNat)
      case atStart => exact ⟨0, Nat.zero_le _, rfl, hide fun j hj => absurd hj (by omega), hb2⟩
      case round =>
        clear hb2
        obtain ⟨k, hk, rfl, hfa, hb⟩ := hrel
        by_cases hlt : k < n
        · have hm1 : (k + 1) % n < n := Nat.mod_lt _ (by omega)
          obtain ⟨ad, B1, d1, rfl, hbl, hc, hrr, hd⟩ := (hr.below hb).at hlt
          obtain ⟨ad', B2, d2, e', hbl2, hc2, hrr2, hd2⟩ := (hr.below hb).at hm1
          cases e'
          have e1 : IntKind.i64.wrap ((k : Int) + 1) = (k : Int) + 1 := IntWalk.i64_in _ (by omega)
          have e2 : Int.tmod ((k : Int) + 1) (n : Int) = (((k + 1) % n : Nat) : Int) := by
            rw [show (k : Int) + 1 = ((k + 1 : Nat) : Int) from by simp]
            exact (Int.ofNat_tmod _ _).symm
          have Hl2 := hide (Hlost.out k)
          have hx1 := Hlen.out k hlt
          have hx2 := Hlen.out _ hm1
          have HB := hide (Hbad.out k hlt)
          generalize hm : (k + 1) % n = m1 at *
          have Hm := hide hm
          clear hm
          have hq1 : (ad.add k).block < wr.heap.size := by rw [add_block]; exact hbl
          have hq2 : (ad.add m1).block < wr.heap.size := by rw [add_block]; exact hbl
          have f1 : (0 : Int) ≤ (k : Int) := by omega
          have f2 : (k : Int) < (n : Int) := by omega
          have f3 : (0 : Int) ≤ (m1 : Int) := by omega
          have f4 : (m1 : Int) < (n : Int) := by omega
          have e3 : IntKind.i64.wrap (m1 : Int) = (m1 : Int) := IntWalk.i64_in _ (by omega)
          have f5 : ¬ (n : Int) = 0 := by omega
          have f6 : ¬ n = 0 := by omega
          have Hg : Hid (lostB xss k = false → ∀ j, j < k + 1 → lostB xss j = false) := hide fun h j hj => by
            by_cases e : j = k
            · subst e; exact h
            · exact hfa.out j (by omega)
          have HRV1 := hide (RV.mk hrr hd)
          have HRV2 := hide (RV.mk hrr2 hd2)
          have HM := Lib.hid (fun v u W h1 h2 => iWins v u _ _ W h1 h2 hx1 hx2)
          clear hrr hrr2
          have Hlen1 := hide hd
          have Hlen2 := hide hd2
          generalize (xss.getD k []).length = len1 at *
          generalize (xss.getD m1 []).length = len2 at *
          have cD := dcell wr (.slice B1 len1 d1) 27
          have cE : (wr.alloc (.cells #[.slice B1 len1 d1] 27)).cell? (ad.add m1) = some (.slice B2 len2 d2) := ((Below.refl wr.heap.size wr).alloc (Nat.le_refl _) _ |>.cell hq2).trans hc2
          have hbA : Below wr.heap.size wr (wr.alloc (.cells #[.slice B1 len1 d1] 27)) := (Below.refl _ _).alloc (Nat.le_refl _) _
          have HRA1 := hide (HRV1.out.below hbA |>.drewN 1)
          have HRA2 := hide (HRV2.out.below hbA |>.drewN 1)
          have HBA := hide (below_drewN (hb.trans (hbA.mono hb.size)) 1)
          have z1 : wr.heap.size < (wr.alloc (.cells #[.slice B1 len1 d1] 27)).heap.size := by simp
          have hq2' : (ad.add m1).block < (wr.alloc (.cells #[.slice B1 len1 d1] 27)).heap.size := by omega
          clear hbA
          cases hw : winB (xss.getD k []) (xss.getD m1 []) with
          | false =>
            rw [hw] at HM
            have HR2 := hide (HB.out (by rw [Hl2.out, hw]; rfl))
            go_wp2_with fail
            go_region_held3 (fun w' => w'.cell? ⟨wr.heap.size, 0, none⟩ = some (.slice B1 len1 d1) ∧ w'.cell? (ad.add m1) = some (.slice B2 len2 d2))
              (first | exact ⟨cD, cE⟩ | go_keep | (go_split_ands; refine ⟨?_, ?_⟩ <;> (rw [hbk.cell (by first | exact z1 | exact hq2')]; assumption)))
              ((go_at_call 68; refine (HM.out _ _ _ HRA1.out HRA2.out).mono ?_; rintro e wb ⟨rfl, hbk⟩))
            all_goals go_wp2
            all_goals go_ret2
            all_goals exact ⟨by rw [HR.out, HR2.out]; rfl, HBA.out.trans (hbk.mono HBA.out.size)⟩
          | true =>
            rw [hw] at HM
            have Hg2 := hide (Hg.out (by rw [Hl2.out, hw]; rfl))
            go_wp2_with fail
            go_region_held3 (fun w' => w'.cell? ⟨wr.heap.size, 0, none⟩ = some (.slice B1 len1 d1) ∧ w'.cell? (ad.add m1) = some (.slice B2 len2 d2))
              (first | exact ⟨cD, cE⟩ | go_keep | (go_split_ands; refine ⟨?_, ?_⟩ <;> (rw [hbk.cell (by first | exact z1 | exact hq2')]; assumption)))
              ((go_at_call 68; refine (HM.out _ _ _ HRA1.out HRA2.out).mono ?_; rintro e wb ⟨rfl, hbk⟩))
            all_goals go_wp2
            all_goals go_roundw
            case rel => exact ⟨k + 1, by omega, by go_num, Hg2, HBA.out.trans (hbk.mono HBA.out.size)⟩
            case measure => simp [intOf]; omega
        · have hkn : k = n := by omega
          subst hkn
          have HR2 := hide (Hok.out hfa.out)
          go_wp2
          go_ret2
          exact ⟨by rw [HR.out, HR2.out]; rfl, hb⟩

set_option maxRecDepth 100000 in
set_option maxHeartbeats 3200000 in
theorem sRing (A : Option Addr) (n c : Nat) (xss : List (List Int)) (w : World) (hr : RdR w A n xss) (hn : n ≤ 1048576) (hrow : ∀ k, k < n → (xss.getD k []).length ≤ 1048576) :
    Calls Try.prog 29 #[.slice A n c] w fun e w' => e = .returned (.tuple #[.bool (RIsRing xss).1, .bool (RIsRing xss).2]) ∧ Below w.heap.size w w' := by
  have H := Lib.hid (sDice A n c xss w hr hn hrow)
  have hl := hr.len
  cases hq : diceB xss with
  | false =>
    rw [hq] at H
    have HR : Hid (RIsRing xss = (false, false)) := hide (by rw [RIsRing, hq]; rfl)
    clear hr hrow
    go_enter Try.func29, Try.ntmps29
    go_wp2_with (go_at_call 65; refine H.out.mono ?_; rintro e w2 ⟨rfl, q, rfl⟩; have hb2 := below_drewN (Below.refl w.heap.size w) q)
    go_ret2
    exact ⟨by rw [HR.out]; rfl, hb2⟩
  | true =>
    rw [hq] at H
    obtain ⟨hd1, hd6, hdie⟩ := diceB_of hq
    by_cases h3 : n < 3
    · have HR : Hid (RIsRing xss = (false, false)) := hide (by rw [RIsRing, hq, decide_eq_false (by omega)]; rfl)
      have d3 : decide ((n : Int) < 3) = true := decide_eq_true (by omega)
      clear hr hrow
      go_enter Try.func29, Try.ntmps29
      go_wp2_with (go_at_call 65; refine H.out.mono ?_; rintro e w2 ⟨rfl, q, rfl⟩; have hb2 := below_drewN (Below.refl w.heap.size w) q)
      go_ret2
      exact ⟨by rw [HR.out]; rfl, hb2⟩
    · have HR : Hid (RIsRing xss = (ringB xss, true)) := hide (by rw [RIsRing, hq, decide_eq_true (by omega)]; rfl)
      have d3 : decide ((n : Int) < 3) = false := decide_eq_false (by omega)
      have Hbad : Hid (∀ k, k < n → lostB xss k = true → ringB xss = false) := hide fun k hk h => ringB_f (by omega) h
      have Hok : Hid ((∀ k, k < n → lostB xss k = false) → ringB xss = true) := hide fun h => ringB_t (by rw [hl]; exact h)
      have Hlost : Hid (∀ k, lostB xss k = !winB (xss.getD k []) (xss.getD ((k + 1) % n) [])) := hide fun k => by rw [lostB, hl]
      have Hlen : Hid (∀ k, k < n → (xss.getD k []).length ≤ 12) := hide fun k hk => (dieB_len (hdie k (by omega))).2
      have hn6 : n ≤ 6 := by omega
      generalize RIsRing xss = RR at *
      generalize ringB xss = R at *
      clear hrow hdie hd1 hd6 hl hq
      go_enter Try.func29, Try.ntmps29
      go_wp2_with (go_at_call 65; refine H.out.mono ?_; rintro e w2 ⟨rfl, q, rfl⟩; have hb2 := below_drewN (Below.refl w.heap.size w) q)
      go_loopw [4, 15] (fun _ i wr => ∃ k : Nat, k ≤ n ∧ i = .int .i64 k ∧ Hid (∀ j, j < k → lostB xss j = false) ∧ Hid (∃ Q, wr = w.drewN Q)) (fun _ i _ => n - (intOf i).toNat)
      case atStart => exact ⟨0, Nat.zero_le _, rfl, hide fun j hj => absurd hj (by omega), hide ⟨q, rfl⟩⟩
      case round =>
        clear hb2
        obtain ⟨k, hk, rfl, hfa, hQ⟩ := hrel
        obtain ⟨Q, rfl⟩ := hQ.out
        by_cases hlt : k < n
        · have hm1 : (k + 1) % n < n := Nat.mod_lt _ (by omega)
          obtain ⟨ad, B1, d1, rfl, hbl, hc, hrr, hd⟩ := hr.at hlt
          obtain ⟨ad', B2, d2, e', hbl2, hc2, hrr2, hd2⟩ := hr.at hm1
          cases e'
          have e1 : IntKind.i64.wrap ((k : Int) + 1) = (k : Int) + 1 := IntWalk.i64_in _ (by omega)
          have e2 : Int.tmod ((k : Int) + 1) (n : Int) = (((k + 1) % n : Nat) : Int) := by
            rw [show (k : Int) + 1 = ((k + 1 : Nat) : Int) from by simp]
            exact (Int.ofNat_tmod _ _).symm
          have Hl2 := hide (Hlost.out k)
          have hx1 := Hlen.out k hlt
          have hx2 := Hlen.out _ hm1
          have HB := hide (Hbad.out k hlt)
          generalize hm : (k + 1) % n = m1 at *
          have Hm := hide hm
          clear hm
          have hq1 : (ad.add k).block < w.heap.size := by rw [add_block]; exact hbl
          have hq2 : (ad.add m1).block < w.heap.size := by rw [add_block]; exact hbl
          have f1 : (0 : Int) ≤ (k : Int) := by omega
          have f2 : (k : Int) < (n : Int) := by omega
          have f3 : (0 : Int) ≤ (m1 : Int) := by omega
          have f4 : (m1 : Int) < (n : Int) := by omega
          have e3 : IntKind.i64.wrap (m1 : Int) = (m1 : Int) := IntWalk.i64_in _ (by omega)
          have f5 : ¬ (n : Int) = 0 := by omega
          have f6 : ¬ n = 0 := by omega
          have Hg : Hid (lostB xss k = false → ∀ j, j < k + 1 → lostB xss j = false) := hide fun h j hj => by
            by_cases e : j = k
            · subst e; exact h
            · exact hfa.out j (by omega)
          have HM := Lib.hid (fun q => sMore B1 B2 _ _ d1 d2 _ _ (w.drewN q) (hrr.drewN q) (hrr2.drewN q) hx1 hx2)
          clear hrr hrr2
          generalize (xss.getD k []).length = len1 at *
          generalize (xss.getD m1 []).length = len2 at *
          cases hw : winB (xss.getD k []) (xss.getD m1 []) with
          | false =>
            rw [hw] at HM
            have HR2 := hide (HB.out (by rw [Hl2.out, hw]; rfl))
            go_wp2
            go_quiet ((go_at_call 66; exact quiet_at HM.out))
            go_wp2
            go_ret2
            exact ⟨by rw [HR.out, HR2.out]; rfl, below_drewN (below_drewN (Below.refl _ _) _) _⟩
          | true =>
            rw [hw] at HM
            have Hg2 := hide (Hg.out (by rw [Hl2.out, hw]; rfl))
            go_wp2
            go_quiet ((go_at_call 66; exact quiet_at HM.out))
            go_wp2
            go_roundw
            case rel => exact ⟨k + 1, by omega, by go_num, Hg2, hide (by repeat (first | exact ⟨_, rfl⟩ | exact drew2 _ _ _))⟩
            case measure => simp [intOf]; omega
        · have hkn : k = n := by omega
          subst hkn
          have HR2 := hide (Hok.out hfa.out)
          go_wp2
          go_ret2
          exact ⟨by rw [HR.out, HR2.out]; rfl, below_drewN (Below.refl _ _) _⟩

theorem sIsRing (v : Value) (xss : List (List Int)) (w : World) (hv : RVR w v xss) (ht : tot xss ≤ 1048576) :
    Calls Try.prog 29 #[v] w fun e w' => e = .returned (.tuple #[.bool (RIsRing xss).1, .bool (RIsRing xss).2]) ∧ Below w.heap.size w w' := by
  obtain ⟨A, c, rfl, hr, _⟩ := hv
  exact sRing A _ c xss w hr (Nat.le_trans (tot_len xss) ht) (fun k hk => Nat.le_trans (tot_row hk) ht)
theorem iIsRing (v : Value) (xss : List (List Int)) (w : World) (hv : RVR w v xss) (ht : tot xss ≤ 1048576) :
    Calls Try.prog 31 #[v] w fun e w' => e = .returned (.tuple #[.bool (RIsRing xss).1, .bool (RIsRing xss).2]) ∧ Below w.heap.size w w' := by
  obtain ⟨A, c, rfl, hr, _⟩ := hv
  exact iRing A _ c xss w hr (Nat.le_trans (tot_len xss) ht) (fun k hk => Nat.le_trans (tot_row hk) ht)
end Go.Proofs.Ythpboedpoipkcaa
