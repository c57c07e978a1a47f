/- Contracts of HeapMove, both sides. Conditions: lengths at most 2^20. Printed by gen_heap.py. -/
import Derived.Test.YtajpieblbijciaaTake
import Derived.Test.YtajpieblbijciaaIdx
namespace Go.Proofs.Ytajpieblbijciaa
open Go.ChangeShapes Go.WideShapes Go.ChangeAt Go.RowKit

def hmOk (hs ms : List Int) : Bool := movesB ms && (decide (1 ≤ hs.length ∧ hs.length ≤ 8) && !hs.any (fun h => !inB h 0 200))
/-- the exclusive or of the values of the first k heaps -/
def hxTo (vals hs : List Int) : Nat → Int
  | 0 => 0
  | k + 1 => bits .xor .i64 (hxTo vals hs k) (vals.getD (hs.getD k 0).toNat 0)
def hmHit (vals : List Int) (all h m : Int) : Bool := decide (m ≤ h) && decide (bits .xor .i64 (bits .xor .i64 all (vals.getD h.toNat 0)) (vals.getD (h.toNat - m.toNat) 0) = 0)
def hmFind (vals : List Int) (all : Int) (hs ms : List Int) : Int × Int × Bool :=
  let t := (List.range (hs.length * ms.length)).findIdx fun t : Nat => hmHit vals all (hs.getD (t / ms.length) 0) (ms.getD (t % ms.length) 0)
  if t < hs.length * ms.length then (((t / ms.length : Nat) : Int), ms.getD (t % ms.length) 0, true) else (0, 0, false)
theorem hm_lt {i k N M : Nat} (hi : i < N) (hk : k < M) : i * M + k < N * M := by
  have h : (i + 1) * M ≤ N * M := Nat.mul_le_mul_right M (by omega)
  rw [Nat.add_mul] at h
  omega
theorem hm_div {i k M : Nat} (hk : k < M) : (i * M + k) / M = i ∧ (i * M + k) % M = k := by
  constructor
  · rw [Nat.mul_comm, Nat.mul_add_div (by omega), Nat.div_eq_of_lt hk]; omega
  · rw [Nat.mul_comm, Nat.mul_add_mod, Nat.mod_eq_of_lt hk]
theorem hmFind_yes {vals hs ms : List Int} {all : Int} {i k : Nat} (hi : i < hs.length) (hk : k < ms.length) (h1 : ∀ a, a < i → ∀ b, b < ms.length → hmHit vals all (hs.getD a 0) (ms.getD b 0) = false)
    (h2 : ∀ b, b < k → hmHit vals all (hs.getD i 0) (ms.getD b 0) = false) (h : hmHit vals all (hs.getD i 0) (ms.getD k 0) = true) : hmFind vals all hs ms = ((i : Int), ms.getD k 0, true) := by
  have hlt := hm_lt hi hk
  obtain ⟨hd, hm⟩ := hm_div (i := i) hk
  have e : (List.range (hs.length * ms.length)).findIdx (fun t : Nat => hmHit vals all (hs.getD (t / ms.length) 0) (ms.getD (t % ms.length) 0)) = i * ms.length + k := by
    rw [List.findIdx_eq (by simpa using hlt)]
    refine ⟨by simp [hd, hm] at h ⊢; exact h, fun j hj => ?_⟩
    simp only [List.getElem_range]
    have hM : 0 < ms.length := by omega
    have hjm := Nat.mod_lt j hM
    have hjd := Nat.div_add_mod j ms.length
    by_cases hc : j / ms.length < i
    · exact h1 _ hc _ hjm
    · have hle : j / ms.length ≤ i := by
        have : j / ms.length < i + 1 := by
          rw [Nat.div_lt_iff_lt_mul hM, Nat.add_mul]
          omega
        omega
      have he : j / ms.length = i := by omega
      rw [he]
      rw [he, Nat.mul_comm] at hjd
      exact h2 _ (by omega)
  unfold hmFind
  rw [e]
  simp only [hlt, if_true, hd, hm]
theorem hmFind_no {vals hs ms : List Int} {all : Int} (h1 : ∀ a, a < hs.length → ∀ b, b < ms.length → hmHit vals all (hs.getD a 0) (ms.getD b 0) = false) : hmFind vals all hs ms = (0, 0, false) := by
  have e : (List.range (hs.length * ms.length)).findIdx (fun t : Nat => hmHit vals all (hs.getD (t / ms.length) 0) (ms.getD (t % ms.length) 0)) = hs.length * ms.length := by
    have := List.findIdx_eq_length_of_false (xs := List.range (hs.length * ms.length)) (p := fun t : Nat => hmHit vals all (hs.getD (t / ms.length) 0) (ms.getD (t % ms.length) 0)) (fun t ht => by
      have ht : t < hs.length * ms.length := by simpa using ht
      have hM : 0 < ms.length := by
        rcases Nat.eq_zero_or_pos ms.length with h0 | h0
        · rw [h0] at ht; omega
        · exact h0
      simpa using h1 _ ((Nat.div_lt_iff_lt_mul hM).2 ht) _ (Nat.mod_lt t hM))
    simpa using this
  unfold hmFind
  rw [e]
  simp
def RHeapMove (hs ms : List Int) : Int × Int × Bool := if hmOk hs ms = true then hmFind (tvTo ms 201) (hxTo (tvTo ms 201) hs hs.length) hs ms else (0, 0, false)
theorem any_at {p : Int → Bool} {xs : List Int} {k : Nat} (hk : k < xs.length) (h : p (xs.getD k 0) = true) : xs.any p = true :=
  List.any_eq_true.2 ⟨xs.getD k 0, by simp [List.getD, hk], h⟩

set_option maxHeartbeats 3200000 in
theorem sHeapMove (v : Value) (hs : List Int) (u : Value) (ms : List Int) (w : World) (hv : RV w v hs) (hu : RV w u ms) (hn : hs.length ≤ 1048576) (hm : ms.length ≤ 1048576) :
    Calls Try.prog 27 #[v, u] w fun e w' => e = .returned (.tuple #[.int .i64 (RHeapMove hs ms).1, .int .i64 (RHeapMove hs ms).2.1, .bool (RHeapMove hs ms).2.2]) ∧ Below w.heap.size w w' := by
  have HA := Lib.hid (sMovesV u ms w hu hm)
  cases hA : movesB ms with
  | false =>
    rw [show RHeapMove hs ms = (0, 0, false) from by rw [RHeapMove, if_neg (by simp [hmOk, hA])]]
    rw [hA] at HA
    obtain ⟨A, c, rfl, hr, hcc⟩ := hv
    go_enter Try.func27, Try.ntmps27
    go_wp2_with (go_at_call 41; refine HA.out.mono ?_; rintro e w' ⟨rfl, q, rfl⟩)
    go_ret3
    exact ⟨rfl, below_drewN (Below.refl _ _) _⟩
  | true =>
    rw [hA] at HA
    by_cases hN : 1 ≤ hs.length ∧ hs.length ≤ 8
    · obtain ⟨hN1, hN8⟩ := hN
      obtain ⟨hm1, hm8, hmb⟩ := movesB_of hA
      have Hyes : Hid (hs.any (fun h => !inB h 0 200) = true → RHeapMove hs ms = (0, 0, false)) := hide fun h => by rw [RHeapMove, if_neg (by simp [hmOk, h])]
      have Hno : Hid (hs.any (fun h => !inB h 0 200) = false → RHeapMove hs ms = hmFind (tvTo ms 201) (hxTo (tvTo ms 201) hs hs.length) hs ms) := hide fun h => by rw [RHeapMove, if_pos (by simp [hmOk, hA, h, hN1, hN8])]
      have HV := Lib.hid (fun q => sValues u ms 200 (w.drewN q) (hu.below (below_drewN (Below.refl _ _) _)) hA (by omega))
      have hvl : (tvTo ms 201).length = 201 := tvTo_len _ _
      generalize tvTo ms (200 + 1) = vals at *
      generalize hR : RHeapMove hs ms = R at *
      obtain ⟨R1, R2, R3⟩ := R
      obtain ⟨A, c, rfl, hr, hcc⟩ := hv
      obtain ⟨B, d, rfl, hr2, hcd⟩ := hu
      have Hmb := hide hmb
      have Hvl := hide hvl
      clear hmb hA hR hvl
      generalize hL1 : hs.length = N at *
      generalize hL2 : ms.length = M at *
      have HL1 := hide hL1
      have HL2 := hide hL2
      clear hL1 hL2
      go_enter Try.func27, Try.ntmps27
      go_wp2_with (first | (go_at_call 41; refine HA.out.mono ?_; rintro e w' ⟨rfl, q, rfl⟩) | (go_at_call 42; refine (HV.out q).mono ?_; rintro e w2 ⟨r, rfl, hoR, hbR⟩))
      have hfm := hoR.form
      rw [Hvl.out] at hfm
      obtain ⟨E, f, rfl, hf1, hf2, hrE, -⟩ := hfm
      have hb02 : Below w.heap.size w w2 := (below_drewN (Below.refl _ _) q).trans hbR
      have hrH := hr.below hb02
      have hrM := hr2.below hb02
      have Hb02 := hide hb02
      clear hb02 hbR hoR hr hr2 HV HA
      go_wp2
      go_loop [7, 9] (fun x i => ∃ k : Nat, k ≤ N ∧ i = .int .i64 k ∧ x = .int .i64 (hxTo vals hs k) ∧ Hid (∀ j, j < k → (fun h => !inB h 0 200) (hs.getD j 0) = false)) (fun _ i => N - (intOf i).toNat)
      case atStart => exact ⟨0, Nat.zero_le _, rfl, rfl, hide fun j hj => absurd hj (by omega)⟩
      case round =>
        obtain ⟨k, hk, rfl, rfl, hfa⟩ := hrel
        by_cases hlt : k < N
        · obtain ⟨ad, rfl, hbl, hc⟩ := hrH.int hlt
          have Hs : Hid (hxTo vals hs (k + 1) = bits .xor .i64 (hxTo vals hs k) (vals.getD (hs.getD k 0).toNat 0)) := hide rfl
          generalize hxTo vals hs k = X at *
          generalize hy : hs.getD k 0 = y at *
          have HY := hide hy
          clear hy
          cases hq : inB y 0 200 with
          | false =>
            have HR := hide (Hyes.out (any_at (k := k) (by rw [HL1.out]; exact hlt) (by rw [HY.out, hq]; rfl)))
            go_wp2_with (go_at_call 32; refine (sIn _ _ _ _).mono ?_; rintro e w' ⟨rfl, rfl⟩)
            go_ret3
            have h := HR.out
            simp only [Prod.mk.injEq] at h
            obtain ⟨h1, h2, h3⟩ := h
            subst h1 h2 h3
            exact ⟨rfl, Hb02.out⟩
          | true =>
            obtain ⟨hy1, hy2⟩ := inB_iff.1 hq
            have Hq := hide hq
            obtain ⟨y, rfl⟩ := Int.eq_ofNat_of_zero_le hy1
            rw [Int.toNat_natCast] at Hs
            have hy3 : y < 201 := by omega
            obtain ⟨ed, rfl, hbe, hce⟩ := hrE.int hy3
            generalize vals.getD y 0 = z at *
            go_wp2_with (go_at_call 32; refine (sIn _ _ _ _).mono ?_; rintro e w' ⟨rfl, rfl⟩)
            go_round
            case measure => simp [intOf]; omega
            case rel =>
              refine ⟨k + 1, by omega, by go_num, by rw [Hs.out], hide fun j hj => ?_⟩
              by_cases e : j = k
              · subst e
                simp only [HY.out, Hq.out]
                rfl
              · exact hfa.out j (by omega)
        · have hkn : k = N := by omega
          subst hkn
          have Hin : Hid (∀ j, j < k → 0 ≤ hs.getD j 0 ∧ hs.getD j 0 ≤ 200) := hide fun j hj => by
            have := hfa.out j hj
            simp only [Bool.not_eq_false'] at this
            exact inB_iff.1 this
          have HR : Hid ((R1, R2, R3) = hmFind vals (hxTo vals hs k) hs ms) := hide (Hno.out (any_none _ _ (by rw [HL1.out]; exact hfa.out)))
          clear hfa
          generalize hxTo vals hs k = X at *
          go_wp2
          go_loopw [10] (fun i wr => ∃ a : Nat, a ≤ k ∧ i = .int .i64 a ∧ Hid (∀ a', a' < a → ∀ b, b < M → hmHit vals X (hs.getD a' 0) (ms.getD b 0) = false) ∧ Hid (∃ q, wr = w2.drewN q)) (fun i _ => k - (intOf i).toNat)
          case atStart => exact ⟨0, Nat.zero_le _, rfl, hide fun a' ha' => absurd ha' (by omega), hide ⟨0, rfl⟩⟩
          case round =>
            obtain ⟨a, ha, rfl, hfa, hq1⟩ := hrel
            obtain ⟨q1, rfl⟩ := hq1.out
            by_cases hak : a < k
            · have dak : decide (a < k) = true := decide_eq_true hak
              obtain ⟨ad, rfl, hbl, hc⟩ := hrH.int hak
              obtain ⟨hh0, hh2⟩ := Hin.out a hak
              generalize hh : hs.getD a 0 = h at *
              have HH := hide hh
              clear hh
              obtain ⟨h, rfl⟩ := Int.eq_ofNat_of_zero_le hh0
              have hh3 : h < 201 := by omega
              obtain ⟨ed, rfl, hbe, hce⟩ := hrE.int hh3
              go_wp2
              go_loopw [11] (fun i wx => ∃ b : Nat, b ≤ M ∧ i = .int .i64 b ∧ Hid (∀ b', b' < b → hmHit vals X h (ms.getD b' 0) = false) ∧ Hid (∃ q, wx = w2.drewN q)) (fun i _ => M - (intOf i).toNat)
              case atStart => exact ⟨0, Nat.zero_le _, rfl, hide fun b' hb' => absurd hb' (by omega), hide ⟨_, rfl⟩⟩
              case round =>
                obtain ⟨b, hb, rfl, hfb, hq2⟩ := hrel
                obtain ⟨q2, rfl⟩ := hq2.out
                by_cases hbM : b < M
                · obtain ⟨md, rfl, hbm, hcm⟩ := hrM.int hbM
                  obtain ⟨hm1', hm2'⟩ := Hmb.out b hbM
                  generalize hmm : ms.getD b 0 = m at *
                  have HM := hide hmm
                  clear hmm
                  obtain ⟨m, rfl⟩ := Int.eq_ofNat_of_zero_le (show 0 ≤ m by omega)
                  by_cases hmh : m ≤ h
                  · have dmh : decide (m ≤ h) = true := decide_eq_true hmh
                    have hhm : h - m < 201 := by omega
                    obtain ⟨ed', e', hbe', hce'⟩ := hrE.int hhm
                    cases e'
                    have Hhit : Hid (hmHit vals X (h : Int) (m : Int) = decide (bits .xor .i64 (bits .xor .i64 X (vals.getD h 0)) (vals.getD (h - m) 0) = 0)) := hide (by
                      unfold hmHit
                      rw [Int.toNat_natCast, Int.toNat_natCast, decide_eq_true (show (m : Int) ≤ (h : Int) by omega), Bool.true_and])
                    generalize vals.getD h 0 = z1 at *
                    generalize vals.getD (h - m) 0 = z2 at *
                    have e1 : IntKind.i64.wrap ((h : Int) - (m : Int)) = (h : Int) - (m : Int) := IntWalk.i64_in _ (by omega)
                    have e2 : 0 ≤ (h : Int) - (m : Int) := by omega
                    have e3 : ((h : Int) - (m : Int)).toNat = h - m := by omega
                    have e4 : (h : Int) - (m : Int) < 201 := by omega
                    cases hq : (bits .xor .i64 (bits .xor .i64 X z1) z2 == (0 : Int)) with
                    | true =>
                      have Hh : Hid (hmHit vals X (h : Int) (m : Int) = true) := hide (by rw [Hhit.out]; simpa using hq)
                      go_wp2
                      go_quiet (fail)
                      go_wp2
                      go_quiet (fail)
                      go_wp2
                      go_ret3
                      have h := HR.out.trans (hmFind_yes (i := a) (k := b) (by rw [HL1.out]; exact hak) (by rw [HL2.out]; exact hbM) (by rw [HL2.out]; exact hfa.out) (by rw [HH.out]; exact hfb.out) (by rw [HH.out, HM.out]; exact Hh.out))
                      rw [HM.out] at h
                      simp only [Prod.mk.injEq] at h
                      obtain ⟨h1, h2, h3⟩ := h
                      subst h1 h2 h3
                      exact ⟨rfl, by repeat (first | exact Hb02.out | refine below_drewN ?_ _)⟩
                    | false =>
                      have Hh : Hid (hmHit vals X (h : Int) (m : Int) = false) := hide (by rw [Hhit.out]; simpa using hq)
                      go_wp2
                      go_quiet (fail)
                      go_wp2
                      go_roundw
                      case measure => simp [intOf]; omega
                      case rel =>
                        refine ⟨b + 1, by omega, by go_num, hide fun b' hb' => ?_, hide ⟨_, rfl⟩⟩
                        by_cases e : b' = b
                        · subst e
                          rw [HM.out]; exact Hh.out
                        · exact hfb.out b' (by omega)
                  · have dmh : decide (m ≤ h) = false := decide_eq_false hmh
                    have Hh : Hid (hmHit vals X (h : Int) (m : Int) = false) := hide (by
                      unfold hmHit
                      rw [decide_eq_false (show ¬ (m : Int) ≤ (h : Int) by omega), Bool.false_and])
                    go_wp2
                    go_quiet (fail)
                    go_wp2
                    go_roundw
                    case measure => simp [intOf]; omega
                    case rel =>
                      refine ⟨b + 1, by omega, by go_num, hide fun b' hb' => ?_, hide ⟨_, rfl⟩⟩
                      by_cases e : b' = b
                      · subst e
                        rw [HM.out]; exact Hh.out
                      · exact hfb.out b' (by omega)
                · have hbe : b = M := by omega
                  subst hbe
                  go_wp2
                  go_roundw
                  case measure => simp [intOf]; omega
                  case rel =>
                    refine ⟨a + 1, by omega, by go_num, hide fun a' ha' => ?_, hide ⟨_, rfl⟩⟩
                    by_cases e : a' = a
                    · subst e
                      rw [HH.out]; exact hfb.out
                    · exact hfa.out a' (by omega)
            · have hae : a = k := by omega
              subst hae
              go_wp2
              go_ret3
              have h := HR.out.trans (hmFind_no (by rw [HL1.out, HL2.out]; exact hfa.out))
              simp only [Prod.mk.injEq] at h
              obtain ⟨h1, h2, h3⟩ := h
              subst h1 h2 h3
              exact ⟨rfl, by repeat (first | exact Hb02.out | refine below_drewN ?_ _)⟩
    · rw [show RHeapMove hs ms = (0, 0, false) from by rw [RHeapMove, if_neg (by simp [hmOk, hN])]]
      obtain ⟨A, c, rfl, hr, hcc⟩ := hv
      generalize hs.length = N at *
      by_cases hN1 : N < 1
      · go_enter Try.func27, Try.ntmps27
        go_wp2_with (go_at_call 41; refine HA.out.mono ?_; rintro e w' ⟨rfl, q, rfl⟩)
        go_ret3
        exact ⟨rfl, below_drewN (Below.refl _ _) _⟩
      · have hN8 : 8 < N := by omega
        clear hN
        go_enter Try.func27, Try.ntmps27
        go_wp2_with (go_at_call 41; refine HA.out.mono ?_; rintro e w' ⟨rfl, q, rfl⟩)
        go_ret3
        exact ⟨rfl, below_drewN (Below.refl _ _) _⟩

theorem heap_clo (x : Int) (w : World) :
    Calls Try.prog 46 #[.int .i64 x] w fun e w' => e = .returned (.bool (!inB x 0 200)) ∧ w = w' := by
  go_enter Try.func46, Try.ntmps46
  go_wp2_with (go_at_call 34; refine (iIn _ _ _ _).mono ?_; rintro e w' ⟨rfl, rfl⟩)
  go_ret
  exact ⟨rfl, rfl⟩

set_option maxHeartbeats 3200000 in
theorem iHeapMove (v : Value) (hs : List Int) (u : Value) (ms : List Int) (w : World) (hv : RV w v hs) (hu : RV w u ms) (hn : hs.length ≤ 1048576) (hm : ms.length ≤ 1048576) :
    Calls Try.prog 28 #[v, u] w fun e w' => e = .returned (.tuple #[.int .i64 (RHeapMove hs ms).1, .int .i64 (RHeapMove hs ms).2.1, .bool (RHeapMove hs ms).2.2]) ∧ Below w.heap.size w w' := by
  have HA := Lib.hid (iMovesV u ms w hu hm)
  cases hA : movesB ms with
  | false =>
    rw [show RHeapMove hs ms = (0, 0, false) from by rw [RHeapMove, if_neg (by simp [hmOk, hA])]]
    rw [hA] at HA
    obtain ⟨A, c, rfl, hr, hcc⟩ := hv
    go_enter Try.func28, Try.ntmps28
    go_wp2_with (go_at_call 43; refine HA.out.mono ?_; rintro e w' ⟨rfl, q, rfl⟩)
    go_ret3
    exact ⟨rfl, below_drewN (Below.refl _ _) _⟩
  | true =>
    rw [hA] at HA
    by_cases hN : 1 ≤ hs.length ∧ hs.length ≤ 8
    · obtain ⟨hN1, hN8⟩ := hN
      obtain ⟨A, c, rfl, hr, hcc⟩ := hv
      obtain ⟨hm1, hm8, hmb⟩ := movesB_of hA
      have Hyes : Hid (hs.any (fun h => !inB h 0 200) = true → RHeapMove hs ms = (0, 0, false)) := hide fun h => by rw [RHeapMove, if_neg (by simp [hmOk, h])]
      have Hno : Hid (hs.any (fun h => !inB h 0 200) = false → RHeapMove hs ms = hmFind (tvTo ms 201) (hxTo (tvTo ms 201) hs hs.length) hs ms) := hide fun h => by rw [RHeapMove, if_pos (by simp [hmOk, hA, h, hN1, hN8])]
      have hHF := fun q => hasF 46 #[] (fun h => !inB h 0 200) A hs.length c hs (w.drewN q) (fun _ _ => rfl) (hr.drewN q) (by omega) (fun x _ => heap_clo x _)
      have HV := Lib.hid (fun q => iValues u ms 200 (w.drewN q) (hu.below (below_drewN (Below.refl _ _) _)) hA (by omega))
      cases hany : hs.any (fun h => !inB h 0 200) with
      | true =>
        rw [Hyes.out hany]
        simp only [hany] at hHF
        have HHF := Lib.hid hHF
        clear hHF Hyes Hno HV hany
        generalize hs.length = N at *
        go_enter Try.func28, Try.ntmps28
        go_wp2_with (first | (go_at_call 43; refine HA.out.mono ?_; rintro e w' ⟨rfl, q, rfl⟩) | (go_at_call 45; refine (HHF.out q).mono ?_; rintro e w' ⟨rfl, rfl⟩))
        go_ret3
        exact ⟨rfl, below_drewN (Below.refl _ _) _⟩
      | false =>
      simp only [hany] at hHF
      have HHF := Lib.hid hHF
      have HR0 := hide (Hno.out hany)
      have HIN : Hid (∀ k, k < hs.length → 0 ≤ hs.getD k 0 ∧ hs.getD k 0 ≤ 200) := hide fun k hk => by
        have h := List.any_eq_false.1 hany (hs.getD k 0) (by simp [List.getD, hk])
        cases hq : inB (hs.getD k 0) 0 200 with
        | true => exact inB_iff.1 hq
        | false => rw [hq] at h; exact absurd rfl h
      clear hHF Hyes Hno hany
      have hvl : (tvTo ms 201).length = 201 := tvTo_len _ _
      generalize tvTo ms (200 + 1) = vals at *
      generalize hR : RHeapMove hs ms = R at *
      obtain ⟨R1, R2, R3⟩ := R
      obtain ⟨B, d, rfl, hr2, hcd⟩ := hu
      have Hmb := hide hmb
      have Hvl := hide hvl
      clear hmb hA hR hvl
      generalize hL1 : hs.length = N at *
      generalize hL2 : ms.length = M at *
      have HL1 := hide hL1
      have HL2 := hide hL2
      clear hL1 hL2
      go_enter Try.func28, Try.ntmps28
      go_wp2_with (first | (go_at_call 43; refine HA.out.mono ?_; rintro e w' ⟨rfl, q, rfl⟩) | (go_at_call 44; refine (HV.out q).mono ?_; rintro e w2 ⟨r, rfl, hoR, hbR⟩) | (go_at_call 45; refine (HHF.out q).mono ?_; rintro e w' ⟨rfl, rfl⟩))
      have hfm := hoR.form
      rw [Hvl.out] at hfm
      obtain ⟨E, f, rfl, hf1, hf2, hrE, -⟩ := hfm
      have hb02 : Below w.heap.size w w2 := (below_drewN (Below.refl _ _) q).trans hbR
      have hrH := hr.below hb02
      have hrM := hr2.below hb02
      have Hb02 := hide hb02
      clear hb02 hbR hoR hr hr2 HV HA
      go_wp2
      go_loop [8, 36] (fun x i => ∃ k : Nat, k ≤ N ∧ i = .int .i64 k ∧ x = .int .i64 (hxTo vals hs k)) (fun _ i => N - (intOf i).toNat)
      case atStart => exact ⟨0, Nat.zero_le _, rfl, rfl⟩
      case round =>
        obtain ⟨k, hk, rfl, rfl⟩ := hrel
        by_cases hlt : k < N
        · obtain ⟨ad, rfl, hbl, hc⟩ := hrH.int hlt
          have Hs : Hid (hxTo vals hs (k + 1) = bits .xor .i64 (hxTo vals hs k) (vals.getD (hs.getD k 0).toNat 0)) := hide rfl
          have hyy := HIN.out k hlt
          generalize hxTo vals hs k = X at *
          generalize hs.getD k 0 = y at *
          obtain ⟨hy1, hy2⟩ := hyy
          obtain ⟨y, rfl⟩ := Int.eq_ofNat_of_zero_le hy1
          rw [Int.toNat_natCast] at Hs
          have hy3 : y < 201 := by omega
          obtain ⟨ed, rfl, hbe, hce⟩ := hrE.int hy3
          generalize vals.getD y 0 = z at *
          go_wp2
          go_round
          case measure => simp [intOf]; omega
          case rel => exact ⟨k + 1, by omega, by go_num, by rw [Hs.out]⟩
        · have hkn : k = N := by omega
          subst hkn
          have Hin := HIN
          have HR : Hid ((R1, R2, R3) = hmFind vals (hxTo vals hs k) hs ms) := hide HR0.out
          generalize hxTo vals hs k = X at *
          go_wp2
          go_loopw [49] (fun i wr => ∃ a : Nat, a ≤ k ∧ i = .int .i64 a ∧ Hid (∀ a', a' < a → ∀ b, b < M → hmHit vals X (hs.getD a' 0) (ms.getD b 0) = false) ∧ Hid (∃ q, wr = w2.drewN q)) (fun i _ => k - (intOf i).toNat)
          case atStart => exact ⟨0, Nat.zero_le _, rfl, hide fun a' ha' => absurd ha' (by omega), hide ⟨0, rfl⟩⟩
          case round =>
            obtain ⟨a, ha, rfl, hfa, hq1⟩ := hrel
            obtain ⟨q1, rfl⟩ := hq1.out
            by_cases hak : a < k
            · have dak : decide (a < k) = true := decide_eq_true hak
              obtain ⟨ad, rfl, hbl, hc⟩ := hrH.int hak
              obtain ⟨hh0, hh2⟩ := Hin.out a hak
              generalize hh : hs.getD a 0 = h at *
              have HH := hide hh
              clear hh
              obtain ⟨h, rfl⟩ := Int.eq_ofNat_of_zero_le hh0
              have hh3 : h < 201 := by omega
              obtain ⟨ed, rfl, hbe, hce⟩ := hrE.int hh3
              go_wp2
              go_loopw [56] (fun i wx => ∃ b : Nat, b ≤ M ∧ i = .int .i64 b ∧ Hid (∀ b', b' < b → hmHit vals X h (ms.getD b' 0) = false) ∧ Hid (∃ q, wx = w2.drewN q)) (fun i _ => M - (intOf i).toNat)
              case atStart => exact ⟨0, Nat.zero_le _, rfl, hide fun b' hb' => absurd hb' (by omega), hide ⟨_, rfl⟩⟩
              case round =>
                obtain ⟨b, hb, rfl, hfb, hq2⟩ := hrel
                obtain ⟨q2, rfl⟩ := hq2.out
                by_cases hbM : b < M
                · obtain ⟨md, rfl, hbm, hcm⟩ := hrM.int hbM
                  obtain ⟨hm1', hm2'⟩ := Hmb.out b hbM
                  generalize hmm : ms.getD b 0 = m at *
                  have HM := hide hmm
                  clear hmm
                  obtain ⟨m, rfl⟩ := Int.eq_ofNat_of_zero_le (show 0 ≤ m by omega)
                  by_cases hmh : m ≤ h
                  · have dmh : decide (m ≤ h) = true := decide_eq_true hmh
                    have hhm : h - m < 201 := by omega
                    obtain ⟨ed', e', hbe', hce'⟩ := hrE.int hhm
                    cases e'
                    have Hhit : Hid (hmHit vals X (h : Int) (m : Int) = decide (bits .xor .i64 (bits .xor .i64 X (vals.getD h 0)) (vals.getD (h - m) 0) = 0)) := hide (by
                      unfold hmHit
                      rw [Int.toNat_natCast, Int.toNat_natCast, decide_eq_true (show (m : Int) ≤ (h : Int) by omega), Bool.true_and])
                    generalize vals.getD h 0 = z1 at *
                    generalize vals.getD (h - m) 0 = z2 at *
                    have e1 : IntKind.i64.wrap ((h : Int) - (m : Int)) = (h : Int) - (m : Int) := IntWalk.i64_in _ (by omega)
                    have e2 : 0 ≤ (h : Int) - (m : Int) := by omega
                    have e3 : ((h : Int) - (m : Int)).toNat = h - m := by omega
                    have e4 : (h : Int) - (m : Int) < 201 := by omega
                    cases hq : (bits .xor .i64 (bits .xor .i64 X z1) z2 == (0 : Int)) with
                    | true =>
                      have Hh : Hid (hmHit vals X (h : Int) (m : Int) = true) := hide (by rw [Hhit.out]; simpa using hq)
                      go_wp2
                      go_quiet (fail)
                      go_wp2
                      go_ret3
                      have h := HR.out.trans (hmFind_yes (i := a) (k := b) (by rw [HL1.out]; exact hak) (by rw [HL2.out]; exact hbM) (by rw [HL2.out]; exact hfa.out) (by rw [HH.out]; exact hfb.out) (by rw [HH.out, HM.out]; exact Hh.out))
                      rw [HM.out] at h
                      simp only [Prod.mk.injEq] at h
                      obtain ⟨h1, h2, h3⟩ := h
                      subst h1 h2 h3
                      exact ⟨rfl, by repeat (first | exact Hb02.out | refine below_drewN ?_ _)⟩
                    | false =>
                      have Hh : Hid (hmHit vals X (h : Int) (m : Int) = false) := hide (by rw [Hhit.out]; simpa using hq)
                      go_wp2
                      go_quiet (fail)
                      go_wp2
                      go_roundw
                      case measure => simp [intOf]; omega
                      case rel =>
                        refine ⟨b + 1, by omega, by go_num, hide fun b' hb' => ?_, hide ⟨_, rfl⟩⟩
                        by_cases e : b' = b
                        · subst e
                          rw [HM.out]; exact Hh.out
                        · exact hfb.out b' (by omega)
                  · have dmh : decide (m ≤ h) = false := decide_eq_false hmh
                    have Hh : Hid (hmHit vals X (h : Int) (m : Int) = false) := hide (by
                      unfold hmHit
                      rw [decide_eq_false (show ¬ (m : Int) ≤ (h : Int) by omega), Bool.false_and])
                    go_wp2
                    go_quiet (fail)
                    go_wp2
                    go_roundw
                    case measure => simp [intOf]; omega
                    case rel =>
                      refine ⟨b + 1, by omega, by go_num, hide fun b' hb' => ?_, hide ⟨_, rfl⟩⟩
                      by_cases e : b' = b
                      · subst e
                        rw [HM.out]; exact Hh.out
                      · exact hfb.out b' (by omega)
                · have hbe : b = M := by omega
                  subst hbe
                  go_wp2
                  go_roundw
                  case measure => simp [intOf]; omega
                  case rel =>
                    refine ⟨a + 1, by omega, by go_num, hide fun a' ha' => ?_, hide ⟨_, rfl⟩⟩
                    by_cases e : a' = a
                    · subst e
                      rw [HH.out]; exact hfb.out
                    · exact hfa.out a' (by omega)
            · have hae : a = k := by omega
              subst hae
              go_wp2
              go_ret3
              have h := HR.out.trans (hmFind_no (by rw [HL1.out, HL2.out]; exact hfa.out))
              simp only [Prod.mk.injEq] at h
              obtain ⟨h1, h2, h3⟩ := h
              subst h1 h2 h3
              exact ⟨rfl, by repeat (first | exact Hb02.out | refine below_drewN ?_ _)⟩
    · rw [show RHeapMove hs ms = (0, 0, false) from by rw [RHeapMove, if_neg (by simp [hmOk, hN])]]
      obtain ⟨A, c, rfl, hr, hcc⟩ := hv
      generalize hs.length = N at *
      by_cases hN1 : N < 1
      · go_enter Try.func28, Try.ntmps28
        go_wp2_with (go_at_call 43; refine HA.out.mono ?_; rintro e w' ⟨rfl, q, rfl⟩)
        go_ret3
        exact ⟨rfl, below_drewN (Below.refl _ _) _⟩
      · have hN8 : 8 < N := by omega
        clear hN
        go_enter Try.func28, Try.ntmps28
        go_wp2_with (go_at_call 43; refine HA.out.mono ?_; rintro e w' ⟨rfl, q, rfl⟩)
        go_ret3
        exact ⟨rfl, below_drewN (Below.refl _ _) _⟩
end Go.Proofs.Ytajpieblbijciaa
