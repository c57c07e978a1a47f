/- Contract of BallotWays, the program's: a map keyed by pairs of numbers. Conditions: none. -/
import Derived.Test.YtbganjcnhnkakaaBalS
namespace Go.Proofs.Ytbganjcnhnkakaa
open Go.ChangeShapes Go.WideShapes Go.ChangeAt Go.RowKit Go.Maps

theorem MapF.drewN {w : World} {b n : Nat} {f : Int → Int → Nat} (h : MapF w b n f) (q : Nat) : MapF (w.drewN q) b n f := h
theorem MapF.drew {w : World} {b n : Nat} {f : Int → Int → Nat} (h : MapF w b n f) : MapF w.drew b n f := h
theorem MapF.congr {w : World} {b n : Nat} {f g : Int → Int → Nat} (h : MapF w b n f) (he : ∀ a c, f a c = g a c) : MapF w b n g := by
  obtain ⟨D, h1, h2⟩ := h
  exact ⟨D, h1, fun a c ha hc => by rw [h2 a c ha hc, he]⟩

set_option maxRecDepth 100000 in
set_option maxHeartbeats 1600000 in
theorem iBallotWays (a b : Int) (t : Bool) (w : World) (_wf0 : (Lit.int .i64 a).wf = true) (_wf1 : (Lit.int .i64 b).wf = true) :
    Calls Try.prog 12 #[.int .i64 a, .int .i64 b, .bool t] w fun e w' => e = .returned (.tuple #[.int .i64 (RBallotWays a b t).1, .bool (RBallotWays a b t).2]) ∧ Below w.heap.size w w' := by
  have HA := Lib.hid (fun W => iIn a 0 60 W)
  cases ha : inB a 0 60 with
  | false =>
    rw [bal_no (by rw [balOk, ha]; rfl)]
    rw [ha] at HA
    clear ha
    go_enter Try.func12, Try.ntmps12
    go_wp2_with fail
    refine (HA.out _).mono ?_
    rintro e w' ⟨rfl, rfl⟩
    go_wp2
    go_ret2
    exact ⟨rfl, Below.refl _ _⟩
  | true =>
    rw [ha] at HA
    obtain ⟨ha0, ha60⟩ := inB_iff.1 ha
    have HB := Lib.hid (fun W => iIn b 0 60 W)
    cases hb : inB b 0 60 with
    | false =>
      have hb2 : inB b 0 (60 - a) = false := inB_f (by have := inB_iff'.1 hb; omega)
      rw [bal_no (by rw [balOk, hb2, Bool.and_false])]
      rw [hb] at HB
      clear ha hb hb2
      go_enter Try.func12, Try.ntmps12
      go_wp2_with fail
      refine (HA.out _).mono ?_
      rintro e w' ⟨rfl, rfl⟩
      go_wp2_with fail
      refine (HB.out _).mono ?_
      rintro e w' ⟨rfl, rfl⟩
      go_wp2
      go_ret2
      exact ⟨rfl, Below.refl _ _⟩
    | true =>
      rw [hb] at HB
      obtain ⟨hb0, hb60⟩ := inB_iff.1 hb
      obtain ⟨A, rfl⟩ : ∃ A : Nat, a = (A : Int) := ⟨a.toNat, by omega⟩
      obtain ⟨B, rfl⟩ : ∃ B : Nat, b = (B : Int) := ⟨b.toNat, by omega⟩
      by_cases hAB : A + B ≤ 60
      · have hok : balOk (A : Int) (B : Int) = true := by rw [balOk, ha, inB_t (by omega)]; rfl
        have hR : RBallotWays (A : Int) (B : Int) t = ((wB t A B : Int), true) := by rw [RBallotWays, if_pos hok]; rfl
        rw [hR]
        clear ha hb hok hR ha0 ha60 hb0 hb60
        have HW := Lib.hid (fun i k h => wB_60 (t := t) (i := i) (k := k) h)
        have hk0 := kk_of (a := 0) (c := 0) (by decide) (by decide)
        have hown0 := World.ownsMap_made w Try.prog 36 (plainElem (H := Unit) Try.prog 2)
        have hmm := @run_makeMap Try.prog
        have hb0 : Below w.heap.size w (w.alloc (.map #[] 0)) := (Below.refl _ _).alloc (Nat.le_refl _) _
        cases t with
        | true =>
          have Hc : Hid (∀ i k, cnd true i k = decide (k ≤ i)) := hide fun i k => rfl
          have Hsum := Lib.hid (fun i k h1 h2 h3 => fS_sum (t := true) (B := B) (i := i) (k := k) h1 h2 h3)
          have Hno := Lib.hid (fun i k h1 h2 => wB_no (t := true) (i := i) (k := k) h1 h2)
          go_enter Try.func12, Try.ntmps12
          go_wp2_with fail
          refine (HA.out _).mono ?_
          rintro e w' ⟨rfl, rfl⟩
          go_wp2_with fail
          refine (HB.out _).mono ?_
          rintro e w' ⟨rfl, rfl⟩
          go_wp2_with (refine wpList_insert_own _ rfl _ _ _ 37 rfl 36 2 lawP Try.underlying37 _ w.heap.size 0 (.map []) rfl hown0 (by unfold maxLen; omega) _ _ _ rfl rfl hk0 _ [] (plainElem_int Try.underlying2 (by decide)) ?_; intro w1 hD1 hg1)
          have hM1 : MapF w1 w.heap.size 1 (fS true B 0 0) := MapF.put (f := fun _ _ => 0) (v := 1) (by decide) (by decide) hown0 (fun a c _ _ => rfl) hD1 (fun a c => fS_start _ _ a c)
          have hb1 : Below w.heap.size w w1 := hb0.grown hg1 (Nat.le_of_lt (by simp)) (fun j e => by injection e with e; omega)
          clear hD1 hg1 hown0 hmm hb0 hk0
          go_loopw [30] (fun i wr => ∃ i0 n : Nat, i = .int .i64 (i0 : Int) ∧ i0 ≤ A + 1 ∧ n ≤ i0 * 100 + 1 ∧ Hid (MapF wr w.heap.size n (fS true B i0 0)) ∧ Below w.heap.size w wr) (fun i _ => A + 2 - (intOf i).toNat)
          case atStart => exact ⟨0, 1, rfl, Nat.zero_le _, by omega, hide hM1, hb1⟩
          case round =>
            obtain ⟨i, N, rfl, hiA, hN, hM, hbi⟩ := hrel
            clear hM1 hb1
            obtain ⟨wo, rfl⟩ : ∃ wo : World, wo = wr := ⟨_, rfl⟩
            by_cases hi : i ≤ A
            · have hi2 : (i : Int) < (A : Int) + 1 := by omega
              go_wp2
              go_loopw [35] (fun k wr => ∃ k0 n : Nat, k = .int .i64 (k0 : Int) ∧ k0 ≤ B + 1 ∧ n ≤ i * 100 + k0 + 1 ∧ Hid (MapF wr w.heap.size n (fS true B i k0)) ∧ Below w.heap.size w wr) (fun k _ => B + 2 - (intOf k).toNat)
              case atStart => exact ⟨0, N, rfl, Nat.zero_le _, by omega, hM, hbi⟩
              case round =>
                obtain ⟨k, n2, rfl, hkB, hn2, hMk, hbk⟩ := hrel
                clear hM hbi
                by_cases hk : k ≤ B
                · have hk2 : (k : Int) < (B : Int) + 1 := by omega
                  by_cases h0 : i + k = 0
                  · obtain ⟨rfl, rfl⟩ : i = 0 ∧ k = 0 := by omega
                    rw [show ((0 : Nat) : Int) = 0 from rfl] at *
                    go_wp2
                    go_roundw
                    case rel => exact ⟨1, n2, by go_num, by omega, by omega, hide (hMk.out.congr fun a c => (fS_skip (.inl ⟨rfl, rfl⟩) a c).symm), hbk⟩
                    case measure => first | (simp [intOf]; done) | (simp [intOf]; omega)
                  · have g1 : decide ((0 : Int) < (i : Int) + (k : Int)) = true := decide_eq_true (by omega)
                    have g2 : (0 : Int) < (i : Int) + (k : Int) := by omega
                    by_cases hlt : k < i
                    · have hcc : cnd true i k = true := by rw [Hc.out]; exact decide_eq_true (by omega)
                      have hv := Hsum.out i k h0 hk hcc
                      have hw60 := HW.out i k (by omega)
                      have wi : (Lit.int .i64 (i : Int)).wf = true := WalkArith.wf_i64 (by omega)
                      have wk : (Lit.int .i64 (k : Int)).wf = true := WalkArith.wf_i64 (by omega)
                      have wi1 : (Lit.int .i64 ((i : Int) - 1)).wf = true := WalkArith.wf_i64 (by omega)
                      have wk1 : (Lit.int .i64 ((k : Int) - 1)).wf = true := WalkArith.wf_i64 (by omega)
                      have hl1 := hMk.out.look wi1 wk
                      have hl2 := hMk.out.look wi wk1
                      have hl1d := hMk.out.drew.look wi1 wk
                      have hl2d := hMk.out.drew.look wi wk1
                      have hkey := kk_of wi wk
                      generalize fS true B i k ((i : Int) - 1) k = p1 at hv hl1 hl1d
                      generalize fS true B i k i ((k : Int) - 1) = p2 at hv hl2 hl2d
                      obtain ⟨D, hD, hf⟩ := hMk.out
                      have Hf := Lib.hid hf
                      have hDd : wr.drew.ownsMap Try.prog 36 (plainElem (H := Unit) Try.prog 2) w.heap.size n2 D := hD.drew
                      have wv : (Lit.int .i64 (wB true i k : Int)).wf = true := WalkArith.wf_i64 (by omega)
                      have Hv := hide hv
                      have hn3 : n2 < maxLen := by unfold maxLen; omega
                      have Hiw : Hid (MapF wr w.heap.size n2 (fS true B i k)) := hMk
                      have Wik := hide (And.intro wi wk)
                      have e1 : IntKind.i64.wrap ((p1 : Int) + (p2 : Int)) = (wB true i k : Int) := by rw [show (p1 : Int) + (p2 : Int) = (wB true i k : Int) by omega]; exact IntWalk.i64_in _ (by omega)
                      have E1 := hide e1
                      clear e1
                      have e2 : IntKind.i64.wrap ((i : Int) - 1) = (i : Int) - 1 := IntWalk.i64_in _ (by omega)
                      have E2 := hide e2
                      clear e2
                      have e3 : IntKind.i64.wrap ((k : Int) - 1) = (k : Int) - 1 := IntWalk.i64_in _ (by omega)
                      have g3 : decide ((k : Int) < (i : Int)) = true := decide_eq_true (by omega)
                      have g4 : decide (k < i) = true := decide_eq_true hlt
                      have e1 := E1.out
                      have e2 := E2.out
                      clear hf hv wi wk wi1 wk1 hw60
                      obtain ⟨v, hvv⟩ : ∃ v, wB true i k = v := ⟨_, rfl⟩
                      rw [hvv] at e1 wv
                      have Hw := hide hvv
                      clear hvv E1
                      go_wp2
                      go_still_tail 17, (by kernel_rfl)
                      change wpList _ _ _ _ _ wr.drew
                      go_wp2_with (at_mapUpdate; refine wpList_mapUpdate_own _ rfl _ _ _ 37 rfl 36 2 lawP Try.underlying37 _ w.heap.size n2 D rfl hDd hn3 _ _ _ rfl rfl hkey _ [] (plainElem_int Try.underlying2 wv) ?_; intro w5 hD5 hg5)
                      go_roundw
                      case rel => exact ⟨k + 1, n2 + 1, by go_num, by omega, by omega, hide (MapF.put Wik.out.1 Wik.out.2 hD Hf.out hD5 (fun a c => by rw [fS_step, Hw.out])), hbk.grown (show wr.grownBy w5 (some w.heap.size) from (show wr.grownBy wr.drew (some w.heap.size) from ⟨rfl, rfl, rfl, Nat.le_refl _, fun _ _ _ => rfl⟩).trans hg5) hbk.size (fun j e => by injection e with e; omega)⟩
                      case measure => simp [intOf]; omega
                    · by_cases heq : k = i
                      · have hcc : cnd true i k = true := by rw [Hc.out]; exact decide_eq_true (by omega)
                        have hv := Hsum.out i k h0 hk hcc
                        have hw60 := HW.out i k (by omega)
                        have wi : (Lit.int .i64 (i : Int)).wf = true := WalkArith.wf_i64 (by omega)
                        have wk : (Lit.int .i64 (k : Int)).wf = true := WalkArith.wf_i64 (by omega)
                        have wi1 : (Lit.int .i64 ((i : Int) - 1)).wf = true := WalkArith.wf_i64 (by omega)
                        have wk1 : (Lit.int .i64 ((k : Int) - 1)).wf = true := WalkArith.wf_i64 (by omega)
                        have hl1 := hMk.out.look wi1 wk
                        have hl2 := hMk.out.look wi wk1
                        have hl1d := hMk.out.drew.look wi1 wk
                        have hl2d := hMk.out.drew.look wi wk1
                        have hkey := kk_of wi wk
                        generalize fS true B i k ((i : Int) - 1) k = p1 at hv hl1 hl1d
                        generalize fS true B i k i ((k : Int) - 1) = p2 at hv hl2 hl2d
                        obtain ⟨D, hD, hf⟩ := hMk.out
                        have Hf := Lib.hid hf
                        have hDd : wr.drew.ownsMap Try.prog 36 (plainElem (H := Unit) Try.prog 2) w.heap.size n2 D := hD.drew
                        have wv : (Lit.int .i64 (wB true i k : Int)).wf = true := WalkArith.wf_i64 (by omega)
                        have Hv := hide hv
                        have hn3 : n2 < maxLen := by unfold maxLen; omega
                        have Hiw : Hid (MapF wr w.heap.size n2 (fS true B i k)) := hMk
                        have Wik := hide (And.intro wi wk)
                        have e1 : IntKind.i64.wrap ((p1 : Int) + (p2 : Int)) = (wB true i k : Int) := by rw [show (p1 : Int) + (p2 : Int) = (wB true i k : Int) by omega]; exact IntWalk.i64_in _ (by omega)
                        have E1 := hide e1
                        clear e1
                        have e2 : IntKind.i64.wrap ((i : Int) - 1) = (i : Int) - 1 := IntWalk.i64_in _ (by omega)
                        have E2 := hide e2
                        clear e2
                        have e3 : IntKind.i64.wrap ((k : Int) - 1) = (k : Int) - 1 := IntWalk.i64_in _ (by omega)
                        have g3 : decide ((k : Int) < (i : Int)) = false := decide_eq_false (by omega)
                        have g4 : decide (k < i) = false := decide_eq_false hlt
                        have g5 : ((i : Int) == (k : Int)) = true := by rw [beq_iff_eq]; omega
                        clear heq
                        have e1 := E1.out
                        have e2 := E2.out
                        clear hf hv wi wk wi1 wk1 hw60
                        obtain ⟨v, hvv⟩ : ∃ v, wB true i k = v := ⟨_, rfl⟩
                        rw [hvv] at e1 wv
                        have Hw := hide hvv
                        clear hvv E1
                        go_wp2
                        go_still_tail 17, (by kernel_rfl)
                        change wpList _ _ _ _ _ wr.drew
                        go_wp2_with (at_mapUpdate; refine wpList_mapUpdate_own _ rfl _ _ _ 37 rfl 36 2 lawP Try.underlying37 _ w.heap.size n2 D rfl hDd hn3 _ _ _ rfl rfl hkey _ [] (plainElem_int Try.underlying2 wv) ?_; intro w5 hD5 hg5)
                        go_roundw
                        case rel => exact ⟨k + 1, n2 + 1, by go_num, by omega, by omega, hide (MapF.put Wik.out.1 Wik.out.2 hD Hf.out hD5 (fun a c => by rw [fS_step, Hw.out])), hbk.grown (show wr.grownBy w5 (some w.heap.size) from (show wr.grownBy wr.drew (some w.heap.size) from ⟨rfl, rfl, rfl, Nat.le_refl _, fun _ _ _ => rfl⟩).trans hg5) hbk.size (fun j e => by injection e with e; omega)⟩
                        case measure => simp [intOf]; omega
                      · have hw0 := Hno.out i k (by rw [Hc.out]; exact decide_eq_false (by omega)) h0
                        have g3 : decide ((k : Int) < (i : Int)) = false := decide_eq_false (by omega)
                        have g4 : decide (k < i) = false := decide_eq_false hlt
                        have g5 : ((i : Int) == (k : Int)) = false := by rw [beq_eq_false_iff_ne]; omega
                        go_wp2
                        go_roundw
                        case rel => exact ⟨k + 1, n2, by go_num, by omega, by omega, hide (hMk.out.congr fun a c => (fS_skip (.inr hw0) a c).symm), hbk⟩
                        case measure => simp [intOf]; omega
                · have hkB2 : k = B + 1 := by omega
                  subst hkB2
                  have e1 : ((B + 1 : Nat) : Int) = (B : Int) + 1 := by omega
                  rw [e1]
                  clear e1
                  go_wp2
                  go_roundw
                  case rel => exact ⟨i + 1, n2, by go_num, by omega, by omega, hide (hMk.out.congr fun a c => fS_next _ _ _ a c), hbk⟩
                  case measure => simp [intOf]; omega
            · have hiA2 : i = A + 1 := by omega
              subst hiA2
              obtain ⟨D, hD, hf⟩ := hM.out
              have wA : (Lit.int .i64 (A : Int)).wf = true := WalkArith.wf_i64 (by omega)
              have wB1 : (Lit.int .i64 (B : Int)).wf = true := WalkArith.wf_i64 (by omega)
              have hkey := kk_of wA wB1
              have hfin := hf A B wA wB1
              rw [fS_y (by omega), Int.toNat_natCast, Int.toNat_natCast] at hfin
              have Hfin := hide hfin
              have e1 : ((A + 1 : Nat) : Int) = (A : Int) + 1 := by omega
              rw [e1]
              clear e1 hf hfin hM
              go_wp2_with (at_lookup; refine wpList_lookup_own_int _ rfl _ _ 37 rfl 36 2 .i64 lawP Try.underlying37 Try.underlying2 (zeroE _) w.heap.size N D rfl hD _ _ rfl hkey ?_; intro c hat hwc)
              have hc : c = (wB true A B : Int) := by
                rw [Hfin.out] at hat
                injection hat with hat
                injection hat with _ hat
                exact hat.symm
              subst hc
              go_wp2
              go_ret2
              exact ⟨rfl, hbi⟩
        | false =>
          have Hc : Hid (∀ i k, cnd false i k = decide (k < i)) := hide fun i k => rfl
          have Hsum := Lib.hid (fun i k h1 h2 h3 => fS_sum (t := false) (B := B) (i := i) (k := k) h1 h2 h3)
          have Hno := Lib.hid (fun i k h1 h2 => wB_no (t := false) (i := i) (k := k) h1 h2)
          go_enter Try.func12, Try.ntmps12
          go_wp2_with fail
          refine (HA.out _).mono ?_
          rintro e w' ⟨rfl, rfl⟩
          go_wp2_with fail
          refine (HB.out _).mono ?_
          rintro e w' ⟨rfl, rfl⟩
          go_wp2_with (refine wpList_insert_own _ rfl _ _ _ 37 rfl 36 2 lawP Try.underlying37 _ w.heap.size 0 (.map []) rfl hown0 (by unfold maxLen; omega) _ _ _ rfl rfl hk0 _ [] (plainElem_int Try.underlying2 (by decide)) ?_; intro w1 hD1 hg1)
          have hM1 : MapF w1 w.heap.size 1 (fS false B 0 0) := MapF.put (f := fun _ _ => 0) (v := 1) (by decide) (by decide) hown0 (fun a c _ _ => rfl) hD1 (fun a c => fS_start _ _ a c)
          have hb1 : Below w.heap.size w w1 := hb0.grown hg1 (Nat.le_of_lt (by simp)) (fun j e => by injection e with e; omega)
          clear hD1 hg1 hown0 hmm hb0 hk0
          go_loopw [30] (fun i wr => ∃ i0 n : Nat, i = .int .i64 (i0 : Int) ∧ i0 ≤ A + 1 ∧ n ≤ i0 * 100 + 1 ∧ Hid (MapF wr w.heap.size n (fS false B i0 0)) ∧ Below w.heap.size w wr) (fun i _ => A + 2 - (intOf i).toNat)
          case atStart => exact ⟨0, 1, rfl, Nat.zero_le _, by omega, hide hM1, hb1⟩
          case round =>
            obtain ⟨i, N, rfl, hiA, hN, hM, hbi⟩ := hrel
            clear hM1 hb1
            obtain ⟨wo, rfl⟩ : ∃ wo : World, wo = wr := ⟨_, rfl⟩
            by_cases hi : i ≤ A
            · have hi2 : (i : Int) < (A : Int) + 1 := by omega
              go_wp2
              go_loopw [35] (fun k wr => ∃ k0 n : Nat, k = .int .i64 (k0 : Int) ∧ k0 ≤ B + 1 ∧ n ≤ i * 100 + k0 + 1 ∧ Hid (MapF wr w.heap.size n (fS false B i k0)) ∧ Below w.heap.size w wr) (fun k _ => B + 2 - (intOf k).toNat)
              case atStart => exact ⟨0, N, rfl, Nat.zero_le _, by omega, hM, hbi⟩
              case round =>
                obtain ⟨k, n2, rfl, hkB, hn2, hMk, hbk⟩ := hrel
                clear hM hbi
                by_cases hk : k ≤ B
                · have hk2 : (k : Int) < (B : Int) + 1 := by omega
                  by_cases h0 : i + k = 0
                  · obtain ⟨rfl, rfl⟩ : i = 0 ∧ k = 0 := by omega
                    rw [show ((0 : Nat) : Int) = 0 from rfl] at *
                    go_wp2
                    go_roundw
                    case rel => exact ⟨1, n2, by go_num, by omega, by omega, hide (hMk.out.congr fun a c => (fS_skip (.inl ⟨rfl, rfl⟩) a c).symm), hbk⟩
                    case measure => first | (simp [intOf]; done) | (simp [intOf]; omega)
                  · have g1 : decide ((0 : Int) < (i : Int) + (k : Int)) = true := decide_eq_true (by omega)
                    have g2 : (0 : Int) < (i : Int) + (k : Int) := by omega
                    by_cases hlt : k < i
                    · have hcc : cnd false i k = true := by rw [Hc.out]; exact decide_eq_true (by omega)
                      have hv := Hsum.out i k h0 hk hcc
                      have hw60 := HW.out i k (by omega)
                      have wi : (Lit.int .i64 (i : Int)).wf = true := WalkArith.wf_i64 (by omega)
                      have wk : (Lit.int .i64 (k : Int)).wf = true := WalkArith.wf_i64 (by omega)
                      have wi1 : (Lit.int .i64 ((i : Int) - 1)).wf = true := WalkArith.wf_i64 (by omega)
                      have wk1 : (Lit.int .i64 ((k : Int) - 1)).wf = true := WalkArith.wf_i64 (by omega)
                      have hl1 := hMk.out.look wi1 wk
                      have hl2 := hMk.out.look wi wk1
                      have hl1d := hMk.out.drew.look wi1 wk
                      have hl2d := hMk.out.drew.look wi wk1
                      have hkey := kk_of wi wk
                      generalize fS false B i k ((i : Int) - 1) k = p1 at hv hl1 hl1d
                      generalize fS false B i k i ((k : Int) - 1) = p2 at hv hl2 hl2d
                      obtain ⟨D, hD, hf⟩ := hMk.out
                      have Hf := Lib.hid hf
                      have hDd : wr.drew.ownsMap Try.prog 36 (plainElem (H := Unit) Try.prog 2) w.heap.size n2 D := hD.drew
                      have wv : (Lit.int .i64 (wB false i k : Int)).wf = true := WalkArith.wf_i64 (by omega)
                      have Hv := hide hv
                      have hn3 : n2 < maxLen := by unfold maxLen; omega
                      have Hiw : Hid (MapF wr w.heap.size n2 (fS false B i k)) := hMk
                      have Wik := hide (And.intro wi wk)
                      have e1 : IntKind.i64.wrap ((p1 : Int) + (p2 : Int)) = (wB false i k : Int) := by rw [show (p1 : Int) + (p2 : Int) = (wB false i k : Int) by omega]; exact IntWalk.i64_in _ (by omega)
                      have E1 := hide e1
                      clear e1
                      have e2 : IntKind.i64.wrap ((i : Int) - 1) = (i : Int) - 1 := IntWalk.i64_in _ (by omega)
                      have E2 := hide e2
                      clear e2
                      have e3 : IntKind.i64.wrap ((k : Int) - 1) = (k : Int) - 1 := IntWalk.i64_in _ (by omega)
                      have g3 : decide ((k : Int) < (i : Int)) = true := decide_eq_true (by omega)
                      have g4 : decide (k < i) = true := decide_eq_true hlt
                      have e1 := E1.out
                      have e2 := E2.out
                      clear hf hv wi wk wi1 wk1 hw60
                      obtain ⟨v, hvv⟩ : ∃ v, wB false i k = v := ⟨_, rfl⟩
                      rw [hvv] at e1 wv
                      have Hw := hide hvv
                      clear hvv E1
                      go_wp2
                      go_still_tail 17, (by kernel_rfl)
                      change wpList _ _ _ _ _ wr.drew
                      go_wp2_with (at_mapUpdate; refine wpList_mapUpdate_own _ rfl _ _ _ 37 rfl 36 2 lawP Try.underlying37 _ w.heap.size n2 D rfl hDd hn3 _ _ _ rfl rfl hkey _ [] (plainElem_int Try.underlying2 wv) ?_; intro w5 hD5 hg5)
                      go_roundw
                      case rel => exact ⟨k + 1, n2 + 1, by go_num, by omega, by omega, hide (MapF.put Wik.out.1 Wik.out.2 hD Hf.out hD5 (fun a c => by rw [fS_step, Hw.out])), hbk.grown (show wr.grownBy w5 (some w.heap.size) from (show wr.grownBy wr.drew (some w.heap.size) from ⟨rfl, rfl, rfl, Nat.le_refl _, fun _ _ _ => rfl⟩).trans hg5) hbk.size (fun j e => by injection e with e; omega)⟩
                      case measure => simp [intOf]; omega
                    · have hw0 := Hno.out i k (by rw [Hc.out]; exact decide_eq_false (by omega)) h0
                      have g3 : decide ((k : Int) < (i : Int)) = false := decide_eq_false (by omega)
                      have g4 : decide (k < i) = false := decide_eq_false hlt
                      go_wp2
                      go_roundw
                      case rel => exact ⟨k + 1, n2, by go_num, by omega, by omega, hide (hMk.out.congr fun a c => (fS_skip (.inr hw0) a c).symm), hbk⟩
                      case measure => simp [intOf]; omega
                · have hkB2 : k = B + 1 := by omega
                  subst hkB2
                  have e1 : ((B + 1 : Nat) : Int) = (B : Int) + 1 := by omega
                  rw [e1]
                  clear e1
                  go_wp2
                  go_roundw
                  case rel => exact ⟨i + 1, n2, by go_num, by omega, by omega, hide (hMk.out.congr fun a c => fS_next _ _ _ a c), hbk⟩
                  case measure => simp [intOf]; omega
            · have hiA2 : i = A + 1 := by omega
              subst hiA2
              obtain ⟨D, hD, hf⟩ := hM.out
              have wA : (Lit.int .i64 (A : Int)).wf = true := WalkArith.wf_i64 (by omega)
              have wB1 : (Lit.int .i64 (B : Int)).wf = true := WalkArith.wf_i64 (by omega)
              have hkey := kk_of wA wB1
              have hfin := hf A B wA wB1
              rw [fS_y (by omega), Int.toNat_natCast, Int.toNat_natCast] at hfin
              have Hfin := hide hfin
              have e1 : ((A + 1 : Nat) : Int) = (A : Int) + 1 := by omega
              rw [e1]
              clear e1 hf hfin hM
              go_wp2_with (at_lookup; refine wpList_lookup_own_int _ rfl _ _ 37 rfl 36 2 .i64 lawP Try.underlying37 Try.underlying2 (zeroE _) w.heap.size N D rfl hD _ _ rfl hkey ?_; intro c hat hwc)
              have hc : c = (wB false A B : Int) := by
                rw [Hfin.out] at hat
                injection hat with hat
                injection hat with _ hat
                exact hat.symm
              subst hc
              go_wp2
              go_ret2
              exact ⟨rfl, hbi⟩
      · have hok : balOk (A : Int) (B : Int) = false := by rw [balOk, inB_f (n := (B : Int)) (by omega), Bool.and_false]
        rw [bal_no hok]
        have g1 : decide ((60 : Int) < (A : Int) + (B : Int)) = true := decide_eq_true (by omega)
        have g2 : (60 : Int) < (A : Int) + (B : Int) := by omega
        clear ha hb hok
        go_enter Try.func12, Try.ntmps12
        go_wp2_with fail
        refine (HA.out _).mono ?_
        rintro e w' ⟨rfl, rfl⟩
        go_wp2_with fail
        refine (HB.out _).mono ?_
        rintro e w' ⟨rfl, rfl⟩
        go_wp2
        go_ret2
        exact ⟨rfl, Below.refl _ _⟩
end Go.Proofs.Ytbganjcnhnkakaa
