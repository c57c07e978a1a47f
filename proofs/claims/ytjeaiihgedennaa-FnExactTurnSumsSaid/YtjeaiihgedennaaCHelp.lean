/- The laws' helpers on slices of complex numbers, and the spec's test that all are finite. Conditions: what is stated. -/
import Derived.Test.YtjeaiihgedennaaCList
namespace Go.Proofs.Ytjeaiihgedennaa
open Go.ChangeShapes Go.WideShapes Go.ChangeAt Go.RowKit

theorem drew_more (w : World) (q x q2 : Nat) : ∃ n, (w.drewN (q + x)).drewN q2 = w.drewN (q + n) := ⟨x + q2, by rw [World.drewN_drewN, Nat.add_assoc]⟩
/-- a finite number -/
def Fin1 (x : Nat) : Prop := Bd .f32 false x 8388608 103
def FinC (xs : List (Nat × Nat)) : Prop := ∀ i, i < xs.length → Fin1 (xs.getD i (0, 0)).1 ∧ Fin1 (xs.getD i (0, 0)).2
theorem Fin1.wide {x : Nat} (h : Fin1 x) : floatToFloatBits .f32 x .f64 = some (w6 x) := (w6_bd h (by decide) (by decide)).1
theorem cconv {a b : Nat} (ha : Fin1 a) (hb : Fin1 b) : ∀ W : World, (convert 57 68 (.complex .f32 a b)).run Try.prog W = .ok (.complex .f64 (w6 a) (w6 b)) W :=
  fun W => run_convert_complex W 57 68 .f32 .f64 a b _ _ (by kernel_rfl) Try.underlying68 (by simp [cConvBits, ha.wide, hb.wide])
set_option maxHeartbeats 800000 in
theorem sameC (x y : Nat) (w : World) :
    Calls Try.prog 49 #[.complex .f64 x y, .complex .f64 x y] w fun e w' => e = .returned (.bool true) ∧ ∃ q, w' = w.drewN q := by
  have H1 := Lib.hid (sameF x)
  have H2 := Lib.hid (sameF y)
  go_enter Try.func49, Try.ntmps49
  go_wp2_with (go_at_call 10; first | (with_reducible refine (H1.out _).mono ?_; rintro e w' ⟨rfl, q1, rfl⟩) | (with_reducible refine (H2.out _).mono ?_; rintro e w' ⟨rfl, q2, rfl⟩))
  go_ret
  exact ⟨rfl, _, rfl⟩
theorem fin_at {xs : List (Nat × Nat)} (h : FinC xs) {k : Nat} (hk : k < xs.length) : Fin1 (xs.getD k (0, 0)).1 ∧ Fin1 (xs.getD k (0, 0)).2 := h k hk

set_option maxHeartbeats 800000 in
theorem eqC0 (A B : Option Addr) (n c d : Nat) (xs : List (Nat × Nat)) (w : World) (hr : Rd w A n (cxv xs)) (hr2 : Rd w B n (cxv xs)) (hn : n ≤ 1048576) (hl : xs.length = n) (hf : FinC xs) :
    Calls Try.prog 19 #[.slice A n c, .slice B n d] w fun e w' => e = .returned (.bool true) ∧ ∃ q, w' = w.drewN q := by
  have HF := hide (fun k (hk : k < n) => fin_at hf (k := k) (by omega))
  clear hf hl
  go_enter Try.func19, Try.ntmps19
  go_wp2
  go_loopw [5] (fun i wr => ∃ k : Nat, k ≤ n ∧ i = .int .i64 k ∧ Hid (∃ q, wr = w.drewN q)) (fun i _ => n - (intOf i).toNat)
  case atStart => exact ⟨0, Nat.zero_le _, rfl, 0, rfl⟩
  case round =>
    obtain ⟨k, hk, rfl, hq⟩ := hrel
    obtain ⟨q, rfl⟩ := hq.out
    by_cases hlt : k < n
    · obtain ⟨ad, rfl, hbl, hc⟩ := hr.cx hlt
      obtain ⟨ad2, rfl, hbl2, hc2⟩ := hr2.cx hlt
      obtain ⟨f1, f2⟩ := HF.out k hlt
      have hcv := cconv f1 f2
      generalize xs.getD k (0, 0) = p at *
      obtain ⟨a, b⟩ := p
      dsimp only at *
      have HS := Lib.hid (sameC (w6 a) (w6 b))
      clear f1 f2
      generalize w6 a = x at *
      generalize w6 b = y at *
      have g1 : (0 : Int) ≤ (k : Int) := by omega
      have g2 : (k : Int) < (n : Int) := by omega
      go_wp2
      go_quiet ((go_at_call 49; refine (HS.out _).mono ?_; rintro e w' ⟨rfl, q1, rfl⟩; exact ⟨rfl, drew_more _ _ _ _⟩))
      go_wp2
      go_roundw
      case rel => exact ⟨k + 1, by omega, by go_num, by repeat (first | exact ⟨_, rfl⟩ | exact drew2 _ _ _)⟩
      case measure => simp [intOf]; omega
    · go_wp2
      go_ret
      exact ⟨rfl, _, rfl⟩
theorem eqC (v v' : Value) (xs : List (Nat × Nat)) (w : World) (hf : FinC xs) (hr : RVC w v xs) (hr' : RVC w v' xs) (hn : xs.length ≤ 1048576) :
    Calls Try.prog 19 #[v, v'] w fun e w' => e = .returned (.bool true) ∧ Below w.heap.size w w' := by
  obtain ⟨A, c, rfl, hr, _⟩ := hr
  obtain ⟨A', c', rfl, hr', _⟩ := hr'
  exact (eqC0 A A' _ c c' xs w hr hr' hn rfl hf).mono fun e w' ⟨h1, h2⟩ => ⟨h1, below_of_drew h2⟩

theorem fr32s {x : Nat} (h : Fin1 x) : ∀ W : World, (binOp .sub 22 (.float .f32 x) (.float .f32 x)).run Try.prog W = .ok (.float .f32 0) W := by
  obtain ⟨s, m, e, h1, -⟩ := h
  exact fr32 (sub_self' h1)
theorem sFin1 (x : Nat) (h : Fin1 x) (w : World) :
    Calls Try.prog 55 #[.float .f32 x] w fun e w' => e = .returned (.bool true) ∧ w = w' := by
  have h1 := fr32s h
  have h2 : FloatKind.f32.format.order 0 0 = some .eq := by decide +kernel
  clear h
  go_enter Try.func55, Try.ntmps55
  go_wp2
  go_ret
  exact ⟨rfl, rfl⟩
theorem sCFin1 (x y : Nat) (h : Fin1 x) (h' : Fin1 y) (w : World) :
    Calls Try.prog 66 #[.complex .f32 x y] w fun e w' => e = .returned (.bool true) ∧ w = w' := by
  have H1 := Lib.hid (sFin1 x h)
  have H2 := Lib.hid (sFin1 y h')
  clear h h'
  go_enter Try.func66, Try.ntmps66
  go_wp2_with (go_at_call 55; first | (with_reducible refine (H1.out _).mono ?_; rintro e w' ⟨rfl, rfl⟩) | (with_reducible refine (H2.out _).mono ?_; rintro e w' ⟨rfl, rfl⟩))
  go_ret
  exact ⟨rfl, rfl⟩
set_option maxHeartbeats 800000 in
theorem sFinC (A : Option Addr) (n c : Nat) (xs : List (Nat × Nat)) (w : World) (hr : Rd w A n (cxv xs)) (hn : n ≤ 1048576) (hl : xs.length = n) (hf : FinC xs) :
    Calls Try.prog 42 #[.slice A n c] w fun e w' => e = .returned (.bool true) ∧ w = w' := by
  have HF := hide (fun k (hk : k < n) => fin_at hf (k := k) (by omega))
  clear hf hl
  go_enter Try.func42, Try.ntmps42
  go_wp2
  go_loop [3] (fun i => ∃ k : Nat, k ≤ n ∧ i = .int .i64 k) (fun i => n - (intOf i).toNat)
  case atStart => exact ⟨0, Nat.zero_le _, rfl⟩
  case round =>
    obtain ⟨k, hk, rfl⟩ := hrel
    by_cases hlt : k < n
    · obtain ⟨ad, rfl, hbl, hc⟩ := hr.cx hlt
      obtain ⟨f1, f2⟩ := HF.out k hlt
      have HS := Lib.hid (sCFin1 _ _ f1 f2)
      clear f1 f2
      generalize (xs.getD k (0, 0)).1 = x at *
      generalize (xs.getD k (0, 0)).2 = y at *
      have g1 : (0 : Int) ≤ (k : Int) := by omega
      have g2 : (k : Int) < (n : Int) := by omega
      go_wp2_with (go_at_call 66; refine (HS.out _).mono ?_; rintro e w' ⟨rfl, rfl⟩)
      go_round
      case rel => exact ⟨k + 1, by omega, by go_num⟩
      case measure => simp [intOf]; omega
    · go_wp2
      go_ret
      exact ⟨rfl, rfl⟩

/-- the number k as a mark -/
def mkB (k : Nat) : Nat := cvB (floatOfInt .f64 (k : Int))
theorem mk_ok {k : Nat} (h : k ≤ 2097152) : floatToFloatBits .f64 (floatOfInt .f64 (k : Int)) .f32 = some (mkB k) ∧ Fin1 (mkB k) := by
  have e : floatOfInt .f64 (k : Int) = FloatKind.f64.format.write (.number false k 0) := by
    have h0 : decide ((k : Int) < 0) = false := decide_eq_false (by omega)
    simp only [floatOfInt, FloatKind.nearest, FloatKind.encode, h0, Int.natAbs_natCast]
  have hb : Bd .f64 false (floatOfInt .f64 (k : Int)) 2097152 0 := by
    rw [e]
    exact write_bd .f64 false false k 0 2097152 0 (by decide) (by decide) (Nat.mul_le_mul_right _ h) (by simp)
  obtain ⟨h1, h2⟩ := cv_get (bd_conv (k' := .f32) 8388608 103 (by decide) hb (by decide) (by decide) (by decide))
  exact ⟨h1, h2⟩
theorem one_conv : floatToFloatBits .f64 4607182418800017408 .f32 = some 1065353216 := by decide +kernel
theorem mk_conv {k : Nat} (h : k ≤ 2097152) : ∀ W : World, (convert 68 57 (.complex .f64 (floatOfInt .f64 (k : Int)) 4607182418800017408)).run Try.prog W = .ok (.complex .f32 (mkB k) 1065353216) W :=
  fun W => run_convert_complex W 68 57 .f64 .f32 _ _ _ _ (by kernel_rfl) Try.underlying57 (by simp [cConvBits, (mk_ok h).1, one_conv])
/-- the list of the marks k, k + 1, .. -/
def marksC (k n : Nat) : List (Nat × Nat) := (List.range n).map fun i => (mkB (k + i), 1065353216)
theorem marksC_len (k n : Nat) : (marksC k n).length = n := by simp [marksC]
theorem marksC_get (k n i : Nat) (h : i < n) : (marksC k n).getD i (0, 0) = (mkB (k + i), 1065353216) := by simp [marksC, List.getD, h]
theorem ord32_self {x : Nat} (h : Fin1 x) : FloatKind.f32.format.order x x = some .eq := by
  obtain ⟨s, m, e, h1, -⟩ := h
  simp [Ieee.Format.order, h1, Ieee.Datum.order]

theorem run_store_cx (P : Program) (w : World) (a : Addr) (k : FloatKind) (x y : Nat) (m : Mode) : (store a (.complex k x y) m).run P w = stored P w a (.complex k x y) m := run_store P w a _ m rfl
attribute [local go_sem] run_store_cx
set_option maxRecDepth 20000 in
set_option maxHeartbeats 800000 in
theorem markC0 (lo hi : Nat) (v : Value) (xs : List (Nat × Nat)) (k0 : Nat) (w : World) (ho : OwnC w lo hi v xs) (hn : xs.length ≤ 1048576) (hk0 : k0 ≤ 1048576) :
    Calls Try.prog 22 #[v, .int .i64 k0] w fun e w' =>
      e = .returned (.int .i64 (k0 + xs.length : Nat)) ∧ OwnC w' lo hi v (marksC k0 xs.length) ∧ w.grownBy w' v.ownBlock := by
  obtain ⟨h1, h2⟩ := ho
  have h1' := h1
  rcases h1.2 with ⟨rfl, h0⟩ | ⟨g, cap, cur, rfl, hl, hg, hnc, hm, _⟩
  · have : xs = [] := List.eq_nil_of_length_eq_zero h0
    subst this
    go_enter Try.func22, Try.ntmps22
    go_wp2
    refine wp_loop_rounds 1 ?_
    rw [rounds_succ]
    go_wp2
    go_ret
    exact ⟨rfl, OwnC.nil _ _ _, World.grownBy.refl _ _⟩
  · generalize hN : xs.length = n at *
    have Hn := hide hN
    clear hN
    have H2 := hide h2
    clear h2
    clear h1
    go_enter Try.func22, Try.ntmps22
    go_wp2
    go_loopw [1, 5] (fun m i wr => ∃ k m0 : Nat, k ≤ n ∧ m0 = k0 + k ∧ i = .int .i64 k ∧ m = .int .i64 (m0 : Int) ∧ Hid (wr.ownsRow lo 57 1 (.slice (some ⟨g, 0, none⟩) n cap) n (cxv (marksC k0 k ++ xs.drop k))) ∧ Hid (w.grownBy wr (some g)))
      (fun _ i _ => n - (intOf i).toNat)
    case atStart => exact ⟨0, k0, Nat.zero_le _, rfl, rfl, rfl, hide (by simpa [marksC] using h1'), World.grownBy.refl _ _⟩
    case round =>
      obtain ⟨k, m0, hk, hm0, rfl, rfl, hB, hb⟩ := hrel
      by_cases hlt : k < n
      · have hc := hB.out.cellAt k (by omega)
        have hll : (marksC k0 k ++ xs.drop k).length = n := by rw [List.length_append, marksC_len, List.length_drop, Hn.out]; omega
        rw [cxv_get (by omega)] at hc
        have hf := hB.out.frozenAt k
        have hs := hB.out.stored k (.complex .f32 (mkB m0) 1065353216)
        have HS := hide hs
        have hmk := mk_conv (k := m0) (by omega)
        have Hm0 := hide hm0
        have hmb : m0 ≤ 2097152 := by omega
        clear hm0
        clear hs hll hg
        go_wp2
        go_roundw
        case rel =>
          refine ⟨k + 1, m0 + 1, by omega, by have := Hm0.out; omega, by go_num, by go_num, ?_, ?_⟩
          · have e : (cxv (marksC k0 k ++ xs.drop k)).set k (.complex .f32 (mkB m0) 1065353216) = cxv (marksC k0 (k + 1) ++ xs.drop (k + 1)) := by
              have e0 : Value.complex .f32 (mkB m0) 1065353216 = (fun p : Nat × Nat => Value.complex .f32 p.1 p.2) (mkB m0, 1065353216) := rfl
              rw [e0, Hm0.out, ← List.map_set, List.set_append, if_neg (by rw [marksC_len]; omega), marksC_len, Nat.sub_self]
              have : xs.drop k = xs.getD k (0, 0) :: xs.drop (k + 1) := by
                rw [List.drop_eq_getElem_cons (by rw [Hn.out]; exact hlt)]
                simp [List.getD, Hn.out, hlt]
              rw [this]
              simp [marksC, List.range_succ]
            have h := HS.out.1
            rw [e] at h
            exact h
          · exact hb.out.trans HS.out.2
        case measure => simp [intOf]; omega
      · have hkn : k = n := by omega
        subst hkn
        subst hm0
        go_wp2
        go_ret
        refine ⟨rfl, ⟨?_, fun j hj => ?_⟩, hb.out⟩
        · rw [marksC_len]
          have h := hB.out
          rw [List.drop_of_length_le (by rw [Hn.out]; exact Nat.le_refl _), List.append_nil] at h
          exact h
        · exact H2.out j hj
theorem markC (lo hi : Nat) (v : Value) (xs : List (Nat × Nat)) (k : Int) (k0 : Nat) (w : World) (hk : k = (k0 : Int)) (ho : OwnC w lo hi v xs) (hn : xs.length ≤ 1048576) (hk0 : k0 ≤ 1048576) :
    Calls Try.prog 22 #[v, .int .i64 k] w fun e w' =>
      e = .returned (.int .i64 (k + (xs.length : Int))) ∧ OwnC w' lo hi v (marksC k0 xs.length) ∧ w.grownBy w' v.ownBlock := by
  subst hk
  exact (markC0 lo hi v xs k0 w ho hn hk0).mono fun e w' ⟨h1, h2⟩ => ⟨by rw [h1]; simp, h2⟩

set_option maxRecDepth 20000 in
set_option maxHeartbeats 800000 in
theorem heldC0 (A : Option Addr) (n c k0 : Nat) (w : World) (hr : Rd w A n (cxv (marksC k0 n))) (hn : n ≤ 1048576) (hk0 : k0 ≤ 1048576) :
    Calls Try.prog 23 #[.slice A n c, .int .i64 k0] w fun e w' => e = .returned (.int .i64 (k0 + n : Nat)) ∧ w = w' := by
  have o1 : FloatKind.f32.format.order 1065353216 1065353216 = some .eq := by decide +kernel
  go_enter Try.func23, Try.ntmps23
  go_wp2
  go_loop [1, 5] (fun m i => ∃ k m0 : Nat, k ≤ n ∧ m0 = k0 + k ∧ i = .int .i64 k ∧ m = .int .i64 (m0 : Int)) (fun _ i => n - (intOf i).toNat)
  case atStart => exact ⟨0, k0, Nat.zero_le _, rfl, rfl, rfl⟩
  case round =>
    obtain ⟨k, m0, hk, hm0, rfl, rfl⟩ := hrel
    by_cases hlt : k < n
    · obtain ⟨ad, rfl, hbl, hc⟩ := hr.cx hlt
      rw [marksC_get _ _ _ hlt, ← hm0] at hc
      dsimp only at hc
      have hmk := mk_conv (k := m0) (by omega)
      have o2 := ord32_self (mk_ok (k := m0) (by omega)).2
      have Hm0 := hide hm0
      have hmb : m0 ≤ 2097152 := by omega
      clear hm0
      have g1 : (0 : Int) ≤ (k : Int) := by omega
      have g2 : (k : Int) < (n : Int) := by omega
      go_wp2
      go_round
      case rel => exact ⟨k + 1, m0 + 1, by omega, by have := Hm0.out; omega, by go_num, by go_num⟩
      case measure => simp [intOf]; omega
    · have hkn : k = n := by omega
      subst hkn
      subst hm0
      go_wp2
      go_ret
      exact ⟨rfl, rfl⟩
theorem heldC (v : Value) (n : Nat) (k : Int) (k0 : Nat) (w : World) (hk : k = (k0 : Int)) (hr : RVC w v (marksC k0 n)) (hn : n ≤ 1048576) (hk0 : k0 ≤ 1048576) :
    Calls Try.prog 23 #[v, .int .i64 k] w fun e w' => e = .returned (.int .i64 (k + (n : Int))) ∧ w = w' := by
  obtain ⟨A, c, rfl, hr, _⟩ := hr
  subst hk
  rw [marksC_len] at hr ⊢
  exact (heldC0 A n c k0 w hr hn hk0).mono fun e w' ⟨h1, h2⟩ => ⟨by rw [h1]; simp, h2⟩
end Go.Proofs.Ytjeaiihgedennaa
