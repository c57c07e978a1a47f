/- The sum of the powers of a number with a die's faces as exponents, both sides. Conditions: what is stated. -/
import Derived.Test.YtjeaiihgedennaaCMul
import Derived.Test.YtjeaiihgedennaaSumM
namespace Go.Proofs.Ytjeaiihgedennaa
open Go.ChangeShapes Go.WideShapes Go.ChangeAt Go.RowKit

/-- powers of (c, d) -/
def pw (c d : Nat) : Nat → Nat × Nat
  | 0 => (1065353216, 0)
  | i + 1 => (cvB (mR (pw c d i).1 (pw c d i).2 c d), cvB (mI (pw c d i).1 (pw c d i).2 c d))
/-- bounds of the powers, in 64ths -/
def TB : Nat → Nat
  | 0 => 64
  | i + 1 => (TB i * 112 + 63) / 64
theorem TB_le (i : Nat) (h : i ≤ 20) : TB i ≤ 4992000 := by
  have hall : (List.range 21).all (fun i => decide (TB i ≤ 4992000)) = true := by decide +kernel
  exact of_decide_eq_true (List.all_eq_true.1 hall i (List.mem_range.2 (by omega)))
/-- (c, d) is of norm at most 7/4 -/
def GoodZ (c d : Nat) : Prop := ∃ n1 n2, n1 + n2 ≤ 112 ∧ Bd .f32 false c n1 (-6) ∧ Bd .f32 false d n2 (-6)
theorem rd32_0 : FloatKind.f32.format.read 0 = .number false 0 (-149) := by decide +kernel
theorem rd32_1 : FloatKind.f32.format.read 1065353216 = .number false 8388608 (-23) := by decide +kernel
theorem b32_0 (n : Nat) (t : Int) : Bd .f32 false 0 n t := ⟨false, _, _, rd32_0, by simp, by decide, by simp⟩
theorem pw_step {c d i : Nat} (hz : GoodZ c d) (hi : i < 20) (h1 : Bd .f32 false (pw c d i).1 (TB i) (-6)) (h2 : Bd .f32 false (pw c d i).2 (TB i) (-6)) :
    MulF (pw c d i).1 (pw c d i).2 c d ∧ Bd .f32 false (pw c d (i + 1)).1 (TB (i + 1)) (-6) ∧ Bd .f32 false (pw c d (i + 1)).2 (TB (i + 1)) (-6) := by
  obtain ⟨n1, n2, hs, hc, hd⟩ := hz
  have hT := TB_le i (by omega)
  have hT1 := TB_le (i + 1) (by omega)
  have hTs : TB (i + 1) = (TB i * 112 + 63) / 64 := rfl
  have m1 : TB i * n1 ≤ 4992000 * 112 := Nat.mul_le_mul hT (by omega)
  have m2 : TB i * n2 ≤ 4992000 * 112 := Nat.mul_le_mul hT (by omega)
  have m3 : TB i * (n1 + n2) ≤ TB i * 112 := Nat.mul_le_mul_left _ hs
  have m4 : TB i * 112 ≤ 4992000 * 112 := Nat.mul_le_mul_right _ hT
  generalize TB (i + 1) = T1 at *
  exact mul_ok T1 (-6) h1 h2 hc hd (by decide) (decide_eq_true (by omega)) (decide_eq_true (by omega)) (decide_eq_true (by omega)) (decide_eq_true (by omega)) (decide_eq_true (by omega)) (decide_eq_true (by omega)) (decide_eq_true (by omega)) (by
    unfold leB
    rw [if_pos (by decide)]
    simp
    omega)
theorem pw_bd {c d : Nat} (hz : GoodZ c d) (i : Nat) (hi : i ≤ 20) : Bd .f32 false (pw c d i).1 (TB i) (-6) ∧ Bd .f32 false (pw c d i).2 (TB i) (-6) := by
  induction i with
  | zero => exact ⟨⟨false, _, _, rd32_1, leB_sc (by decide) (by decide) (by decide), by decide, by simp⟩, b32_0 _ _⟩
  | succ i ih =>
    obtain ⟨h1, h2⟩ := ih (by omega)
    exact (pw_step hz (by omega) h1 h2).2
theorem pw_mul {c d : Nat} (hz : GoodZ c d) (i : Nat) (hi : i < 20) : MulF (pw c d i).1 (pw c d i).2 c d :=
  (pw_step hz hi (pw_bd hz i (by omega)).1 (pw_bd hz i (by omega)).2).1
/-- the sum of the first i powers -/
def sm (c d : Nat) (fs : List Int) : Nat → Nat × Nat
  | 0 => (0, 0)
  | i + 1 => (aB (sm c d fs i).1 (pw c d (fs.getD i 0).toNat).1, aB (sm c d fs i).2 (pw c d (fs.getD i 0).toNat).2)
theorem sm_step {c d i : Nat} {fs : List Int} (hz : GoodZ c d) (hi : i < 12) (hf : (fs.getD i 0).toNat ≤ 20) (h1 : Bd .f32 false (sm c d fs i).1 (78000 * i) 0) (h2 : Bd .f32 false (sm c d fs i).2 (78000 * i) 0) :
    (floatBits .add .f32 (sm c d fs i).1 (pw c d (fs.getD i 0).toNat).1 = some (sm c d fs (i + 1)).1 ∧ floatBits .add .f32 (sm c d fs i).2 (pw c d (fs.getD i 0).toNat).2 = some (sm c d fs (i + 1)).2) ∧
    Bd .f32 false (sm c d fs (i + 1)).1 (78000 * (i + 1)) 0 ∧ Bd .f32 false (sm c d fs (i + 1)).2 (78000 * (i + 1)) 0 := by
  obtain ⟨p1, p2⟩ := pw_bd hz _ hf
  have hT := TB_le _ hf
  have hw : leB (TB (fs.getD i 0).toNat) (-6) 78000 0 = true := by
    generalize TB (fs.getD i 0).toNat = T at *
    unfold leB
    rw [if_pos (by decide)]
    simp
    omega
  have p1 := p1.weak (by decide) (by decide) hw
  have p2 := p2.weak (by decide) (by decide) hw
  have hf0 : ∀ N, N < 16777216 → fits .f32 N 0 = true := fun N h => decide_eq_true ⟨h, by decide, by decide⟩
  have hff := hf0 (78000 * i + 78000) (by omega)
  obtain ⟨a1, a2⟩ := aB_bd h1 p1 (by decide) hff
  obtain ⟨b1, b2⟩ := aB_bd h2 p2 (by decide) hff
  exact ⟨⟨a1, b1⟩, a2, b2⟩
theorem sm_bd {c d : Nat} {fs : List Int} (hz : GoodZ c d) (hl : fs.length ≤ 12) (hf : ∀ i, i < fs.length → (fs.getD i 0).toNat ≤ 20) (i : Nat) (hi : i ≤ fs.length) : Bd .f32 false (sm c d fs i).1 (78000 * i) 0 ∧ Bd .f32 false (sm c d fs i).2 (78000 * i) 0 := by
  induction i with
  | zero => exact ⟨b32_0 _ _, b32_0 _ _⟩
  | succ i ih =>
    obtain ⟨h1, h2⟩ := ih (by omega)
    exact (sm_step hz (by omega) (hf i (by omega)) h1 h2).2
/-- all that a walk wants of a die and a number -/
structure AtF (c d : Nat) (fs : List Int) (n : Nat) (P S : Nat → Nat × Nat) (fa : Nat → Nat) : Prop where
  n12 : n ≤ 12
  fa0 : fa 0 = 0
  fai : ∀ i, i < n → fs.getD i 0 = ((fa (i + 1) : Nat) : Int)
  f20 : ∀ i, fa i ≤ 20
  mono : ∀ i, i < n → fa i ≤ fa (i + 1)
  p0 : P 0 = (1065353216, 0)
  s0 : S 0 = (0, 0)
  sm : ∀ a, a < 20 → ∀ W, Calls Try.prog 40 #[.complex .f32 (P a).1 (P a).2, .complex .f32 c d] W fun e w' => e = .returned (.complex .f32 (P (a + 1)).1 (P (a + 1)).2) ∧ W = w'
  im : ∀ a, a < 20 → ∀ W, Calls Try.prog 46 #[.complex .f32 (P a).1 (P a).2, .complex .f32 c d] W fun e w' => e = .returned (.complex .f32 (P (a + 1)).1 (P (a + 1)).2) ∧ W = w'
  sa : ∀ i, i < n → ∀ W : World, (binOp .add 57 (.complex .f32 (S i).1 (S i).2) (.complex .f32 (P (fa (i + 1))).1 (P (fa (i + 1))).2)).run Try.prog W = .ok (.complex .f32 (S (i + 1)).1 (S (i + 1)).2) W
  ia : ∀ i, i < n → ∀ W, Calls Try.prog 71 #[.complex .f32 (S i).1 (S i).2, .complex .f32 (P (fa (i + 1))).1 (P (fa (i + 1))).2] W fun e w' => e = .returned (.complex .f32 (S (i + 1)).1 (S (i + 1)).2) ∧ W = w'
theorem at_facts {c d : Nat} {fs : List Int} (hz : GoodZ c d) (hd : dieB fs = true) : ∃ fa, AtF c d fs fs.length (pw c d) (sm c d fs) fa := by
  have hl := dieB_len hd
  have hin := fun i (h : i < fs.length) => die_in hd h
  have hf : ∀ i, i < fs.length → (fs.getD i 0).toNat ≤ 20 := fun i h => by have := hin i h; omega
  have st := fun i (h : i < fs.length) => sm_step hz (by omega) (hf i h) (sm_bd hz hl.2 hf i (by omega)).1 (sm_bd hz hl.2 hf i (by omega)).2
  refine ⟨fun i => match i with | 0 => 0 | i + 1 => if i < fs.length then (fs.getD i 0).toNat else 0, ⟨hl.2, rfl, fun i h => ?_, fun i => ?_, fun i h => ?_, rfl, rfl, fun a h W => sMul _ _ _ _ (pw_mul hz a h) W, fun a h W => iMul _ _ _ _ (pw_mul hz a h) W, fun i h W => ?_, fun i h W => ?_⟩⟩
  · have := hin i h
    simp only [h, if_true]
    omega
  · cases i with
    | zero => exact Nat.zero_le _
    | succ i =>
      dsimp only
      split
      · rename_i h; exact hf i h
      · exact Nat.zero_le _
  · cases i with
    | zero => exact Nat.zero_le _
    | succ i =>
      have := die_mono hd (i := i) (j := i + 1) (by omega) h
      simp only [h, if_true, show i < fs.length by omega]
      omega
  · simp only [h, if_true]
    exact csum (st i h).1.1 (st i h).1.2 W
  · simp only [h, if_true]
    exact iPlus _ _ _ _ _ _ (st i h).1.1 (st i h).1.2 W
theorem pair_eta (p : Nat × Nat) : (p.1, p.2) = p := rfl

set_option maxRecDepth 10000 in
set_option maxHeartbeats 1600000 in
theorem sAt0 (p : Addr) (A : Option Addr) (n cc c d : Nat) (fs : List Int) (P S : Nat → Nat × Nat) (fa : Nat → Nat) (w : World) (hp : w.cell? p = some (.slice A n cc)) (hr : Rd w A n (iv fs)) (hF : AtF c d fs n P S fa) :
    Calls Try.prog 41 #[.pointer (some p), .complex .f32 c d] w fun e w' => e = .returned (.complex .f32 (S n).1 (S n).2) ∧ w = w' := by
  have HF := hide hF
  clear hF
  go_enter Try.func41, Try.ntmps41
  go_wp2
  go_loopw [5, 6, 7, 14] (fun t5 t6 t7 t14 wr => ∃ i : Nat, i ≤ n ∧ t14 = .int .i64 (i : Int) ∧ t5 = .complex .f32 (S i).1 (S i).2 ∧ t6 = .complex .f32 (P (fa i)).1 (P (fa i)).2 ∧ t7 = .int .i64 ((fa i : Nat) : Int) ∧ wr = w) (fun _ _ _ t14 _ => n - (intOf t14).toNat)
  case atStart => exact ⟨0, Nat.zero_le _, rfl, by rw [HF.out.s0], by rw [HF.out.fa0, HF.out.p0], by rw [HF.out.fa0]; rfl, rfl⟩
  case round =>
    obtain ⟨i, hi, rfl, rfl, rfl, rfl, rfl⟩ := hrel
    have hn12 := HF.out.n12
    by_cases hlt : i < n
    · obtain ⟨ad, rfl, hbl, hc⟩ := hr.int hlt
      have hfi := HF.out.fai i hlt
      rw [hfi] at hc
      have h20 := HF.out.f20 (i + 1)
      have hm := HF.out.mono i hlt
      have hsa := HF.out.sa i hlt
      have f1 : (0 : Int) ≤ (i : Int) := by omega
      have f2 : (i : Int) < (n : Int) := by omega
      clear hfi
      go_wp2
      go_loopw [6, 7] (fun t6 t7 w2 => ∃ a : Nat, a ≤ fa (i + 1) ∧ t6 = .complex .f32 (P a).1 (P a).2 ∧ t7 = .int .i64 (a : Int) ∧ w2 = wr) (fun _ t7 _ => 20 - (intOf t7).toNat)
      case atStart => exact ⟨fa i, hm, rfl, rfl, rfl⟩
      case round =>
        obtain ⟨a, ha, rfl, rfl, rfl⟩ := hrel
        by_cases hal : a < fa (i + 1)
        · have HM := Lib.hid (HF.out.sm a (by omega))
          have g1 : ((a : Nat) : Int) < ((fa (i + 1) : Nat) : Int) := by omega
          clear hsa
          go_wp2_with (go_at_call 40; refine (HM.out _).mono ?_; rintro e w' ⟨rfl, rfl⟩)
          go_roundw
          case rel => exact ⟨a + 1, by omega, rfl, by go_num, trivial⟩
          case measure => simp [intOf]; omega
        · obtain rfl : a = fa (i + 1) := by omega
          go_wp2
          go_roundw
          case rel => exact ⟨i + 1, by omega, by go_num, rfl, rfl, rfl, trivial⟩
          case measure => simp [intOf]; omega
    · obtain rfl : i = n := by omega
      go_wp2
      go_ret
      exact ⟨rfl, rfl⟩

set_option maxRecDepth 10000 in
set_option maxHeartbeats 1600000 in
theorem iAt0 (A : Option Addr) (n cc c d : Nat) (fs : List Int) (P S : Nat → Nat × Nat) (fa : Nat → Nat) (w : World) (hr0 : Rd w A n (iv fs)) (hF : AtF c d fs n P S fa) :
    Calls Try.prog 47 #[.agg #[.slice A n cc], .complex .f32 c d] w fun e w' => e = .returned (.complex .f32 (S n).1 (S n).2) ∧ Below w.heap.size w w' := by
  have HF := hide hF
  have hcell : (w.alloc (.cells #[.slice A n cc] 62)).cell? ⟨w.heap.size, 0, none⟩ = some (.slice A n cc) := by
    rw [World.cell?_alloc_at _ _ _ _ rfl]; rfl
  have hr := hr0.alloc (.cells #[.slice A n cc] 62)
  have hbW : Below w.heap.size w (w.alloc (.cells #[.slice A n cc] 62)) := (Below.refl _ _).alloc (Nat.le_refl _) _
  have HbW := hide hbW
  clear hF hr0 hbW
  go_enter Try.func47, Try.ntmps47
  go_wp2
  generalize w.alloc (.cells #[.slice A n cc] 62) = W at *
  go_loopw [5, 12] (fun t5 t12 wr => ∃ i : Nat, i ≤ n ∧ t12 = .int .i64 (i : Int) ∧ t5 = .complex .f32 (S i).1 (S i).2 ∧ wr = W) (fun _ t12 _ => n - (intOf t12).toNat)
  case atStart => exact ⟨0, Nat.zero_le _, rfl, by rw [HF.out.s0], rfl⟩
  case round =>
    obtain ⟨i, hi, rfl, rfl, rfl⟩ := hrel
    have hn12 := HF.out.n12
    by_cases hlt : i < n
    · obtain ⟨ad, rfl, hbl, hc⟩ := hr.int hlt
      have hfi := HF.out.fai i hlt
      rw [hfi] at hc
      have h20 := HF.out.f20 (i + 1)
      have hm := HF.out.mono i hlt
      have f1 : (0 : Int) ≤ (i : Int) := by omega
      have f2 : (i : Int) < (n : Int) := by omega
      clear hfi hcell
      go_wp2
      go_loopw [8, 17] (fun t8 t17 w2 => ∃ a : Nat, a ≤ fa (i + 1) ∧ t8 = .complex .f32 (P a).1 (P a).2 ∧ t17 = .int .i64 (a : Int) ∧ w2 = wr) (fun _ t17 _ => 20 - (intOf t17).toNat)
      case atStart => exact ⟨0, Nat.zero_le _, by rw [HF.out.p0], rfl, rfl⟩
      case round =>
        obtain ⟨a, ha, rfl, rfl, rfl⟩ := hrel
        by_cases hal : a < fa (i + 1)
        · have HM := Lib.hid (HF.out.im a (by omega))
          have g1 : ((a : Nat) : Int) < ((fa (i + 1) : Nat) : Int) := by omega
          go_wp2_with (go_at_call 46; refine (HM.out _).mono ?_; rintro e w' ⟨rfl, rfl⟩)
          go_roundw
          case rel => exact ⟨a + 1, by omega, rfl, by go_num, trivial⟩
          case measure => simp [intOf]; omega
        · obtain rfl : a = fa (i + 1) := by omega
          have HA := Lib.hid (HF.out.ia i hlt)
          go_wp2_with (go_at_call 71; refine (HA.out _).mono ?_; rintro e w' ⟨rfl, rfl⟩)
          go_roundw
          case rel => exact ⟨i + 1, by omega, by go_num, rfl, trivial⟩
          case measure => simp [intOf]; omega
    · obtain rfl : i = n := by omega
      go_wp2
      go_ret
      exact ⟨rfl, HbW.out⟩
end Go.Proofs.Ytjeaiihgedennaa
