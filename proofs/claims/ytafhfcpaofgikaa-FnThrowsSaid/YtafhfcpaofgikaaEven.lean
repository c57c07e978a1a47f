/- Contracts of EvenThrows, both sides. Conditions: lengths at most 2^20. -/
import Derived.Test.YtafhfcpaofgikaaThrows
import Derived.Test.YtafhfcpaofgikaaGcd5
import Derived.StillTailTactics
namespace Go.Proofs.Ytafhfcpaofgikaa
open Go.ChangeShapes Go.WideShapes Go.ChangeAt Go.RowKit

def evG (xs : List Int) : Nat := Nat.gcd (xs.getD 5 0).toNat (Nat.gcd (xs.getD 6 0).toNat (xs.getD 1 0).toNat)
def evOk (xs : List Int) : Bool := decide (thrN xs = 3) && (decide (1 ≤ xs.getD 1 0) && (decide (1 ≤ xs.getD 5 0) && decide (1 ≤ xs.getD 6 0)))
def REvenThrows (xs : List Int) : List Int × Bool := if evOk xs = true then ([(((xs.getD 5 0).toNat / evG xs : Nat) : Int), (((xs.getD 6 0).toNat / evG xs : Nat) : Int), (((xs.getD 1 0).toNat / evG xs : Nat) : Int)], true) else ([], false)
theorem REvenThrows_len0 (xs : List Int) : (REvenThrows xs).1.length ≤ 1048576 := by
  unfold REvenThrows
  split <;> simp
theorem thrN_3 {xs : List Int} (h : thrN xs = 3) : xs.length = 9 ∧ ∀ k, k < 9 → -9 ≤ xs.getD k 0 ∧ xs.getD k 0 ≤ 9 := by
  have hs : sideOf xs.length = 3 := by
    unfold thrN at h
    split at h
    · exact h
    · omega
  have hl : xs.length = 9 := by
    have := side_of xs.length
    rw [hs] at this
    omega
  refine ⟨hl, fun k hk => ?_⟩
  unfold thrN at h
  split at h
  · rename_i hall
    rw [hs] at hall
    have hb := hall (k / 3) (by omega) (k % 3) (by omega)
    unfold thBad at hb
    rw [show k / 3 * 3 + k % 3 = k by omega] at hb
    cases hq : inB (xs.getD k 0) (-9) 9 with
    | true => exact inB_iff.1 hq
    | false => rw [hq] at hb; cases hb
  · omega

set_option maxHeartbeats 1600000 in
theorem sEvenThrows (v : Value) (xs : List Int) (w : World) (hv : RV w v xs) (hn : xs.length ≤ 1048576) :
    Calls Try.prog 19 #[v] w fun e w' => ∃ r, e = .returned (.tuple #[r, .bool (REvenThrows xs).2]) ∧ Own w' w.heap.size w'.heap.size r (REvenThrows xs).1 ∧ Below w.heap.size w w' := by
  obtain ⟨A, cp, rfl, hr, hcc⟩ := hv
  have HT := Lib.hid (sThrows A xs.length cp xs w hr hn)
  by_cases hT : thrN xs = 3
  · obtain ⟨hl, hb⟩ := thrN_3 hT
    rw [hT] at HT
    have h1 := hb 1 (by omega)
    have h5 := hb 5 (by omega)
    have h6 := hb 6 (by omega)
    rw [hl] at hr HT hcc ⊢
    obtain ⟨ad, rfl, hbl, hc1⟩ := hr.int (k := 1) (by omega)
    obtain ⟨ad', e', _, hc5⟩ := hr.int (k := 5) (by omega)
    cases e'
    obtain ⟨ad', e', _, hc6⟩ := hr.int (k := 6) (by omega)
    cases e'
    have HR : Hid (REvenThrows xs = if evOk xs = true then ([(((xs.getD 5 0).toNat / evG xs : Nat) : Int), (((xs.getD 6 0).toNat / evG xs : Nat) : Int), (((xs.getD 1 0).toNat / evG xs : Nat) : Int)], true) else ([], false)) := hide rfl
    have HO : Hid (evOk xs = (decide (1 ≤ xs.getD 1 0) && (decide (1 ≤ xs.getD 5 0) && decide (1 ≤ xs.getD 6 0)))) := hide (by rw [evOk, hT]; rfl)
    have HG : Hid (evG xs = Nat.gcd (xs.getD 5 0).toNat (Nat.gcd (xs.getD 6 0).toNat (xs.getD 1 0).toNat)) := hide rfl
    generalize REvenThrows xs = R at *
    generalize evOk xs = ok at *
    generalize evG xs = G at *
    generalize xs.getD 1 0 = c at *
    generalize xs.getD 5 0 = a at *
    generalize xs.getD 6 0 = b at *
    obtain ⟨h1l, h1h⟩ := h1
    obtain ⟨h5l, h5h⟩ := h5
    obtain ⟨h6l, h6h⟩ := h6
    have hc1 : w.cell? ⟨ad.block, ad.off + 1, none⟩ = some (.int .i64 c) := hc1
    have hc5 : w.cell? ⟨ad.block, ad.off + 5, none⟩ = some (.int .i64 a) := hc5
    have hc6 : w.cell? ⟨ad.block, ad.off + 6, none⟩ = some (.int .i64 b) := hc6
    clear hb hT hl
    by_cases q1 : c < 1
    · have HR2 : Hid (R = ([], false)) := hide (by rw [HR.out, HO.out, decide_eq_false (show ¬ 1 ≤ c by omega)]; rfl)
      go_enter Try.func19, Try.ntmps19
      go_wp2_with (go_at_call 37; refine HT.out.mono ?_; rintro e w' ⟨rfl, q, rfl⟩)
      go_ret2
      rw [HR2.out]
      exact ⟨_, rfl, Own.nil _ _ _, below_drewN (Below.refl _ _) _⟩
    by_cases q5 : a < 1
    · have HR2 : Hid (R = ([], false)) := hide (by rw [HR.out, HO.out, decide_eq_false (show ¬ 1 ≤ a by omega)]; simp)
      go_enter Try.func19, Try.ntmps19
      go_wp2_with (go_at_call 37; refine HT.out.mono ?_; rintro e w' ⟨rfl, q, rfl⟩)
      go_ret2
      rw [HR2.out]
      exact ⟨_, rfl, Own.nil _ _ _, below_drewN (Below.refl _ _) _⟩
    by_cases q6 : b < 1
    · have HR2 : Hid (R = ([], false)) := hide (by rw [HR.out, HO.out, decide_eq_false (show ¬ 1 ≤ b by omega)]; simp)
      go_enter Try.func19, Try.ntmps19
      go_wp2_with (go_at_call 37; refine HT.out.mono ?_; rintro e w' ⟨rfl, q, rfl⟩)
      go_ret2
      rw [HR2.out]
      exact ⟨_, rfl, Own.nil _ _ _, below_drewN (Below.refl _ _) _⟩
    obtain ⟨a, rfl⟩ := Int.eq_ofNat_of_zero_le (show 0 ≤ a by omega)
    obtain ⟨b, rfl⟩ := Int.eq_ofNat_of_zero_le (show 0 ≤ b by omega)
    obtain ⟨c, rfl⟩ := Int.eq_ofNat_of_zero_le (show 0 ≤ c by omega)
    have HR2 : Hid (R = ([((a / G : Nat) : Int), ((b / G : Nat) : Int), ((c / G : Nat) : Int)], true)) := hide (by
      rw [HR.out, if_pos (by rw [HO.out, decide_eq_true (show 1 ≤ (c : Int) by omega), decide_eq_true (show 1 ≤ (a : Int) by omega), decide_eq_true (show 1 ≤ (b : Int) by omega)]; rfl)]
      rfl)
    have hG : G = Nat.gcd (Nat.gcd a b) c := by rw [HG.out, Nat.gcd_assoc]; rfl
    have hG1 : 0 < G := by rw [hG]; exact Nat.gcd_pos_of_pos_right _ (by omega)
    have hga : Nat.gcd a b ≤ 9 := Nat.le_trans (Nat.gcd_le_left b (by omega)) (by omega)
    have HG1 := Lib.hid (fun W => sGcd a b W (by omega) (by omega))
    have HG2 := Lib.hid (fun W => sGcd (Nat.gcd a b) c W (by omega) (by omega))
    rw [← hG] at HG2
    clear hG HR HO HG
    generalize Nat.gcd a b = g1 at *
    go_enter Try.func19, Try.ntmps19
    go_wp2_with (go_at_call 37; refine HT.out.mono ?_; rintro e w' ⟨rfl, q, rfl⟩)
    go_quiet ((first | (go_at_call 38; with_reducible refine (HG1.out _).mono ?_; rintro e w' ⟨rfl, rfl⟩; exact ⟨rfl, _, rfl⟩) | (go_at_call 38; with_reducible refine (HG2.out _).mono ?_; rintro e w' ⟨rfl, rfl⟩; exact ⟨rfl, _, rfl⟩)))
    go_wp2
    have d1 : ((w.drewN q).drewN nq).cell? ⟨ad.block, ad.off + 1, none⟩ = some (.int .i64 c) := hc1
    have d5 : ((w.drewN q).drewN nq).cell? ⟨ad.block, ad.off + 5, none⟩ = some (.int .i64 a) := hc5
    have d6 : ((w.drewN q).drewN nq).cell? ⟨ad.block, ad.off + 6, none⟩ = some (.int .i64 b) := hc6
    have hbW : Below w.heap.size w ((w.drewN q).drewN nq) := below_drewN (below_drewN (Below.refl _ _) _) _
    have HbW := hide hbW
    clear hbW
    have hG0 : ¬ G = 0 := by omega
    have ea : IntKind.i64.wrap ((a : Int) / (G : Int)) = ((a / G : Nat) : Int) := by
      rw [show (a : Int) / (G : Int) = ((a / G : Nat) : Int) from (Int.natCast_ediv a G).symm]
      exact IntWalk.i64_in _ (by have := Nat.div_le_self a G; generalize a / G = x at *; omega)
    have eb : IntKind.i64.wrap ((b : Int) / (G : Int)) = ((b / G : Nat) : Int) := by
      rw [show (b : Int) / (G : Int) = ((b / G : Nat) : Int) from (Int.natCast_ediv b G).symm]
      exact IntWalk.i64_in _ (by have := Nat.div_le_self b G; generalize b / G = x at *; omega)
    have ec : IntKind.i64.wrap ((c : Int) / (G : Int)) = ((c / G : Nat) : Int) := by
      rw [show (c : Int) / (G : Int) = ((c / G : Nat) : Int) from (Int.natCast_ediv c G).symm]
      exact IntWalk.i64_in _ (by have := Nat.div_le_self c G; generalize c / G = x at *; omega)
    generalize a / G = xa at *
    generalize b / G = xb at *
    generalize c / G = xc at *
    generalize (w.drewN q).drewN nq = W at *
    go_still_tail 15, (by kernel_rfl)
    change wpList _ _ _ _ _ W.drew
    go_wp2
    go_ret2
    rw [HR2.out]
    refine ⟨_, rfl, ?_, ?_⟩
    · have h := (Bk.new W.drew 2 (iv [(xa : Int), (xb : Int), (xc : Int)])).owned (lo := w.heap.size) HbW.out.size (by simp [maxLen])
      exact h
    · exact (HbW.out.drew).alloc HbW.out.size _
  · rw [show REvenThrows xs = ([], false) from by rw [REvenThrows, if_neg (by simp [evOk, hT])]]
    have hT2 : ((thrN xs : Nat) : Int) ≠ 3 := by omega
    generalize thrN xs = T at *
    generalize xs.length = N at *
    go_enter Try.func19, Try.ntmps19
    go_wp2_with (go_at_call 37; refine HT.out.mono ?_; rintro e w' ⟨rfl, q, rfl⟩)
    go_ret2
    exact ⟨_, rfl, Own.nil _ _ _, below_drewN (Below.refl _ _) _⟩

set_option maxHeartbeats 1600000 in
theorem iEvenThrows (v : Value) (xs : List Int) (w : World) (hv : RV w v xs) (hn : xs.length ≤ 1048576) :
    Calls Try.prog 20 #[v] w fun e w' => ∃ r, e = .returned (.tuple #[r, .bool (REvenThrows xs).2]) ∧ Own w' w.heap.size w'.heap.size r (REvenThrows xs).1 ∧ Below w.heap.size w w' := by
  obtain ⟨A, cp, rfl, hr, hcc⟩ := hv
  have HT := Lib.hid (iThrows A xs.length cp xs w hr hn)
  by_cases hT : thrN xs = 3
  · obtain ⟨hl, hb⟩ := thrN_3 hT
    rw [hT] at HT
    have h1 := hb 1 (by omega)
    have h5 := hb 5 (by omega)
    have h6 := hb 6 (by omega)
    rw [hl] at hr HT hcc ⊢
    obtain ⟨ad, rfl, hbl, hc1⟩ := hr.int (k := 1) (by omega)
    obtain ⟨ad', e', _, hc5⟩ := hr.int (k := 5) (by omega)
    cases e'
    obtain ⟨ad', e', _, hc6⟩ := hr.int (k := 6) (by omega)
    cases e'
    have HR : Hid (REvenThrows xs = if evOk xs = true then ([(((xs.getD 5 0).toNat / evG xs : Nat) : Int), (((xs.getD 6 0).toNat / evG xs : Nat) : Int), (((xs.getD 1 0).toNat / evG xs : Nat) : Int)], true) else ([], false)) := hide rfl
    have HO : Hid (evOk xs = (decide (1 ≤ xs.getD 1 0) && (decide (1 ≤ xs.getD 5 0) && decide (1 ≤ xs.getD 6 0)))) := hide (by rw [evOk, hT]; rfl)
    have HG : Hid (evG xs = Nat.gcd (xs.getD 5 0).toNat (Nat.gcd (xs.getD 6 0).toNat (xs.getD 1 0).toNat)) := hide rfl
    generalize REvenThrows xs = R at *
    generalize evOk xs = ok at *
    generalize evG xs = G at *
    generalize xs.getD 1 0 = c at *
    generalize xs.getD 5 0 = a at *
    generalize xs.getD 6 0 = b at *
    obtain ⟨h1l, h1h⟩ := h1
    obtain ⟨h5l, h5h⟩ := h5
    obtain ⟨h6l, h6h⟩ := h6
    have hc1 : w.cell? ⟨ad.block, ad.off + 1, none⟩ = some (.int .i64 c) := hc1
    have hc5 : w.cell? ⟨ad.block, ad.off + 5, none⟩ = some (.int .i64 a) := hc5
    have hc6 : w.cell? ⟨ad.block, ad.off + 6, none⟩ = some (.int .i64 b) := hc6
    clear hb hT hl
    by_cases q5 : a ≤ 0
    · have HR2 : Hid (R = ([], false)) := hide (by rw [HR.out, HO.out, decide_eq_false (show ¬ 1 ≤ a by omega)]; simp)
      go_enter Try.func20, Try.ntmps20
      go_wp2_with (go_at_call 39; refine HT.out.mono ?_; rintro e w' ⟨rfl, q, rfl⟩)
      go_quiet (fail)
      go_wp2
      go_ret2
      rw [HR2.out]
      exact ⟨_, rfl, Own.nil _ _ _, by repeat (first | exact Below.refl _ _ | refine below_drewN ?_ _)⟩
    by_cases q6 : b ≤ 0
    · have HR2 : Hid (R = ([], false)) := hide (by rw [HR.out, HO.out, decide_eq_false (show ¬ 1 ≤ b by omega)]; simp)
      go_enter Try.func20, Try.ntmps20
      go_wp2_with (go_at_call 39; refine HT.out.mono ?_; rintro e w' ⟨rfl, q, rfl⟩)
      go_quiet (fail)
      go_wp2
      go_ret2
      rw [HR2.out]
      exact ⟨_, rfl, Own.nil _ _ _, by repeat (first | exact Below.refl _ _ | refine below_drewN ?_ _)⟩
    by_cases q1 : c ≤ 0
    · have HR2 : Hid (R = ([], false)) := hide (by rw [HR.out, HO.out, decide_eq_false (show ¬ 1 ≤ c by omega)]; rfl)
      go_enter Try.func20, Try.ntmps20
      go_wp2_with (go_at_call 39; refine HT.out.mono ?_; rintro e w' ⟨rfl, q, rfl⟩)
      go_quiet (fail)
      go_wp2
      go_ret2
      rw [HR2.out]
      exact ⟨_, rfl, Own.nil _ _ _, by repeat (first | exact Below.refl _ _ | refine below_drewN ?_ _)⟩
    obtain ⟨a, rfl⟩ := Int.eq_ofNat_of_zero_le (show 0 ≤ a by omega)
    obtain ⟨b, rfl⟩ := Int.eq_ofNat_of_zero_le (show 0 ≤ b by omega)
    obtain ⟨c, rfl⟩ := Int.eq_ofNat_of_zero_le (show 0 ≤ c by omega)
    have HR2 : Hid (R = ([((a / G : Nat) : Int), ((b / G : Nat) : Int), ((c / G : Nat) : Int)], true)) := hide (by
      rw [HR.out, if_pos (by rw [HO.out, decide_eq_true (show 1 ≤ (c : Int) by omega), decide_eq_true (show 1 ≤ (a : Int) by omega), decide_eq_true (show 1 ≤ (b : Int) by omega)]; rfl)]
      rfl)
    have hG : G = Nat.gcd a (Nat.gcd b c) := by rw [HG.out]; rfl
    have hG1 : 0 < G := by rw [hG]; exact Nat.gcd_pos_of_pos_left _ (by omega)
    have hgb : Nat.gcd b c ≤ 9 := Nat.le_trans (Nat.gcd_le_left c (by omega)) (by omega)
    have HG1 := Lib.hid (fun W => iGcd b c W (by omega) (by omega))
    have HG2 := Lib.hid (fun W => iGcd a (Nat.gcd b c) W (by omega) (by omega))
    rw [← hG] at HG2
    clear hG HR HO HG
    generalize Nat.gcd b c = g1 at *
    have hG0 : ¬ G = 0 := by omega
    have ea : IntKind.i64.wrap ((a : Int) / (G : Int)) = ((a / G : Nat) : Int) := by
      rw [show (a : Int) / (G : Int) = ((a / G : Nat) : Int) from (Int.natCast_ediv a G).symm]
      exact IntWalk.i64_in _ (by have := Nat.div_le_self a G; generalize a / G = x at *; omega)
    have eb : IntKind.i64.wrap ((b : Int) / (G : Int)) = ((b / G : Nat) : Int) := by
      rw [show (b : Int) / (G : Int) = ((b / G : Nat) : Int) from (Int.natCast_ediv b G).symm]
      exact IntWalk.i64_in _ (by have := Nat.div_le_self b G; generalize b / G = x at *; omega)
    have ec : IntKind.i64.wrap ((c : Int) / (G : Int)) = ((c / G : Nat) : Int) := by
      rw [show (c : Int) / (G : Int) = ((c / G : Nat) : Int) from (Int.natCast_ediv c G).symm]
      exact IntWalk.i64_in _ (by have := Nat.div_le_self c G; generalize c / G = x at *; omega)
    generalize a / G = xa at *
    generalize b / G = xb at *
    generalize c / G = xc at *
    go_enter Try.func20, Try.ntmps20
    go_wp2_with (go_at_call 39; refine HT.out.mono ?_; rintro e w' ⟨rfl, q, rfl⟩)
    go_quiet (fail)
    go_wp2_with (first | (go_at_call 40; with_reducible refine (HG1.out _).mono ?_; rintro e w' ⟨rfl, n1, rfl⟩) | (go_at_call 40; with_reducible refine (HG2.out _).mono ?_; rintro e w' ⟨rfl, n2, rfl⟩))
    refine wp_region_still_tail 9 (by kernel_rfl) (by kernel_rfl) ?_
    simp only [List.take_succ_cons, List.take_zero, List.drop_succ_cons, List.drop_zero]
    repeat still_step
    try refine wpStill_nil ?_
    change wpList _ _ _ _ _ (World.drew _)
    go_wp2
    go_ret2
    rw [HR2.out]
    have hbk := fun (W : World) (hb : Below w.heap.size w W) => (Bk.new W 2 (iv [(xa : Int), (xb : Int), (xc : Int)])).owned (lo := w.heap.size) hb.size (by simp [maxLen])
    have hbl := fun (W : World) (hb : Below w.heap.size w W) (o : Obj) => hb.alloc hb.size o
    refine ⟨_, rfl, ?_, ?_⟩
    · exact hbk _ (below_drewN (Below.refl _ _) _)
    · exact hbl _ (below_drewN (Below.refl _ _) _) _
  · rw [show REvenThrows xs = ([], false) from by rw [REvenThrows, if_neg (by simp [evOk, hT])]]
    have hT2 : ((thrN xs : Nat) : Int) ≠ 3 := by omega
    generalize thrN xs = T at *
    generalize xs.length = N at *
    go_enter Try.func20, Try.ntmps20
    go_wp2_with (go_at_call 39; refine HT.out.mono ?_; rintro e w' ⟨rfl, q, rfl⟩)
    go_ret2
    exact ⟨_, rfl, Own.nil _ _ _, below_drewN (Below.refl _ _) _⟩
end Go.Proofs.Ytafhfcpaofgikaa
