/- Contract of the moves of pegs, the program's. Conditions: at most 14 places. -/
import Derived.Test.YtkbeelbklganaaaPegP
namespace Go.Proofs.Ytkbeelbklganaaa
open Go.ChangeShapes Go.WideShapes Go.ChangeAt Go.RowKit

set_option maxHeartbeats 3200000 in
theorem iMoves (A : Option Addr) (n c : Nat) (b : List Bool) (w : World) (hr : Rd w A n (bv b)) (hn : n ≤ 14) :
    Calls Try.prog 57 #[.slice A n c] w fun e w' => ∃ r, e = .returned r ∧ Own w' w.heap.size w'.heap.size r (mvN n (fun i => b.getD i false) n) ∧ Below w.heap.size w w' := by
  obtain ⟨T, hT⟩ : ∃ T : Nat → Bool, ∀ i, b.getD i false = T i := ⟨_, fun i => rfl⟩
  rw [show (fun i => b.getD i false) = T from funext hT]
  have HC : Hid (∀ W, Below w.heap.size w W → ∀ k, k < n → ∃ ad, A = some ad ∧ W.cell? (ad.add k) = some (.bool (T k))) := hide fun W hb k hk => by
    obtain ⟨ad, h1, _, h3⟩ := (hr.below hb).bool hk
    rw [hT] at h3
    exact ⟨ad, h1, h3⟩
  clear hT hr
  have HL := hide (fun k => mvN_len n T k)
  have HF := hide (fun k h => mv_f (n := n) (T := T) (k := k) h)
  have HT := hide (fun k h => mv_t (n := n) (T := T) (k := k) h)
  have H0 : Hid (mvN n T 0 = []) := hide rfl
  generalize mvN n T = M at *
  go_enter Try.func57, Try.ntmps57
  go_wp2
  go_loopw [3, 9] (fun r i wr => ∃ k : Nat, k ≤ n ∧ i = .int .i64 k ∧ OwnL wr w.heap.size r (M k) ∧ Below w.heap.size w wr) (fun _ i _ => n - (intOf i).toNat)
  case atStart => exact ⟨0, Nat.zero_le _, rfl, by rw [H0.out]; exact OwnL.empty _ _ rfl (Nat.le_refl _), (Below.refl _ _).alloc (Nat.le_refl _) _⟩
  case round =>
    obtain ⟨k, hk, rfl, ho, hb⟩ := hrel
    have hlen := HL.out k
    by_cases hlt : k < n
    · cases hTk : T k with
      | false =>
        obtain ⟨ad, rfl, ck⟩ := HC.out wr hb k hlt
        rw [hTk] at ck
        have HM := hide (HF.out k hTk)
        go_wp2
        go_roundw
        case rel => exact ⟨k + 1, by omega, by go_num, by rw [HM.out]; exact ho, hb⟩
        case measure => simp [intOf]; omega
      | true =>
        obtain ⟨ad, rfl, ck⟩ := HC.out wr hb k hlt
        rw [hTk] at ck
        have HM := hide (HT.out k hTk)
        have qk1 : (k : Int) ≤ 13 := by omega
        have hz := hb.size
        have p5 : ((k : Int) + 1).toNat = k + 1 := by omega
        have p6 : ((k : Int) + 2).toNat = k + 2 := by omega
        by_cases g1 : 2 ≤ k
        · have p1 : ((k : Int) - 1).toNat = k - 1 := by omega
          have p2 : ((k : Int) - 2).toNat = k - 2 := by omega
          have p3 : (0 : Int) ≤ (k : Int) - 1 := by omega
          have p4 : (0 : Int) ≤ (k : Int) - 2 := by omega
          cases t1 : T (k - 1) with
          | false =>
            by_cases g2 : k + 2 < n
            · cases t3 : T (k + 1) with
              | false =>
                have E1 := hide (m1_n (T := T) (k := k) (a := M k) (.inr (.inl t1)))
                have E2 := hide (m2_n (n := n) (T := T) (k := k) (a := m1 T k (M k)) (.inr (.inl t3)))
                obtain ⟨_, e1, c1⟩ := HC.out wr hb (k - 1) (by omega)
                rw [t1] at c1
                obtain rfl := Option.some.inj e1
                obtain ⟨_, e3, c3⟩ := HC.out wr hb (k + 1) (by omega)
                rw [t3] at c3
                obtain rfl := Option.some.inj e3
                have d3 : wr.cell? ⟨ad.block, ad.off + (k + 1), none⟩ = _ := c3
                go_wp2
                go_roundw
                case rel => exact ⟨k + 1, by omega, by go_num, by rw [HM.out, E2.out, E1.out]; exact ho, hb⟩
                case measure => simp [intOf]; omega
              | true =>
                cases t4 : T (k + 2) with
                | true =>
                  have E1 := hide (m1_n (T := T) (k := k) (a := M k) (.inr (.inl t1)))
                  have E2 := hide (m2_n (n := n) (T := T) (k := k) (a := m1 T k (M k)) (.inr (.inr t4)))
                  obtain ⟨_, e1, c1⟩ := HC.out wr hb (k - 1) (by omega)
                  rw [t1] at c1
                  obtain rfl := Option.some.inj e1
                  obtain ⟨_, e3, c3⟩ := HC.out wr hb (k + 1) (by omega)
                  rw [t3] at c3
                  obtain rfl := Option.some.inj e3
                  have d3 : wr.cell? ⟨ad.block, ad.off + (k + 1), none⟩ = _ := c3
                  obtain ⟨_, e4, c4⟩ := HC.out wr hb (k + 2) (by omega)
                  rw [t4] at c4
                  obtain rfl := Option.some.inj e4
                  have d4 : wr.cell? ⟨ad.block, ad.off + (k + 2), none⟩ = _ := c4
                  go_wp2
                  go_roundw
                  case rel => exact ⟨k + 1, by omega, by go_num, by rw [HM.out, E2.out, E1.out]; exact ho, hb⟩
                  case measure => simp [intOf]; omega
                | false =>
                  have E1 := hide (m1_n (T := T) (k := k) (a := M k) (.inr (.inl t1)))
                  have E2 := hide (m2_y (n := n) (T := T) (k := k) (a := m1 T k (M k)) g2 t3 t4)
                  obtain ⟨_, e1, c1⟩ := HC.out wr hb (k - 1) (by omega)
                  rw [t1] at c1
                  obtain rfl := Option.some.inj e1
                  obtain ⟨_, e3, c3⟩ := HC.out wr hb (k + 1) (by omega)
                  rw [t3] at c3
                  obtain rfl := Option.some.inj e3
                  have d3 : wr.cell? ⟨ad.block, ad.off + (k + 1), none⟩ = _ := c3
                  obtain ⟨_, e4, c4⟩ := HC.out wr hb (k + 2) (by omega)
                  rw [t4] at c4
                  obtain rfl := Option.some.inj e4
                  have d4 : wr.cell? ⟨ad.block, ad.off + (k + 2), none⟩ = _ := c4
                  go_wp2_with (first | (at_builtin; refine app2 ho (by omega) (by omega) rfl rfl rfl rfl ?_; intro v3 w3 ho3 hg3; have hb3 := hb.grown hg3 (by omega) (fun j hj => (ho.lt j hj).1)))
                  go_roundw
                  case rel => exact ⟨k + 1, by omega, by go_num, by rw [HM.out, E2.out, E1.out]; exact ho3, hb3⟩
                  case measure => simp [intOf]; omega
            ·
              have E1 := hide (m1_n (T := T) (k := k) (a := M k) (.inr (.inl t1)))
              have E2 := hide (m2_n (n := n) (T := T) (k := k) (a := m1 T k (M k)) (.inl g2))
              obtain ⟨_, e1, c1⟩ := HC.out wr hb (k - 1) (by omega)
              rw [t1] at c1
              obtain rfl := Option.some.inj e1
              go_wp2
              go_roundw
              case rel => exact ⟨k + 1, by omega, by go_num, by rw [HM.out, E2.out, E1.out]; exact ho, hb⟩
              case measure => simp [intOf]; omega
          | true =>
            cases t2 : T (k - 2) with
            | true =>
              by_cases g2 : k + 2 < n
              · cases t3 : T (k + 1) with
                | false =>
                  have E1 := hide (m1_n (T := T) (k := k) (a := M k) (.inr (.inr t2)))
                  have E2 := hide (m2_n (n := n) (T := T) (k := k) (a := m1 T k (M k)) (.inr (.inl t3)))
                  obtain ⟨_, e1, c1⟩ := HC.out wr hb (k - 1) (by omega)
                  rw [t1] at c1
                  obtain rfl := Option.some.inj e1
                  obtain ⟨_, e2, c2⟩ := HC.out wr hb (k - 2) (by omega)
                  rw [t2] at c2
                  obtain rfl := Option.some.inj e2
                  obtain ⟨_, e3, c3⟩ := HC.out wr hb (k + 1) (by omega)
                  rw [t3] at c3
                  obtain rfl := Option.some.inj e3
                  have d3 : wr.cell? ⟨ad.block, ad.off + (k + 1), none⟩ = _ := c3
                  go_wp2
                  go_roundw
                  case rel => exact ⟨k + 1, by omega, by go_num, by rw [HM.out, E2.out, E1.out]; exact ho, hb⟩
                  case measure => simp [intOf]; omega
                | true =>
                  cases t4 : T (k + 2) with
                  | true =>
                    have E1 := hide (m1_n (T := T) (k := k) (a := M k) (.inr (.inr t2)))
                    have E2 := hide (m2_n (n := n) (T := T) (k := k) (a := m1 T k (M k)) (.inr (.inr t4)))
                    obtain ⟨_, e1, c1⟩ := HC.out wr hb (k - 1) (by omega)
                    rw [t1] at c1
                    obtain rfl := Option.some.inj e1
                    obtain ⟨_, e2, c2⟩ := HC.out wr hb (k - 2) (by omega)
                    rw [t2] at c2
                    obtain rfl := Option.some.inj e2
                    obtain ⟨_, e3, c3⟩ := HC.out wr hb (k + 1) (by omega)
                    rw [t3] at c3
                    obtain rfl := Option.some.inj e3
                    have d3 : wr.cell? ⟨ad.block, ad.off + (k + 1), none⟩ = _ := c3
                    obtain ⟨_, e4, c4⟩ := HC.out wr hb (k + 2) (by omega)
                    rw [t4] at c4
                    obtain rfl := Option.some.inj e4
                    have d4 : wr.cell? ⟨ad.block, ad.off + (k + 2), none⟩ = _ := c4
                    go_wp2
                    go_roundw
                    case rel => exact ⟨k + 1, by omega, by go_num, by rw [HM.out, E2.out, E1.out]; exact ho, hb⟩
                    case measure => simp [intOf]; omega
                  | false =>
                    have E1 := hide (m1_n (T := T) (k := k) (a := M k) (.inr (.inr t2)))
                    have E2 := hide (m2_y (n := n) (T := T) (k := k) (a := m1 T k (M k)) g2 t3 t4)
                    obtain ⟨_, e1, c1⟩ := HC.out wr hb (k - 1) (by omega)
                    rw [t1] at c1
                    obtain rfl := Option.some.inj e1
                    obtain ⟨_, e2, c2⟩ := HC.out wr hb (k - 2) (by omega)
                    rw [t2] at c2
                    obtain rfl := Option.some.inj e2
                    obtain ⟨_, e3, c3⟩ := HC.out wr hb (k + 1) (by omega)
                    rw [t3] at c3
                    obtain rfl := Option.some.inj e3
                    have d3 : wr.cell? ⟨ad.block, ad.off + (k + 1), none⟩ = _ := c3
                    obtain ⟨_, e4, c4⟩ := HC.out wr hb (k + 2) (by omega)
                    rw [t4] at c4
                    obtain rfl := Option.some.inj e4
                    have d4 : wr.cell? ⟨ad.block, ad.off + (k + 2), none⟩ = _ := c4
                    go_wp2_with (first | (at_builtin; refine app2 ho (by omega) (by omega) rfl rfl rfl rfl ?_; intro v3 w3 ho3 hg3; have hb3 := hb.grown hg3 (by omega) (fun j hj => (ho.lt j hj).1)))
                    go_roundw
                    case rel => exact ⟨k + 1, by omega, by go_num, by rw [HM.out, E2.out, E1.out]; exact ho3, hb3⟩
                    case measure => simp [intOf]; omega
              ·
                have E1 := hide (m1_n (T := T) (k := k) (a := M k) (.inr (.inr t2)))
                have E2 := hide (m2_n (n := n) (T := T) (k := k) (a := m1 T k (M k)) (.inl g2))
                obtain ⟨_, e1, c1⟩ := HC.out wr hb (k - 1) (by omega)
                rw [t1] at c1
                obtain rfl := Option.some.inj e1
                obtain ⟨_, e2, c2⟩ := HC.out wr hb (k - 2) (by omega)
                rw [t2] at c2
                obtain rfl := Option.some.inj e2
                go_wp2
                go_roundw
                case rel => exact ⟨k + 1, by omega, by go_num, by rw [HM.out, E2.out, E1.out]; exact ho, hb⟩
                case measure => simp [intOf]; omega
            | false =>
              by_cases g2 : k + 2 < n
              · cases t3 : T (k + 1) with
                | false =>
                  have E1 := hide (m1_y (T := T) (k := k) (a := M k) g1 t1 t2)
                  have E2 := hide (m2_n (n := n) (T := T) (k := k) (a := m1 T k (M k)) (.inr (.inl t3)))
                  obtain ⟨_, e1, c1⟩ := HC.out wr hb (k - 1) (by omega)
                  rw [t1] at c1
                  obtain rfl := Option.some.inj e1
                  obtain ⟨_, e2, c2⟩ := HC.out wr hb (k - 2) (by omega)
                  rw [t2] at c2
                  obtain rfl := Option.some.inj e2
                  go_wp2_with (first | (at_builtin; refine app2 ho (by omega) (by omega) rfl rfl rfl rfl ?_; intro v2 w2 ho2 hg2; have hb2 := hb.grown hg2 (by omega) (fun j hj => (ho.lt j hj).1); have hz2 := hb2.size; have hlen2 : (M k ++ [(k : Int), (k : Int) - 2]).length ≤ 4 * k + 2 := (by simp; omega); obtain ⟨_, e3, c3⟩ := HC.out w2 hb2 (k + 1) (by omega); rw [t3] at c3; obtain rfl := Option.some.inj e3; have d3 : w2.cell? ⟨ad.block, ad.off + (k + 1), none⟩ = _ := c3))
                  go_roundw
                  case rel => exact ⟨k + 1, by omega, by go_num, by rw [HM.out, E2.out, E1.out]; exact ho2, hb2⟩
                  case measure => simp [intOf]; omega
                | true =>
                  cases t4 : T (k + 2) with
                  | true =>
                    have E1 := hide (m1_y (T := T) (k := k) (a := M k) g1 t1 t2)
                    have E2 := hide (m2_n (n := n) (T := T) (k := k) (a := m1 T k (M k)) (.inr (.inr t4)))
                    obtain ⟨_, e1, c1⟩ := HC.out wr hb (k - 1) (by omega)
                    rw [t1] at c1
                    obtain rfl := Option.some.inj e1
                    obtain ⟨_, e2, c2⟩ := HC.out wr hb (k - 2) (by omega)
                    rw [t2] at c2
                    obtain rfl := Option.some.inj e2
                    go_wp2_with (first | (at_builtin; refine app2 ho (by omega) (by omega) rfl rfl rfl rfl ?_; intro v2 w2 ho2 hg2; have hb2 := hb.grown hg2 (by omega) (fun j hj => (ho.lt j hj).1); have hz2 := hb2.size; have hlen2 : (M k ++ [(k : Int), (k : Int) - 2]).length ≤ 4 * k + 2 := (by simp; omega); obtain ⟨_, e3, c3⟩ := HC.out w2 hb2 (k + 1) (by omega); rw [t3] at c3; obtain rfl := Option.some.inj e3; have d3 : w2.cell? ⟨ad.block, ad.off + (k + 1), none⟩ = _ := c3; obtain ⟨_, e4, c4⟩ := HC.out w2 hb2 (k + 2) (by omega); rw [t4] at c4; obtain rfl := Option.some.inj e4; have d4 : w2.cell? ⟨ad.block, ad.off + (k + 2), none⟩ = _ := c4))
                    go_roundw
                    case rel => exact ⟨k + 1, by omega, by go_num, by rw [HM.out, E2.out, E1.out]; exact ho2, hb2⟩
                    case measure => simp [intOf]; omega
                  | false =>
                    have E1 := hide (m1_y (T := T) (k := k) (a := M k) g1 t1 t2)
                    have E2 := hide (m2_y (n := n) (T := T) (k := k) (a := m1 T k (M k)) g2 t3 t4)
                    obtain ⟨_, e1, c1⟩ := HC.out wr hb (k - 1) (by omega)
                    rw [t1] at c1
                    obtain rfl := Option.some.inj e1
                    obtain ⟨_, e2, c2⟩ := HC.out wr hb (k - 2) (by omega)
                    rw [t2] at c2
                    obtain rfl := Option.some.inj e2
                    go_wp2_with (first | (at_builtin; refine app2 ho2 (by omega) (by omega) rfl rfl rfl rfl ?_; intro v3 w3 ho3 hg3; have hb3 := hb2.grown hg3 (by omega) (fun j hj => (ho2.lt j hj).1)) | (at_builtin; refine app2 ho (by omega) (by omega) rfl rfl rfl rfl ?_; intro v2 w2 ho2 hg2; have hb2 := hb.grown hg2 (by omega) (fun j hj => (ho.lt j hj).1); have hz2 := hb2.size; have hlen2 : (M k ++ [(k : Int), (k : Int) - 2]).length ≤ 4 * k + 2 := (by simp; omega); obtain ⟨_, e3, c3⟩ := HC.out w2 hb2 (k + 1) (by omega); rw [t3] at c3; obtain rfl := Option.some.inj e3; have d3 : w2.cell? ⟨ad.block, ad.off + (k + 1), none⟩ = _ := c3; obtain ⟨_, e4, c4⟩ := HC.out w2 hb2 (k + 2) (by omega); rw [t4] at c4; obtain rfl := Option.some.inj e4; have d4 : w2.cell? ⟨ad.block, ad.off + (k + 2), none⟩ = _ := c4))
                    go_roundw
                    case rel => exact ⟨k + 1, by omega, by go_num, by rw [HM.out, E2.out, E1.out]; exact ho3, hb3⟩
                    case measure => simp [intOf]; omega
              ·
                have E1 := hide (m1_y (T := T) (k := k) (a := M k) g1 t1 t2)
                have E2 := hide (m2_n (n := n) (T := T) (k := k) (a := m1 T k (M k)) (.inl g2))
                obtain ⟨_, e1, c1⟩ := HC.out wr hb (k - 1) (by omega)
                rw [t1] at c1
                obtain rfl := Option.some.inj e1
                obtain ⟨_, e2, c2⟩ := HC.out wr hb (k - 2) (by omega)
                rw [t2] at c2
                obtain rfl := Option.some.inj e2
                go_wp2_with (first | (at_builtin; refine app2 ho (by omega) (by omega) rfl rfl rfl rfl ?_; intro v2 w2 ho2 hg2; have hb2 := hb.grown hg2 (by omega) (fun j hj => (ho.lt j hj).1); have hz2 := hb2.size; have hlen2 : (M k ++ [(k : Int), (k : Int) - 2]).length ≤ 4 * k + 2 := (by simp; omega)))
                go_roundw
                case rel => exact ⟨k + 1, by omega, by go_num, by rw [HM.out, E2.out, E1.out]; exact ho2, hb2⟩
                case measure => simp [intOf]; omega
        ·
          by_cases g2 : k + 2 < n
          · cases t3 : T (k + 1) with
            | false =>
              have E1 := hide (m1_n (T := T) (k := k) (a := M k) (.inl g1))
              have E2 := hide (m2_n (n := n) (T := T) (k := k) (a := m1 T k (M k)) (.inr (.inl t3)))
              obtain ⟨_, e3, c3⟩ := HC.out wr hb (k + 1) (by omega)
              rw [t3] at c3
              obtain rfl := Option.some.inj e3
              have d3 : wr.cell? ⟨ad.block, ad.off + (k + 1), none⟩ = _ := c3
              go_wp2
              go_roundw
              case rel => exact ⟨k + 1, by omega, by go_num, by rw [HM.out, E2.out, E1.out]; exact ho, hb⟩
              case measure => simp [intOf]; omega
            | true =>
              cases t4 : T (k + 2) with
              | true =>
                have E1 := hide (m1_n (T := T) (k := k) (a := M k) (.inl g1))
                have E2 := hide (m2_n (n := n) (T := T) (k := k) (a := m1 T k (M k)) (.inr (.inr t4)))
                obtain ⟨_, e3, c3⟩ := HC.out wr hb (k + 1) (by omega)
                rw [t3] at c3
                obtain rfl := Option.some.inj e3
                have d3 : wr.cell? ⟨ad.block, ad.off + (k + 1), none⟩ = _ := c3
                obtain ⟨_, e4, c4⟩ := HC.out wr hb (k + 2) (by omega)
                rw [t4] at c4
                obtain rfl := Option.some.inj e4
                have d4 : wr.cell? ⟨ad.block, ad.off + (k + 2), none⟩ = _ := c4
                go_wp2
                go_roundw
                case rel => exact ⟨k + 1, by omega, by go_num, by rw [HM.out, E2.out, E1.out]; exact ho, hb⟩
                case measure => simp [intOf]; omega
              | false =>
                have E1 := hide (m1_n (T := T) (k := k) (a := M k) (.inl g1))
                have E2 := hide (m2_y (n := n) (T := T) (k := k) (a := m1 T k (M k)) g2 t3 t4)
                obtain ⟨_, e3, c3⟩ := HC.out wr hb (k + 1) (by omega)
                rw [t3] at c3
                obtain rfl := Option.some.inj e3
                have d3 : wr.cell? ⟨ad.block, ad.off + (k + 1), none⟩ = _ := c3
                obtain ⟨_, e4, c4⟩ := HC.out wr hb (k + 2) (by omega)
                rw [t4] at c4
                obtain rfl := Option.some.inj e4
                have d4 : wr.cell? ⟨ad.block, ad.off + (k + 2), none⟩ = _ := c4
                go_wp2_with (first | (at_builtin; refine app2 ho (by omega) (by omega) rfl rfl rfl rfl ?_; intro v3 w3 ho3 hg3; have hb3 := hb.grown hg3 (by omega) (fun j hj => (ho.lt j hj).1)))
                go_roundw
                case rel => exact ⟨k + 1, by omega, by go_num, by rw [HM.out, E2.out, E1.out]; exact ho3, hb3⟩
                case measure => simp [intOf]; omega
          ·
            have E1 := hide (m1_n (T := T) (k := k) (a := M k) (.inl g1))
            have E2 := hide (m2_n (n := n) (T := T) (k := k) (a := m1 T k (M k)) (.inl g2))
            go_wp2
            go_roundw
            case rel => exact ⟨k + 1, by omega, by go_num, by rw [HM.out, E2.out, E1.out]; exact ho, hb⟩
            case measure => simp [intOf]; omega
    · have hkn : n = k := by omega
      subst hkn
      go_wp2
      go_ret
      exact ⟨_, rfl, ho.own, hb⟩
end Go.Proofs.Ytkbeelbklganaaa
