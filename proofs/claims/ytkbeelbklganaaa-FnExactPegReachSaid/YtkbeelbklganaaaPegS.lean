/- Contract of the moves of pegs, the reference's. Conditions: at most 14 places. -/
import Derived.Test.YtkbeelbklganaaaPegP
namespace Go.Proofs.Ytkbeelbklganaaa
open Go.ChangeShapes Go.WideShapes Go.ChangeAt Go.RowKit

set_option maxHeartbeats 3200000 in
theorem sMoves (T : Nat → Bool) (x n : Nat) (w : World) (hx : x < 65536) (hn : n ≤ 14) (hT : ∀ i, x.testBit i = T i) :
    Calls Try.prog 55 #[.int .i64 x, .int .i64 n] w fun e w' => ∃ r, e = .returned r ∧ Own w' w.heap.size w'.heap.size r (mvN n T n) ∧ Below w.heap.size w w' := by
  have HH := Lib.hid (fun W i j h1 h2 => sHas T x i j W hx h1 h2 (hT i))
  clear hT
  have HL := hide (fun k => mvN_len n T k)
  have HF := hide (fun k h => mv_f (n := n) (T := T) (k := k) h)
  have HT := hide (fun k h => mv_t (n := n) (T := T) (k := k) h)
  have H0 : Hid (mvN n T 0 = []) := hide rfl
  generalize mvN n T = M at *
  go_enter Try.func55, Try.ntmps55
  go_wp2
  go_loopw [5, 6] (fun r i wr => ∃ k : Nat, k ≤ n ∧ i = .int .i64 k ∧ OwnL wr w.heap.size r (M k) ∧ Below w.heap.size w wr) (fun _ i _ => n - (intOf i).toNat)
  case atStart => exact ⟨0, Nat.zero_le _, rfl, by rw [H0.out]; exact OwnL.empty _ _ rfl (Nat.le_refl _), (Below.refl _ _).alloc (Nat.le_refl _) _⟩
  case round =>
    obtain ⟨k, hk, rfl, ho, hb⟩ := hrel
    have hlen := HL.out k
    by_cases hlt : k < n
    · cases hTk : T k with
      | false =>
        have HM := hide (HF.out k hTk)
        go_wp2_with fail
        refine (HH.out _ (k) _ (by omega) (by omega)).mono ?_
        rintro e w' ⟨rfl, rfl⟩
        rw [hTk]
        go_wp2
        go_roundw
        case rel => exact ⟨k + 1, by omega, by go_num, by rw [HM.out]; exact ho, hb⟩
        case measure => simp [intOf]; omega
      | true =>
        have HM := hide (HT.out k hTk)
        go_wp2_with fail
        refine (HH.out _ (k) _ (by omega) (by omega)).mono ?_
        rintro e w' ⟨rfl, rfl⟩
        rw [hTk]
        have qk1 : (k : Int) ≤ 13 := by omega
        have hz := hb.size
        have p5 : ((k : Int) + 1).toNat = k + 1 := by omega
        have p6 : ((k : Int) + 2).toNat = k + 2 := by omega
        by_cases g1 : 2 ≤ k
        · have p1 : ((k : Int) - 1).toNat = k - 1 := by omega
          have p2 : ((k : Int) - 2).toNat = k - 2 := by omega
          have p3 : (0 : Int) ≤ (k : Int) - 1 := by omega
          have p4 : (0 : Int) ≤ (k : Int) - 2 := by omega
          cases t1 : T (k - 1) with
          | false =>
            by_cases g2 : k + 2 < n
            · cases t3 : T (k + 1) with
              | false =>
                have E1 := hide (m1_n (T := T) (k := k) (a := M k) (.inr (.inl t1)))
                have E2 := hide (m2_n (n := n) (T := T) (k := k) (a := m1 T k (M k)) (.inr (.inl t3)))
                go_wp2_with fail
                refine (HH.out _ (k - 1) _ (by omega) (by omega)).mono ?_
                rintro e w' ⟨rfl, rfl⟩
                rw [t1]
                go_wp2_with fail
                refine (HH.out _ (k + 1) _ (by omega) (by omega)).mono ?_
                rintro e w' ⟨rfl, rfl⟩
                rw [t3]
                go_wp2
                go_roundw
                case rel => exact ⟨k + 1, by omega, by go_num, by rw [HM.out, E2.out, E1.out]; exact ho, hb⟩
                case measure => simp [intOf]; omega
              | true =>
                cases t4 : T (k + 2) with
                | true =>
                  have E1 := hide (m1_n (T := T) (k := k) (a := M k) (.inr (.inl t1)))
                  have E2 := hide (m2_n (n := n) (T := T) (k := k) (a := m1 T k (M k)) (.inr (.inr t4)))
                  go_wp2_with fail
                  refine (HH.out _ (k - 1) _ (by omega) (by omega)).mono ?_
                  rintro e w' ⟨rfl, rfl⟩
                  rw [t1]
                  go_wp2_with fail
                  refine (HH.out _ (k + 1) _ (by omega) (by omega)).mono ?_
                  rintro e w' ⟨rfl, rfl⟩
                  rw [t3]
                  go_wp2_with fail
                  refine (HH.out _ (k + 2) _ (by omega) (by omega)).mono ?_
                  rintro e w' ⟨rfl, rfl⟩
                  rw [t4]
                  go_wp2
                  go_roundw
                  case rel => exact ⟨k + 1, by omega, by go_num, by rw [HM.out, E2.out, E1.out]; exact ho, hb⟩
                  case measure => simp [intOf]; omega
                | false =>
                  have E1 := hide (m1_n (T := T) (k := k) (a := M k) (.inr (.inl t1)))
                  have E2 := hide (m2_y (n := n) (T := T) (k := k) (a := m1 T k (M k)) g2 t3 t4)
                  go_wp2_with (first | (at_builtin; refine app2 ho (by omega) (by omega) rfl rfl rfl rfl ?_; intro v3 w3 ho3 hg3; have hb3 := hb.grown hg3 (by omega) (fun j hj => (ho.lt j hj).1)))
                  refine (HH.out _ (k - 1) _ (by omega) (by omega)).mono ?_
                  rintro e w' ⟨rfl, rfl⟩
                  rw [t1]
                  go_wp2_with (first | (at_builtin; refine app2 ho (by omega) (by omega) rfl rfl rfl rfl ?_; intro v3 w3 ho3 hg3; have hb3 := hb.grown hg3 (by omega) (fun j hj => (ho.lt j hj).1)))
                  refine (HH.out _ (k + 1) _ (by omega) (by omega)).mono ?_
                  rintro e w' ⟨rfl, rfl⟩
                  rw [t3]
                  go_wp2_with (first | (at_builtin; refine app2 ho (by omega) (by omega) rfl rfl rfl rfl ?_; intro v3 w3 ho3 hg3; have hb3 := hb.grown hg3 (by omega) (fun j hj => (ho.lt j hj).1)))
                  refine (HH.out _ (k + 2) _ (by omega) (by omega)).mono ?_
                  rintro e w' ⟨rfl, rfl⟩
                  rw [t4]
                  go_wp2_with (first | (at_builtin; refine app2 ho (by omega) (by omega) rfl rfl rfl rfl ?_; intro v3 w3 ho3 hg3; have hb3 := hb.grown hg3 (by omega) (fun j hj => (ho.lt j hj).1)))
                  go_roundw
                  case rel => exact ⟨k + 1, by omega, by go_num, by rw [HM.out, E2.out, E1.out]; exact ho3, hb3⟩
                  case measure => simp [intOf]; omega
            ·
              have E1 := hide (m1_n (T := T) (k := k) (a := M k) (.inr (.inl t1)))
              have E2 := hide (m2_n (n := n) (T := T) (k := k) (a := m1 T k (M k)) (.inl g2))
              go_wp2_with fail
              refine (HH.out _ (k - 1) _ (by omega) (by omega)).mono ?_
              rintro e w' ⟨rfl, rfl⟩
              rw [t1]
              go_wp2
              go_roundw
              case rel => exact ⟨k + 1, by omega, by go_num, by rw [HM.out, E2.out, E1.out]; exact ho, hb⟩
              case measure => simp [intOf]; omega
          | true =>
            cases t2 : T (k - 2) with
            | true =>
              by_cases g2 : k + 2 < n
              · cases t3 : T (k + 1) with
                | false =>
                  have E1 := hide (m1_n (T := T) (k := k) (a := M k) (.inr (.inr t2)))
                  have E2 := hide (m2_n (n := n) (T := T) (k := k) (a := m1 T k (M k)) (.inr (.inl t3)))
                  go_wp2_with fail
                  refine (HH.out _ (k - 1) _ (by omega) (by omega)).mono ?_
                  rintro e w' ⟨rfl, rfl⟩
                  rw [t1]
                  go_wp2_with fail
                  refine (HH.out _ (k - 2) _ (by omega) (by omega)).mono ?_
                  rintro e w' ⟨rfl, rfl⟩
                  rw [t2]
                  go_wp2_with fail
                  refine (HH.out _ (k + 1) _ (by omega) (by omega)).mono ?_
                  rintro e w' ⟨rfl, rfl⟩
                  rw [t3]
                  go_wp2
                  go_roundw
                  case rel => exact ⟨k + 1, by omega, by go_num, by rw [HM.out, E2.out, E1.out]; exact ho, hb⟩
                  case measure => simp [intOf]; omega
                | true =>
                  cases t4 : T (k + 2) with
                  | true =>
                    have E1 := hide (m1_n (T := T) (k := k) (a := M k) (.inr (.inr t2)))
                    have E2 := hide (m2_n (n := n) (T := T) (k := k) (a := m1 T k (M k)) (.inr (.inr t4)))
                    go_wp2_with fail
                    refine (HH.out _ (k - 1) _ (by omega) (by omega)).mono ?_
                    rintro e w' ⟨rfl, rfl⟩
                    rw [t1]
                    go_wp2_with fail
                    refine (HH.out _ (k - 2) _ (by omega) (by omega)).mono ?_
                    rintro e w' ⟨rfl, rfl⟩
                    rw [t2]
                    go_wp2_with fail
                    refine (HH.out _ (k + 1) _ (by omega) (by omega)).mono ?_
                    rintro e w' ⟨rfl, rfl⟩
                    rw [t3]
                    go_wp2_with fail
                    refine (HH.out _ (k + 2) _ (by omega) (by omega)).mono ?_
                    rintro e w' ⟨rfl, rfl⟩
                    rw [t4]
                    go_wp2
                    go_roundw
                    case rel => exact ⟨k + 1, by omega, by go_num, by rw [HM.out, E2.out, E1.out]; exact ho, hb⟩
                    case measure => simp [intOf]; omega
                  | false =>
                    have E1 := hide (m1_n (T := T) (k := k) (a := M k) (.inr (.inr t2)))
                    have E2 := hide (m2_y (n := n) (T := T) (k := k) (a := m1 T k (M k)) g2 t3 t4)
                    go_wp2_with (first | (at_builtin; refine app2 ho (by omega) (by omega) rfl rfl rfl rfl ?_; intro v3 w3 ho3 hg3; have hb3 := hb.grown hg3 (by omega) (fun j hj => (ho.lt j hj).1)))
                    refine (HH.out _ (k - 1) _ (by omega) (by omega)).mono ?_
                    rintro e w' ⟨rfl, rfl⟩
                    rw [t1]
                    go_wp2_with (first | (at_builtin; refine app2 ho (by omega) (by omega) rfl rfl rfl rfl ?_; intro v3 w3 ho3 hg3; have hb3 := hb.grown hg3 (by omega) (fun j hj => (ho.lt j hj).1)))
                    refine (HH.out _ (k - 2) _ (by omega) (by omega)).mono ?_
                    rintro e w' ⟨rfl, rfl⟩
                    rw [t2]
                    go_wp2_with (first | (at_builtin; refine app2 ho (by omega) (by omega) rfl rfl rfl rfl ?_; intro v3 w3 ho3 hg3; have hb3 := hb.grown hg3 (by omega) (fun j hj => (ho.lt j hj).1)))
                    refine (HH.out _ (k + 1) _ (by omega) (by omega)).mono ?_
                    rintro e w' ⟨rfl, rfl⟩
                    rw [t3]
                    go_wp2_with (first | (at_builtin; refine app2 ho (by omega) (by omega) rfl rfl rfl rfl ?_; intro v3 w3 ho3 hg3; have hb3 := hb.grown hg3 (by omega) (fun j hj => (ho.lt j hj).1)))
                    refine (HH.out _ (k + 2) _ (by omega) (by omega)).mono ?_
                    rintro e w' ⟨rfl, rfl⟩
                    rw [t4]
                    go_wp2_with (first | (at_builtin; refine app2 ho (by omega) (by omega) rfl rfl rfl rfl ?_; intro v3 w3 ho3 hg3; have hb3 := hb.grown hg3 (by omega) (fun j hj => (ho.lt j hj).1)))
                    go_roundw
                    case rel => exact ⟨k + 1, by omega, by go_num, by rw [HM.out, E2.out, E1.out]; exact ho3, hb3⟩
                    case measure => simp [intOf]; omega
              ·
                have E1 := hide (m1_n (T := T) (k := k) (a := M k) (.inr (.inr t2)))
                have E2 := hide (m2_n (n := n) (T := T) (k := k) (a := m1 T k (M k)) (.inl g2))
                go_wp2_with fail
                refine (HH.out _ (k - 1) _ (by omega) (by omega)).mono ?_
                rintro e w' ⟨rfl, rfl⟩
                rw [t1]
                go_wp2_with fail
                refine (HH.out _ (k - 2) _ (by omega) (by omega)).mono ?_
                rintro e w' ⟨rfl, rfl⟩
                rw [t2]
                go_wp2
                go_roundw
                case rel => exact ⟨k + 1, by omega, by go_num, by rw [HM.out, E2.out, E1.out]; exact ho, hb⟩
                case measure => simp [intOf]; omega
            | false =>
              by_cases g2 : k + 2 < n
              · cases t3 : T (k + 1) with
                | false =>
                  have E1 := hide (m1_y (T := T) (k := k) (a := M k) g1 t1 t2)
                  have E2 := hide (m2_n (n := n) (T := T) (k := k) (a := m1 T k (M k)) (.inr (.inl t3)))
                  go_wp2_with (first | (at_builtin; refine app2 ho (by omega) (by omega) rfl rfl rfl rfl ?_; intro v2 w2 ho2 hg2; have hb2 := hb.grown hg2 (by omega) (fun j hj => (ho.lt j hj).1); have hz2 := hb2.size; have hlen2 : (M k ++ [(k : Int), (k : Int) - 2]).length ≤ 4 * k + 2 := (by simp; omega)))
                  refine (HH.out _ (k - 1) _ (by omega) (by omega)).mono ?_
                  rintro e w' ⟨rfl, rfl⟩
                  rw [t1]
                  go_wp2_with (first | (at_builtin; refine app2 ho (by omega) (by omega) rfl rfl rfl rfl ?_; intro v2 w2 ho2 hg2; have hb2 := hb.grown hg2 (by omega) (fun j hj => (ho.lt j hj).1); have hz2 := hb2.size; have hlen2 : (M k ++ [(k : Int), (k : Int) - 2]).length ≤ 4 * k + 2 := (by simp; omega)))
                  refine (HH.out _ (k - 2) _ (by omega) (by omega)).mono ?_
                  rintro e w' ⟨rfl, rfl⟩
                  rw [t2]
                  go_wp2_with (first | (at_builtin; refine app2 ho (by omega) (by omega) rfl rfl rfl rfl ?_; intro v2 w2 ho2 hg2; have hb2 := hb.grown hg2 (by omega) (fun j hj => (ho.lt j hj).1); have hz2 := hb2.size; have hlen2 : (M k ++ [(k : Int), (k : Int) - 2]).length ≤ 4 * k + 2 := (by simp; omega)))
                  refine (HH.out _ (k + 1) _ (by omega) (by omega)).mono ?_
                  rintro e w' ⟨rfl, rfl⟩
                  rw [t3]
                  go_wp2_with (first | (at_builtin; refine app2 ho (by omega) (by omega) rfl rfl rfl rfl ?_; intro v2 w2 ho2 hg2; have hb2 := hb.grown hg2 (by omega) (fun j hj => (ho.lt j hj).1); have hz2 := hb2.size; have hlen2 : (M k ++ [(k : Int), (k : Int) - 2]).length ≤ 4 * k + 2 := (by simp; omega)))
                  go_roundw
                  case rel => exact ⟨k + 1, by omega, by go_num, by rw [HM.out, E2.out, E1.out]; exact ho2, hb2⟩
                  case measure => simp [intOf]; omega
                | true =>
                  cases t4 : T (k + 2) with
                  | true =>
                    have E1 := hide (m1_y (T := T) (k := k) (a := M k) g1 t1 t2)
                    have E2 := hide (m2_n (n := n) (T := T) (k := k) (a := m1 T k (M k)) (.inr (.inr t4)))
                    go_wp2_with (first | (at_builtin; refine app2 ho (by omega) (by omega) rfl rfl rfl rfl ?_; intro v2 w2 ho2 hg2; have hb2 := hb.grown hg2 (by omega) (fun j hj => (ho.lt j hj).1); have hz2 := hb2.size; have hlen2 : (M k ++ [(k : Int), (k : Int) - 2]).length ≤ 4 * k + 2 := (by simp; omega)))
                    refine (HH.out _ (k - 1) _ (by omega) (by omega)).mono ?_
                    rintro e w' ⟨rfl, rfl⟩
                    rw [t1]
                    go_wp2_with (first | (at_builtin; refine app2 ho (by omega) (by omega) rfl rfl rfl rfl ?_; intro v2 w2 ho2 hg2; have hb2 := hb.grown hg2 (by omega) (fun j hj => (ho.lt j hj).1); have hz2 := hb2.size; have hlen2 : (M k ++ [(k : Int), (k : Int) - 2]).length ≤ 4 * k + 2 := (by simp; omega)))
                    refine (HH.out _ (k - 2) _ (by omega) (by omega)).mono ?_
                    rintro e w' ⟨rfl, rfl⟩
                    rw [t2]
                    go_wp2_with (first | (at_builtin; refine app2 ho (by omega) (by omega) rfl rfl rfl rfl ?_; intro v2 w2 ho2 hg2; have hb2 := hb.grown hg2 (by omega) (fun j hj => (ho.lt j hj).1); have hz2 := hb2.size; have hlen2 : (M k ++ [(k : Int), (k : Int) - 2]).length ≤ 4 * k + 2 := (by simp; omega)))
                    refine (HH.out _ (k + 1) _ (by omega) (by omega)).mono ?_
                    rintro e w' ⟨rfl, rfl⟩
                    rw [t3]
                    go_wp2_with (first | (at_builtin; refine app2 ho (by omega) (by omega) rfl rfl rfl rfl ?_; intro v2 w2 ho2 hg2; have hb2 := hb.grown hg2 (by omega) (fun j hj => (ho.lt j hj).1); have hz2 := hb2.size; have hlen2 : (M k ++ [(k : Int), (k : Int) - 2]).length ≤ 4 * k + 2 := (by simp; omega)))
                    refine (HH.out _ (k + 2) _ (by omega) (by omega)).mono ?_
                    rintro e w' ⟨rfl, rfl⟩
                    rw [t4]
                    go_wp2_with (first | (at_builtin; refine app2 ho (by omega) (by omega) rfl rfl rfl rfl ?_; intro v2 w2 ho2 hg2; have hb2 := hb.grown hg2 (by omega) (fun j hj => (ho.lt j hj).1); have hz2 := hb2.size; have hlen2 : (M k ++ [(k : Int), (k : Int) - 2]).length ≤ 4 * k + 2 := (by simp; omega)))
                    go_roundw
                    case rel => exact ⟨k + 1, by omega, by go_num, by rw [HM.out, E2.out, E1.out]; exact ho2, hb2⟩
                    case measure => simp [intOf]; omega
                  | false =>
                    have E1 := hide (m1_y (T := T) (k := k) (a := M k) g1 t1 t2)
                    have E2 := hide (m2_y (n := n) (T := T) (k := k) (a := m1 T k (M k)) g2 t3 t4)
                    go_wp2_with (first | (at_builtin; refine app2 ho2 (by omega) (by omega) rfl rfl rfl rfl ?_; intro v3 w3 ho3 hg3; have hb3 := hb2.grown hg3 (by omega) (fun j hj => (ho2.lt j hj).1)) | (at_builtin; refine app2 ho (by omega) (by omega) rfl rfl rfl rfl ?_; intro v2 w2 ho2 hg2; have hb2 := hb.grown hg2 (by omega) (fun j hj => (ho.lt j hj).1); have hz2 := hb2.size; have hlen2 : (M k ++ [(k : Int), (k : Int) - 2]).length ≤ 4 * k + 2 := (by simp; omega)))
                    refine (HH.out _ (k - 1) _ (by omega) (by omega)).mono ?_
                    rintro e w' ⟨rfl, rfl⟩
                    rw [t1]
                    go_wp2_with (first | (at_builtin; refine app2 ho2 (by omega) (by omega) rfl rfl rfl rfl ?_; intro v3 w3 ho3 hg3; have hb3 := hb2.grown hg3 (by omega) (fun j hj => (ho2.lt j hj).1)) | (at_builtin; refine app2 ho (by omega) (by omega) rfl rfl rfl rfl ?_; intro v2 w2 ho2 hg2; have hb2 := hb.grown hg2 (by omega) (fun j hj => (ho.lt j hj).1); have hz2 := hb2.size; have hlen2 : (M k ++ [(k : Int), (k : Int) - 2]).length ≤ 4 * k + 2 := (by simp; omega)))
                    refine (HH.out _ (k - 2) _ (by omega) (by omega)).mono ?_
                    rintro e w' ⟨rfl, rfl⟩
                    rw [t2]
                    go_wp2_with (first | (at_builtin; refine app2 ho2 (by omega) (by omega) rfl rfl rfl rfl ?_; intro v3 w3 ho3 hg3; have hb3 := hb2.grown hg3 (by omega) (fun j hj => (ho2.lt j hj).1)) | (at_builtin; refine app2 ho (by omega) (by omega) rfl rfl rfl rfl ?_; intro v2 w2 ho2 hg2; have hb2 := hb.grown hg2 (by omega) (fun j hj => (ho.lt j hj).1); have hz2 := hb2.size; have hlen2 : (M k ++ [(k : Int), (k : Int) - 2]).length ≤ 4 * k + 2 := (by simp; omega)))
                    refine (HH.out _ (k + 1) _ (by omega) (by omega)).mono ?_
                    rintro e w' ⟨rfl, rfl⟩
                    rw [t3]
                    go_wp2_with (first | (at_builtin; refine app2 ho2 (by omega) (by omega) rfl rfl rfl rfl ?_; intro v3 w3 ho3 hg3; have hb3 := hb2.grown hg3 (by omega) (fun j hj => (ho2.lt j hj).1)) | (at_builtin; refine app2 ho (by omega) (by omega) rfl rfl rfl rfl ?_; intro v2 w2 ho2 hg2; have hb2 := hb.grown hg2 (by omega) (fun j hj => (ho.lt j hj).1); have hz2 := hb2.size; have hlen2 : (M k ++ [(k : Int), (k : Int) - 2]).length ≤ 4 * k + 2 := (by simp; omega)))
                    refine (HH.out _ (k + 2) _ (by omega) (by omega)).mono ?_
                    rintro e w' ⟨rfl, rfl⟩
                    rw [t4]
                    go_wp2_with (first | (at_builtin; refine app2 ho2 (by omega) (by omega) rfl rfl rfl rfl ?_; intro v3 w3 ho3 hg3; have hb3 := hb2.grown hg3 (by omega) (fun j hj => (ho2.lt j hj).1)) | (at_builtin; refine app2 ho (by omega) (by omega) rfl rfl rfl rfl ?_; intro v2 w2 ho2 hg2; have hb2 := hb.grown hg2 (by omega) (fun j hj => (ho.lt j hj).1); have hz2 := hb2.size; have hlen2 : (M k ++ [(k : Int), (k : Int) - 2]).length ≤ 4 * k + 2 := (by simp; omega)))
                    go_roundw
                    case rel => exact ⟨k + 1, by omega, by go_num, by rw [HM.out, E2.out, E1.out]; exact ho3, hb3⟩
                    case measure => simp [intOf]; omega
              ·
                have E1 := hide (m1_y (T := T) (k := k) (a := M k) g1 t1 t2)
                have E2 := hide (m2_n (n := n) (T := T) (k := k) (a := m1 T k (M k)) (.inl g2))
                go_wp2_with (first | (at_builtin; refine app2 ho (by omega) (by omega) rfl rfl rfl rfl ?_; intro v2 w2 ho2 hg2; have hb2 := hb.grown hg2 (by omega) (fun j hj => (ho.lt j hj).1); have hz2 := hb2.size; have hlen2 : (M k ++ [(k : Int), (k : Int) - 2]).length ≤ 4 * k + 2 := (by simp; omega)))
                refine (HH.out _ (k - 1) _ (by omega) (by omega)).mono ?_
                rintro e w' ⟨rfl, rfl⟩
                rw [t1]
                go_wp2_with (first | (at_builtin; refine app2 ho (by omega) (by omega) rfl rfl rfl rfl ?_; intro v2 w2 ho2 hg2; have hb2 := hb.grown hg2 (by omega) (fun j hj => (ho.lt j hj).1); have hz2 := hb2.size; have hlen2 : (M k ++ [(k : Int), (k : Int) - 2]).length ≤ 4 * k + 2 := (by simp; omega)))
                refine (HH.out _ (k - 2) _ (by omega) (by omega)).mono ?_
                rintro e w' ⟨rfl, rfl⟩
                rw [t2]
                go_wp2_with (first | (at_builtin; refine app2 ho (by omega) (by omega) rfl rfl rfl rfl ?_; intro v2 w2 ho2 hg2; have hb2 := hb.grown hg2 (by omega) (fun j hj => (ho.lt j hj).1); have hz2 := hb2.size; have hlen2 : (M k ++ [(k : Int), (k : Int) - 2]).length ≤ 4 * k + 2 := (by simp; omega)))
                go_roundw
                case rel => exact ⟨k + 1, by omega, by go_num, by rw [HM.out, E2.out, E1.out]; exact ho2, hb2⟩
                case measure => simp [intOf]; omega
        ·
          by_cases g2 : k + 2 < n
          · cases t3 : T (k + 1) with
            | false =>
              have E1 := hide (m1_n (T := T) (k := k) (a := M k) (.inl g1))
              have E2 := hide (m2_n (n := n) (T := T) (k := k) (a := m1 T k (M k)) (.inr (.inl t3)))
              go_wp2_with fail
              refine (HH.out _ (k + 1) _ (by omega) (by omega)).mono ?_
              rintro e w' ⟨rfl, rfl⟩
              rw [t3]
              go_wp2
              go_roundw
              case rel => exact ⟨k + 1, by omega, by go_num, by rw [HM.out, E2.out, E1.out]; exact ho, hb⟩
              case measure => simp [intOf]; omega
            | true =>
              cases t4 : T (k + 2) with
              | true =>
                have E1 := hide (m1_n (T := T) (k := k) (a := M k) (.inl g1))
                have E2 := hide (m2_n (n := n) (T := T) (k := k) (a := m1 T k (M k)) (.inr (.inr t4)))
                go_wp2_with fail
                refine (HH.out _ (k + 1) _ (by omega) (by omega)).mono ?_
                rintro e w' ⟨rfl, rfl⟩
                rw [t3]
                go_wp2_with fail
                refine (HH.out _ (k + 2) _ (by omega) (by omega)).mono ?_
                rintro e w' ⟨rfl, rfl⟩
                rw [t4]
                go_wp2
                go_roundw
                case rel => exact ⟨k + 1, by omega, by go_num, by rw [HM.out, E2.out, E1.out]; exact ho, hb⟩
                case measure => simp [intOf]; omega
              | false =>
                have E1 := hide (m1_n (T := T) (k := k) (a := M k) (.inl g1))
                have E2 := hide (m2_y (n := n) (T := T) (k := k) (a := m1 T k (M k)) g2 t3 t4)
                go_wp2_with (first | (at_builtin; refine app2 ho (by omega) (by omega) rfl rfl rfl rfl ?_; intro v3 w3 ho3 hg3; have hb3 := hb.grown hg3 (by omega) (fun j hj => (ho.lt j hj).1)))
                refine (HH.out _ (k + 1) _ (by omega) (by omega)).mono ?_
                rintro e w' ⟨rfl, rfl⟩
                rw [t3]
                go_wp2_with (first | (at_builtin; refine app2 ho (by omega) (by omega) rfl rfl rfl rfl ?_; intro v3 w3 ho3 hg3; have hb3 := hb.grown hg3 (by omega) (fun j hj => (ho.lt j hj).1)))
                refine (HH.out _ (k + 2) _ (by omega) (by omega)).mono ?_
                rintro e w' ⟨rfl, rfl⟩
                rw [t4]
                go_wp2_with (first | (at_builtin; refine app2 ho (by omega) (by omega) rfl rfl rfl rfl ?_; intro v3 w3 ho3 hg3; have hb3 := hb.grown hg3 (by omega) (fun j hj => (ho.lt j hj).1)))
                go_roundw
                case rel => exact ⟨k + 1, by omega, by go_num, by rw [HM.out, E2.out, E1.out]; exact ho3, hb3⟩
                case measure => simp [intOf]; omega
          ·
            have E1 := hide (m1_n (T := T) (k := k) (a := M k) (.inl g1))
            have E2 := hide (m2_n (n := n) (T := T) (k := k) (a := m1 T k (M k)) (.inl g2))
            go_wp2
            go_roundw
            case rel => exact ⟨k + 1, by omega, by go_num, by rw [HM.out, E2.out, E1.out]; exact ho, hb⟩
            case measure => simp [intOf]; omega
    · have hkn : n = k := by omega
      subst hkn
      go_wp2
      go_ret
      exact ⟨_, rfl, ho.own, hb⟩
end Go.Proofs.Ytkbeelbklganaaa
