/- Contracts of RollDice, both sides. Conditions: sizes at most 2^20. -/
import Derived.Test.YthpboedpoipkcaaDice
import Derived.Test.YthpboedpoipkcaaNum
namespace Go.Proofs.Ythpboedpoipkcaa
open Go.ChangeShapes Go.WideShapes Go.ChangeAt Go.RowKit

def nxt (s : Int) : Int := (1664525 * s + 1013904223) % 4294967296
def fIdx (s : Int) (n : Nat) : Nat := (s * (n : Int) / 4294967296).toNat
def rlD (xss : List (List Int)) (st : Int × Int) : Nat → Int × Int
  | 0 => st
  | k + 1 => (nxt (rlD xss st k).1, (rlD xss st k).2 + (xss.getD k []).getD (fIdx (nxt (rlD xss st k).1) (xss.getD k []).length) 0)
def rlN (xss : List (List Int)) (s : Int) : Nat → Int × List Int
  | 0 => (s, [])
  | k + 1 => ((rlD xss ((rlN xss s k).1, 0) xss.length).1, (rlN xss s k).2 ++ [(rlD xss ((rlN xss s k).1, 0) xss.length).2])
def RRollDice (xss : List (List Int)) (s c : Int) : List Int × Int × Bool :=
  if (diceB xss && (inB s 0 4294967295 && inB c 1 256)) = true then ((rlN xss s c.toNat).2, (rlN xss s c.toNat).1, true) else ([], 0, false)
theorem nxt_in {s : Int} (h : 0 ≤ s) : 0 ≤ nxt s ∧ nxt s ≤ 4294967295 := by
  unfold nxt
  omega
theorem fIdx_lt {s : Int} {n : Nat} (h0 : 0 ≤ s) (h1 : s ≤ 4294967295) (hn : 1 ≤ n) : fIdx s n < n ∧ s * (n : Int) / 4294967296 = (fIdx s n : Int) := by
  have hp : 0 ≤ s * (n : Int) := Int.mul_nonneg h0 (by omega)
  have hlt : s * (n : Int) < (n : Int) * 4294967296 := by
    have : s * (n : Int) ≤ 4294967295 * (n : Int) := Int.mul_le_mul_of_nonneg_right h1 (by omega)
    omega
  have h2 : s * (n : Int) / 4294967296 < (n : Int) := Int.ediv_lt_of_lt_mul (by omega) hlt
  have h3 : 0 ≤ s * (n : Int) / 4294967296 := Int.ediv_nonneg hp (by omega)
  unfold fIdx
  omega
theorem die_face {xs : List Int} (h : dieB xs = true) {j : Nat} (hj : j < xs.length) : 0 ≤ xs.getD j 0 ∧ xs.getD j 0 ≤ 20 := by
  cases hq : badF xs j with
  | true => rw [dieB_bad hj hq] at h; cases h
  | false =>
    simp only [badF, Bool.or_eq_false_iff, Bool.not_eq_false', inB_iff] at hq
    exact hq.1
theorem rlD_in {xss : List (List Int)} {s : Int} (hd : ∀ k, k < xss.length → dieB (xss.getD k []) = true) (h0 : 0 ≤ s) (h1 : s ≤ 4294967295) {k : Nat} (hk : k ≤ xss.length) :
    0 ≤ (rlD xss (s, 0) k).1 ∧ (rlD xss (s, 0) k).1 ≤ 4294967295 ∧ 0 ≤ (rlD xss (s, 0) k).2 ∧ (rlD xss (s, 0) k).2 ≤ 20 * k := by
  induction k with
  | zero => simp [rlD]; omega
  | succ k ih =>
    obtain ⟨i1, i2, i3, i4⟩ := ih (by omega)
    have hn := nxt_in i1
    have hdk := hd k (by omega)
    have hf := die_face hdk (fIdx_lt hn.1 hn.2 (dieB_len hdk).1).1
    simp only [rlD]
    refine ⟨hn.1, hn.2, by omega, ?_⟩
    have : ((k + 1 : Nat) : Int) = (k : Int) + 1 := by simp
    omega
theorem rlN_in {xss : List (List Int)} {s : Int} (hd : ∀ k, k < xss.length → dieB (xss.getD k []) = true) (h0 : 0 ≤ s) (h1 : s ≤ 4294967295) (k : Nat) :
    0 ≤ (rlN xss s k).1 ∧ (rlN xss s k).1 ≤ 4294967295 ∧ (rlN xss s k).2.length = k := by
  induction k with
  | zero => simp [rlN]; omega
  | succ k ih =>
    have h := rlD_in hd ih.1 ih.2.1 (Nat.le_refl _)
    simp only [rlN]
    exact ⟨h.1, h.2.1, by simp [ih.2.2]⟩
theorem RRollDice_len0 (xss : List (List Int)) (s c : Int) : (RRollDice xss s c).1.length ≤ 1048576 := by
  unfold RRollDice
  split
  · rename_i h
    simp only [Bool.and_eq_true, inB_iff] at h
    have := rlN_in (diceB_of h.1).2.2 h.2.1.1 h.2.1.2 c.toNat
    simp only [this.2.2]
    omega
  · simp

set_option maxHeartbeats 400000 in
theorem iNext (s : Int) (w : World) (h0 : 0 ≤ s) (h1 : s ≤ 4294967295) :
    Calls Try.prog 78 #[.int .i64 s] w fun e w' => e = .returned (.int .i64 (nxt s)) ∧ w = w' := by
  have HN : Hid (nxt s = (1664525 * s + 1013904223) % 4294967296) := hide rfl
  generalize nxt s = y at *
  go_enter Try.func78, Try.ntmps78
  go_wp2
  go_ret
  exact ⟨ret_int HN.out.symm, rfl⟩
set_option maxHeartbeats 400000 in
theorem iSeed (s : Int) (w : World) :
    Calls Try.prog 77 #[.int .i64 s] w fun e w' => e = .returned (.bool (inB s 0 4294967295)) ∧ w = w' := by
  have H := Lib.hid (iIn s 0 4294967295 w)
  go_enter Try.func77, Try.ntmps77
  go_wp2_with (go_at_call 57; refine H.out.mono ?_; rintro e w' ⟨rfl, rfl⟩)
  go_ret
  exact ⟨rfl, rfl⟩

set_option maxRecDepth 100000 in
set_option maxHeartbeats 3200000 in
theorem iRoll (A : Option Addr) (n c : Nat) (xss : List (List Int)) (sd ct : Int) (w : World) (hr : RdR w A n xss) (hn : n ≤ 1048576) (hrow : ∀ k, k < n → (xss.getD k []).length ≤ 1048576) :
    Calls Try.prog 45 #[.slice A n c, .int .i64 sd, .int .i64 ct] w fun e w' => ∃ r, e = .returned (.tuple #[r, .int .i64 (RRollDice xss sd ct).2.1, .bool (RRollDice xss sd ct).2.2]) ∧ Own w' w.heap.size w'.heap.size r (RRollDice xss sd ct).1 ∧ Below w.heap.size w w' := by
  have H := Lib.hid (iDice A n c xss w hr hn hrow)
  have HSe := Lib.hid (fun V => iSeed sd V)
  have HC := Lib.hid (fun V => iIn ct 1 256 V)
  have hl := hr.len
  by_cases hq : (diceB xss && (inB sd 0 4294967295 && inB ct 1 256)) = true
  · have HR : Hid (RRollDice xss sd ct = ((rlN xss sd ct.toNat).2, (rlN xss sd ct.toNat).1, true)) := hide (by rw [RRollDice, if_pos hq])
    simp only [Bool.and_eq_true] at hq
    obtain ⟨q1, q2, q3⟩ := hq
    rw [q1] at H
    rw [q2] at HSe
    rw [q3] at HC
    rw [inB_iff] at q2 q3
    obtain ⟨hd1, hd6, hdie⟩ := diceB_of q1
    have hn6 : n ≤ 6 := by omega
    obtain ⟨N, rfl⟩ : ∃ N : Nat, ct = (N : Int) := ⟨ct.toNat, by omega⟩
    have hN : N ≤ 256 := by omega
    rw [Int.toNat_natCast] at HR
    have HNin := hide (fun k => rlN_in hdie q2.1 q2.2 k)
    have HDin := hide (fun (s : Int) (h0 : 0 ≤ s) (h1 : s ≤ 4294967295) k (hk : k ≤ n) => rlD_in hdie h0 h1 (k := k) (by omega))
    have HNst : Hid (∀ k, rlN xss sd (k + 1) = ((rlD xss ((rlN xss sd k).1, 0) n).1, (rlN xss sd k).2 ++ [(rlD xss ((rlN xss sd k).1, 0) n).2])) := hide fun k => by rw [rlN, hl]
    have HN0 : Hid (rlN xss sd 0 = (sd, [])) := hide rfl
    have HDst : Hid (∀ st k, rlD xss st (k + 1) = (nxt (rlD xss st k).1, (rlD xss st k).2 + (xss.getD k []).getD (fIdx (nxt (rlD xss st k).1) (xss.getD k []).length) 0)) := hide fun _ _ => rfl
    have HD0 : Hid (∀ st, rlD xss st 0 = st) := hide fun _ => rfl
    have Hdie : Hid (∀ k, k < n → dieB (xss.getD k []) = true) := hide fun k hk => hdie k (by omega)
    generalize RRollDice xss sd (N : Int) = RR at *
    generalize rlN xss sd = LN at *
    generalize rlD xss = LD at *
    clear hrow hdie hd1 hd6 hl q1 hn
    go_enter Try.func45, Try.ntmps45
    go_wp2_with (first | (go_at_call 67; refine H.out.mono ?_; rintro e w2 ⟨rfl, hb2⟩) | (go_at_call 77; refine (HSe.out _).mono ?_; rintro e w' ⟨rfl, rfl⟩) | (go_at_call 57; with_reducible refine (HC.out _).mono ?_; rintro e w' ⟨rfl, rfl⟩))
    go_loopw [1, 9, 28] (fun s o i wr => ∃ k : Nat, k ≤ N ∧ i = .int .i64 k ∧ s = .int .i64 (LN k).1 ∧ OwnL wr w.heap.size o (LN k).2 ∧ Below w.heap.size w wr) (fun _ _ i _ => N - (intOf i).toNat)
    case atStart => exact ⟨0, Nat.zero_le _, rfl, by rw [HN0.out], by rw [HN0.out]; exact OwnL.empty _ _ rfl hb2.size, hb2.alloc hb2.size _⟩
    case round =>
      clear hb2
      obtain ⟨k, hk, rfl, rfl, ho, hb⟩ := hrel
      by_cases hlt : k < N
      · obtain ⟨b1, b2, b3⟩ := HNin.out k
        have Hs := hide (HNst.out k)
        have HDi := hide (fun j (hj : j ≤ n) => HDin.out (LN k).1 b1 b2 j hj)
        have HDs := hide (fun j => HDst.out ((LN k).1, 0) j)
        have HDz := hide (HD0.out ((LN k).1, 0))
        have Hll := hide (show (LN k).2.length ≤ 1048576 by omega)
        generalize LD ((LN k).1, 0) = D at *
        generalize (LN k).1 = s at *
        generalize (LN k).2 = L at *
        have Hb3 := hide b3
        clear b3
        obtain ⟨w3, rfl⟩ : ∃ w3 : World, w3 = wr := ⟨_, rfl⟩
        go_wp2
        go_loopw [1, 10, 32] (fun sl su i wr => ∃ j : Nat, j ≤ n ∧ i = .int .i64 j ∧ sl = .int .i64 (D j).1 ∧ su = .int .i64 (D j).2 ∧ Below w3.heap.size w3 wr) (fun _ _ i _ => n - (intOf i).toNat)
        case atStart => exact ⟨0, Nat.zero_le _, rfl, by rw [HDz.out], by rw [HDz.out], Below.refl _ _⟩
        case round =>
          obtain ⟨j, hj, rfl, rfl, rfl, hv⟩ := hrel
          by_cases hjn : j < n
          · obtain ⟨ad, B, d2, rfl, hbl, hc, hrr, hd2⟩ := (hr.below (hb.trans (hv.mono hb.size))).at hjn
            obtain ⟨i1, i2, i3, i4⟩ := HDi.out j hj
            have hsum : (D j).2 ≤ 120 := by omega
            have hx := nxt_in i1
            have hdj := Hdie.out j hjn
            have hlen := dieB_len hdj
            obtain ⟨hfi, he⟩ := fIdx_lt (n := (xss.getD j []).length) hx.1 hx.2 hlen.1
            have hfb := die_face hdj hfi
            have Hst := hide (HDs.out j)
            obtain ⟨bd, rfl, hbb, hcf⟩ := hrr.int hfi
            have HNX := Lib.hid (fun W => iNext (D j).1 W i1 i2)
            have hp0 : 0 ≤ nxt (D j).1 * ((xss.getD j []).length : Int) := Int.mul_nonneg hx.1 (by omega)
            have hp1 : nxt (D j).1 * ((xss.getD j []).length : Int) ≤ 4294967295 * 12 := Int.mul_le_mul hx.2 (by omega) (by omega) (by omega)
            have hn1 : nxt (D j).1 = (1664525 * (D j).1 + 1013904223) % 4294967296 := rfl
            have hx1 := hx.1
            have hx2 := hx.2
            clear hx
            generalize nxt (D j).1 = y at *
            generalize fIdx y (xss.getD j []).length = fi at *
            generalize (xss.getD j []).getD fi 0 = f at *
            generalize (xss.getD j []).length = m at *
            obtain ⟨p, hp⟩ : ∃ p, y * (m : Int) = p := ⟨_, rfl⟩
            rw [hp] at hp0 hp1 he
            have e1 : IntKind.i64.wrap (y * (m : Int)) = p := by rw [hp]; exact IntWalk.i64_in _ (by omega)
            have e1' : wrap64 (y * (m : Int)) = p := by rw [hp]; exact IntWalk.wrap64_in _ (by omega)
            have e2 : p / 4294967296 = (fi : Int) := he
            have e4 : IntKind.i64.wrap (fi : Int) = (fi : Int) := IntWalk.i64_in _ (by omega)
            have e5 : p.tdiv 4294967296 = (fi : Int) := by rw [Int.tdiv_eq_ediv_of_nonneg hp0]; exact he
            have e6 : IntKind.i64.wrap (p.tdiv 4294967296) = (fi : Int) := by rw [e5]; exact e4
            have e6' : wrap64 (p.tdiv 4294967296) = (fi : Int) := by rw [e5]; exact IntWalk.wrap64_in _ (by omega)
            have Hpp := hide hp
            have He := hide he
            have HN1 := hide hn1
            generalize (D j).1 = s1 at *
            generalize (D j).2 = u1 at *
            have f1 : (0 : Int) ≤ (fi : Int) := by omega
            have f2 : (fi : Int) < (m : Int) := by omega
            have g1 : (0 : Int) ≤ (j : Int) := by omega
            have g2 : (j : Int) < (n : Int) := by omega
            clear hp he hn1 hrr hdj
            have hcA : (wr.alloc (.cells #[.slice (some bd) m d2] 27)).cell? (bd.add fi) = some (.int .i64 f) := ((Below.refl wr.heap.size wr).alloc (Nat.le_refl _) _ |>.cell (by rw [add_block]; exact hbb)).trans hcf
            have hcD := dcell wr (.slice (some bd) m d2) 27
            go_wp2_with (go_at_call 78; refine (HNX.out _).mono ?_; rintro e w' ⟨rfl, rfl⟩)
            go_roundw
            case rel => exact ⟨j + 1, by omega, by go_num, by rw [Hst.out], by rw [Hst.out], hv.alloc hv.size _⟩
            case measure => simp [intOf]; omega
          · have hjn2 : j = n := by omega
            subst hjn2
            have hsz := hv.size
            have HDS := hide (HDi.out j hj)
            generalize (D j).1 = s2 at *
            generalize (D j).2 = u2 at *
            have ho2 := ho.below hv
            have hb2 := hb.trans (hv.mono hb.size)
            have hz2 := hb2.size
            go_wp2_with (at_builtin; refine app1 ho2 Hll.out (by omega) rfl rfl rfl rfl ?_; intro v' w4 ho4 hg4)
            go_roundw
            case rel => exact ⟨k + 1, by omega, by go_num, by rw [Hs.out], by rw [Hs.out]; exact ho4, hb2.grown hg4 hz2 (fun g hg => (ho2.lt g hg).1)⟩
            case measure => simp [intOf]; omega
      · have hkN : k = N := by omega
        subst hkN
        have HOw := hide ho.own
        have e0 := HR.out
        obtain ⟨A5, c5, hv5, -, -, -, -⟩ := ho.own.form
        go_wp2
        exact bodyPost_ret (v := .tuple #[_, .int .i64 (LN k).1, .bool true]) (by simp [results, Try.results45, go_sem]; rfl) rfl ⟨_, by rw [HR.out], by rw [HR.out]; exact HOw.out, hb⟩
  · have HR : Hid (RRollDice xss sd ct = ([], 0, false)) := hide (by rw [RRollDice, if_neg hq])
    clear hr hrow hl
    cases q1 : diceB xss with
    | false =>
      rw [q1] at H
      go_enter Try.func45, Try.ntmps45
      go_wp2_with (first | (go_at_call 67; refine H.out.mono ?_; rintro e w2 ⟨rfl, hb2⟩) | (go_at_call 77; refine (HSe.out _).mono ?_; rintro e w' ⟨rfl, rfl⟩) | (go_at_call 57; with_reducible refine (HC.out _).mono ?_; rintro e w' ⟨rfl, rfl⟩))
      exact bodyPost_ret (v := .tuple #[.slice none 0 0, .int .i64 0, .bool false]) (by simp [results, Try.results45, go_sem]) rfl ⟨_, by rw [HR.out], by rw [HR.out]; exact Own.nil _ _ _, hb2⟩
    | true =>
      rw [q1] at H
      cases q2 : inB sd 0 4294967295 with
      | false =>
        rw [q2] at HSe
        go_enter Try.func45, Try.ntmps45
        go_wp2_with (first | (go_at_call 67; refine H.out.mono ?_; rintro e w2 ⟨rfl, hb2⟩) | (go_at_call 77; refine (HSe.out _).mono ?_; rintro e w' ⟨rfl, rfl⟩) | (go_at_call 57; with_reducible refine (HC.out _).mono ?_; rintro e w' ⟨rfl, rfl⟩))
        exact bodyPost_ret (v := .tuple #[.slice none 0 0, .int .i64 0, .bool false]) (by simp [results, Try.results45, go_sem]) rfl ⟨_, by rw [HR.out], by rw [HR.out]; exact Own.nil _ _ _, hb2⟩
      | true =>
        rw [q2] at HSe
        have q3 : inB ct 1 256 = false := by
          cases h : inB ct 1 256 with
          | false => rfl
          | true => exact absurd (by rw [q1, q2, h]; rfl) hq
        rw [q3] at HC
        clear hq
        go_enter Try.func45, Try.ntmps45
        go_wp2_with (first | (go_at_call 67; refine H.out.mono ?_; rintro e w2 ⟨rfl, hb2⟩) | (go_at_call 77; refine (HSe.out _).mono ?_; rintro e w' ⟨rfl, rfl⟩) | (go_at_call 57; with_reducible refine (HC.out _).mono ?_; rintro e w' ⟨rfl, rfl⟩))
        exact bodyPost_ret (v := .tuple #[.slice none 0 0, .int .i64 0, .bool false]) (by simp [results, Try.results45, go_sem]) rfl ⟨_, by rw [HR.out], by rw [HR.out]; exact Own.nil _ _ _, hb2⟩

set_option maxRecDepth 100000 in
set_option maxHeartbeats 3200000 in
theorem sRoll (A : Option Addr) (n c : Nat) (xss : List (List Int)) (sd ct : Int) (w : World) (hr : RdR w A n xss) (hn : n ≤ 1048576) (hrow : ∀ k, k < n → (xss.getD k []).length ≤ 1048576) :
    Calls Try.prog 44 #[.slice A n c, .int .i64 sd, .int .i64 ct] w fun e w' => ∃ r, e = .returned (.tuple #[r, .int .i64 (RRollDice xss sd ct).2.1, .bool (RRollDice xss sd ct).2.2]) ∧ Own w' w.heap.size w'.heap.size r (RRollDice xss sd ct).1 ∧ Below w.heap.size w w' := by
  have H := Lib.hid (sDice A n c xss w hr hn hrow)
  have HSe := Lib.hid (fun V => sIn sd 0 4294967295 V)
  have HC := Lib.hid (fun V => sIn ct 1 256 V)
  have hl := hr.len
  by_cases hq : (diceB xss && (inB sd 0 4294967295 && inB ct 1 256)) = true
  · have HR : Hid (RRollDice xss sd ct = ((rlN xss sd ct.toNat).2, (rlN xss sd ct.toNat).1, true)) := hide (by rw [RRollDice, if_pos hq])
    simp only [Bool.and_eq_true] at hq
    obtain ⟨q1, q2, q3⟩ := hq
    rw [q1] at H
    rw [q2] at HSe
    rw [q3] at HC
    rw [inB_iff] at q2 q3
    obtain ⟨hd1, hd6, hdie⟩ := diceB_of q1
    have hn6 : n ≤ 6 := by omega
    obtain ⟨N, rfl⟩ : ∃ N : Nat, ct = (N : Int) := ⟨ct.toNat, by omega⟩
    have hN : N ≤ 256 := by omega
    rw [Int.toNat_natCast] at HR
    have HNin := hide (fun k => rlN_in hdie q2.1 q2.2 k)
    have HDin := hide (fun (s : Int) (h0 : 0 ≤ s) (h1 : s ≤ 4294967295) k (hk : k ≤ n) => rlD_in hdie h0 h1 (k := k) (by omega))
    have HNst : Hid (∀ k, rlN xss sd (k + 1) = ((rlD xss ((rlN xss sd k).1, 0) n).1, (rlN xss sd k).2 ++ [(rlD xss ((rlN xss sd k).1, 0) n).2])) := hide fun k => by rw [rlN, hl]
    have HN0 : Hid (rlN xss sd 0 = (sd, [])) := hide rfl
    have HDst : Hid (∀ st k, rlD xss st (k + 1) = (nxt (rlD xss st k).1, (rlD xss st k).2 + (xss.getD k []).getD (fIdx (nxt (rlD xss st k).1) (xss.getD k []).length) 0)) := hide fun _ _ => rfl
    have HD0 : Hid (∀ st, rlD xss st 0 = st) := hide fun _ => rfl
    have Hdie : Hid (∀ k, k < n → dieB (xss.getD k []) = true) := hide fun k hk => hdie k (by omega)
    generalize RRollDice xss sd (N : Int) = RR at *
    generalize rlN xss sd = LN at *
    generalize rlD xss = LD at *
    clear hrow hdie hd1 hd6 hl q1 hn
    go_enter Try.func44, Try.ntmps44
    go_wp2_with (first | (go_at_call 65; refine H.out.mono ?_; rintro e w2 ⟨rfl, q, rfl⟩; have hb2 := below_drewN (Below.refl w.heap.size w) q) | (go_at_call 60; with_reducible refine (HSe.out _).mono ?_; rintro e w' ⟨rfl, rfl⟩) | (go_at_call 60; with_reducible refine (HC.out _).mono ?_; rintro e w' ⟨rfl, rfl⟩))
    go_loopw [1, 2, 9] (fun s i o wr => ∃ k : Nat, k ≤ N ∧ (∃ d : Nat, d + k = N ∧ i = .int .i64 d) ∧ s = .int .i64 (LN k).1 ∧ OwnL wr w.heap.size o (LN k).2 ∧ Below w.heap.size w wr) (fun _ i _ _ => (intOf i).toNat)
    case atStart => exact ⟨0, Nat.zero_le _, ⟨N, rfl, rfl⟩, by rw [HN0.out], by rw [HN0.out]; exact OwnL.empty _ _ rfl hb2.size, hb2.alloc hb2.size _⟩
    case round =>
      clear hb2
      obtain ⟨k, hk, ⟨d, hd, rfl⟩, rfl, ho, hb⟩ := hrel
      by_cases hlt : k < N
      · obtain ⟨b1, b2, b3⟩ := HNin.out k
        have Hs := hide (HNst.out k)
        have HDi := hide (fun j (hj : j ≤ n) => HDin.out (LN k).1 b1 b2 j hj)
        have HDs := hide (fun j => HDst.out ((LN k).1, 0) j)
        have HDz := hide (HD0.out ((LN k).1, 0))
        have Hll := hide (show (LN k).2.length ≤ 1048576 by omega)
        generalize LD ((LN k).1, 0) = D at *
        generalize (LN k).1 = s at *
        generalize (LN k).2 = L at *
        have Hb3 := hide b3
        clear b3
        obtain ⟨w3, rfl⟩ : ∃ w3 : World, w3 = wr := ⟨_, rfl⟩
        go_wp2
        go_loopw [1, 10, 32] (fun sl su i wr => ∃ j : Nat, j ≤ n ∧ i = .int .i64 j ∧ sl = .int .i64 (D j).1 ∧ su = .int .i64 (D j).2 ∧ Hid (∃ Q, wr = w3.drewN Q)) (fun _ _ i _ => n - (intOf i).toNat)
        case atStart => exact ⟨0, Nat.zero_le _, rfl, by rw [HDz.out], by rw [HDz.out], hide ⟨0, rfl⟩⟩
        case round =>
          obtain ⟨j, hj, rfl, rfl, rfl, hQ⟩ := hrel
          obtain ⟨Q, rfl⟩ := hQ.out
          have hv : Below w3.heap.size w3 (w3.drewN Q) := below_drewN (Below.refl _ _) Q
          by_cases hjn : j < n
          · obtain ⟨ad, B, d2, rfl, hbl, hc, hrr, hd2⟩ := (hr.below hb).at hjn
            obtain ⟨i1, i2, i3, i4⟩ := HDi.out j hj
            have hsum : (D j).2 ≤ 120 := by omega
            have hx := nxt_in i1
            have hdj := Hdie.out j hjn
            have hlen := dieB_len hdj
            obtain ⟨hfi, he⟩ := fIdx_lt (n := (xss.getD j []).length) hx.1 hx.2 hlen.1
            have hfb := die_face hdj hfi
            have Hst := hide (HDs.out j)
            obtain ⟨bd, rfl, hbb, hcf⟩ := hrr.int hfi
            have hp0 : 0 ≤ nxt (D j).1 * ((xss.getD j []).length : Int) := Int.mul_nonneg hx.1 (by omega)
            have hp1 : nxt (D j).1 * ((xss.getD j []).length : Int) ≤ 4294967295 * 12 := Int.mul_le_mul hx.2 (by omega) (by omega) (by omega)
            have hn1 : nxt (D j).1 = (1664525 * (D j).1 + 1013904223) % 4294967296 := rfl
            have hx1 := hx.1
            have hx2 := hx.2
            clear hx
            generalize nxt (D j).1 = y at *
            generalize fIdx y (xss.getD j []).length = fi at *
            generalize (xss.getD j []).getD fi 0 = f at *
            generalize (xss.getD j []).length = m at *
            obtain ⟨p, hp⟩ : ∃ p, y * (m : Int) = p := ⟨_, rfl⟩
            rw [hp] at hp0 hp1 he
            have e1 : IntKind.i64.wrap (y * (m : Int)) = p := by rw [hp]; exact IntWalk.i64_in _ (by omega)
            have e1' : wrap64 (y * (m : Int)) = p := by rw [hp]; exact IntWalk.wrap64_in _ (by omega)
            have e2 : p / 4294967296 = (fi : Int) := he
            have e4 : IntKind.i64.wrap (fi : Int) = (fi : Int) := IntWalk.i64_in _ (by omega)
            have e5 : p.tdiv 4294967296 = (fi : Int) := by rw [Int.tdiv_eq_ediv_of_nonneg hp0]; exact he
            have e6 : IntKind.i64.wrap (p.tdiv 4294967296) = (fi : Int) := by rw [e5]; exact e4
            have e6' : wrap64 (p.tdiv 4294967296) = (fi : Int) := by rw [e5]; exact IntWalk.wrap64_in _ (by omega)
            have Hpp := hide hp
            have He := hide he
            have HN1 := hide hn1
            generalize (D j).1 = s1 at *
            generalize (D j).2 = u1 at *
            have f1 : (0 : Int) ≤ (fi : Int) := by omega
            have f2 : (fi : Int) < (m : Int) := by omega
            have g1 : (0 : Int) ≤ (j : Int) := by omega
            have g2 : (j : Int) < (n : Int) := by omega
            clear hp he hn1 hrr hdj
            have e7 : IntKind.i64.wrap (u1 + f) = u1 + f := IntWalk.i64_in _ (by omega)
            have e3 : (1664525 * s1 + 1013904223) % 4294967296 = y := HN1.out.symm
            go_wp2
            go_quiet (fail)
            go_wp2
            go_roundw
            case rel => exact ⟨j + 1, by omega, by go_num, by rw [Hst.out, ← HN1.out], by rw [Hst.out], hide (by repeat (first | exact ⟨_, rfl⟩ | exact drew2 _ _ _))⟩
            case measure => simp [intOf]; omega
          · have hjn2 : j = n := by omega
            subst hjn2
            have hsz := hv.size
            have HDS := hide (HDi.out j hj)
            generalize (D j).1 = s2 at *
            generalize (D j).2 = u2 at *
            have ho2 := ho.below hv
            have hb2 := hb.trans (hv.mono hb.size)
            have hz2 := hb2.size
            go_wp2_with (at_builtin; refine app1 ho2 Hll.out (by omega) rfl rfl rfl rfl ?_; intro v' w4 ho4 hg4)
            go_roundw
            case rel => exact ⟨k + 1, by omega, ⟨d - 1, by omega, by congr 1; omega⟩, by rw [Hs.out], by rw [Hs.out]; exact ho4, hb2.grown hg4 hz2 (fun g hg => (ho2.lt g hg).1)⟩
            case measure => simp [intOf]; omega
      · have hkN : k = N := by omega
        subst hkN
        obtain rfl : d = 0 := by omega
        have HOw := hide ho.own
        have e0 := HR.out
        obtain ⟨A5, c5, hv5, -, -, -, -⟩ := ho.own.form
        go_wp2
        exact bodyPost_ret (v := .tuple #[_, .int .i64 (LN k).1, .bool true]) (by simp [results, Try.results44, go_sem]; rfl) rfl ⟨_, by rw [HR.out], by rw [HR.out]; exact HOw.out, hb⟩
  · have HR : Hid (RRollDice xss sd ct = ([], 0, false)) := hide (by rw [RRollDice, if_neg hq])
    clear hr hrow hl
    cases q1 : diceB xss with
    | false =>
      rw [q1] at H
      go_enter Try.func44, Try.ntmps44
      go_wp2_with (first | (go_at_call 65; refine H.out.mono ?_; rintro e w2 ⟨rfl, q, rfl⟩; have hb2 := below_drewN (Below.refl w.heap.size w) q) | (go_at_call 60; with_reducible refine (HSe.out _).mono ?_; rintro e w' ⟨rfl, rfl⟩) | (go_at_call 60; with_reducible refine (HC.out _).mono ?_; rintro e w' ⟨rfl, rfl⟩))
      exact bodyPost_ret (v := .tuple #[.slice none 0 0, .int .i64 0, .bool false]) (by simp [results, Try.results44, go_sem]) rfl ⟨_, by rw [HR.out], by rw [HR.out]; exact Own.nil _ _ _, hb2⟩
    | true =>
      rw [q1] at H
      cases q2 : inB sd 0 4294967295 with
      | false =>
        rw [q2] at HSe
        go_enter Try.func44, Try.ntmps44
        go_wp2_with (first | (go_at_call 65; refine H.out.mono ?_; rintro e w2 ⟨rfl, q, rfl⟩; have hb2 := below_drewN (Below.refl w.heap.size w) q) | (go_at_call 60; with_reducible refine (HSe.out _).mono ?_; rintro e w' ⟨rfl, rfl⟩) | (go_at_call 60; with_reducible refine (HC.out _).mono ?_; rintro e w' ⟨rfl, rfl⟩))
        exact bodyPost_ret (v := .tuple #[.slice none 0 0, .int .i64 0, .bool false]) (by simp [results, Try.results44, go_sem]) rfl ⟨_, by rw [HR.out], by rw [HR.out]; exact Own.nil _ _ _, hb2⟩
      | true =>
        rw [q2] at HSe
        have q3 : inB ct 1 256 = false := by
          cases h : inB ct 1 256 with
          | false => rfl
          | true => exact absurd (by rw [q1, q2, h]; rfl) hq
        rw [q3] at HC
        clear hq
        go_enter Try.func44, Try.ntmps44
        go_wp2_with (first | (go_at_call 65; refine H.out.mono ?_; rintro e w2 ⟨rfl, q, rfl⟩; have hb2 := below_drewN (Below.refl w.heap.size w) q) | (go_at_call 60; with_reducible refine (HSe.out _).mono ?_; rintro e w' ⟨rfl, rfl⟩) | (go_at_call 60; with_reducible refine (HC.out _).mono ?_; rintro e w' ⟨rfl, rfl⟩))
        exact bodyPost_ret (v := .tuple #[.slice none 0 0, .int .i64 0, .bool false]) (by simp [results, Try.results44, go_sem]) rfl ⟨_, by rw [HR.out], by rw [HR.out]; exact Own.nil _ _ _, hb2⟩

theorem sRollDice (v : Value) (xss : List (List Int)) (s c : Int) (w : World) (hv : RVR w v xss) (ht : tot xss ≤ 1048576) (_ : (Lit.int .i64 s).wf = true) (_ : (Lit.int .i64 c).wf = true) :
    Calls Try.prog 44 #[v, .int .i64 s, .int .i64 c] w fun e w' => ∃ r, e = .returned (.tuple #[r, .int .i64 (RRollDice xss s c).2.1, .bool (RRollDice xss s c).2.2]) ∧ Own w' w.heap.size w'.heap.size r (RRollDice xss s c).1 ∧ Below w.heap.size w w' := by
  obtain ⟨A, c', rfl, hr, _⟩ := hv
  exact sRoll A _ c' xss s c w hr (Nat.le_trans (tot_len xss) ht) (fun k hk => Nat.le_trans (tot_row hk) ht)
theorem iRollDice (v : Value) (xss : List (List Int)) (s c : Int) (w : World) (hv : RVR w v xss) (ht : tot xss ≤ 1048576) (_ : (Lit.int .i64 s).wf = true) (_ : (Lit.int .i64 c).wf = true) :
    Calls Try.prog 45 #[v, .int .i64 s, .int .i64 c] w fun e w' => ∃ r, e = .returned (.tuple #[r, .int .i64 (RRollDice xss s c).2.1, .bool (RRollDice xss s c).2.2]) ∧ Own w' w.heap.size w'.heap.size r (RRollDice xss s c).1 ∧ Below w.heap.size w w' := by
  obtain ⟨A, c', rfl, hr, _⟩ := hv
  exact iRoll A _ c' xss s c w hr (Nat.le_trans (tot_len xss) ht) (fun k hk => Nat.le_trans (tot_row hk) ht)
end Go.Proofs.Ythpboedpoipkcaa
