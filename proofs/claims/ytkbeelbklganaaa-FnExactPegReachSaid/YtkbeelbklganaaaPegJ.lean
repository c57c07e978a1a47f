/- Contracts of the small functions on boards: a board's key, a board behind a move, how many pegs, both sides. Conditions: at most 14 places. -/
import Derived.Test.YtkbeelbklganaaaPegM
import Derived.Laws.OwnMore
namespace Go.Proofs.Ytkbeelbklganaaa
open Go.ChangeShapes Go.WideShapes Go.ChangeAt Go.RowKit

theorem toNk_lt14 {b : List Bool} {k : Nat} (h : k < 14) : toNk b k < 16384 := by
  have := toNk_lt b k
  have := pow_small h
  omega
set_option maxHeartbeats 800000 in
theorem iKey (A : Option Addr) (n c : Nat) (b : List Bool) (w : World) (hr : Rd w A n (bv b)) (hn : n ≤ 14) :
    Calls Try.prog 71 #[.slice A n c] w fun e w' => e = .returned (.int .i64 ((toNk b n : Nat) : Int)) ∧ w = w' := by
  have Hy := hide (fun k h => toNk_yes (b := b) (k := k) h)
  have Hn := hide (fun k h => toNk_no (b := b) (k := k) h)
  have Hlt : Hid (∀ k, k < 14 → toNk b k < 16384) := hide fun k hk => toNk_lt14 hk
  have H0 : Hid (toNk b 0 = 0) := hide rfl
  have Hr := Lib.hid (fun k (hk : k < n) => hr.bool hk)
  clear hr
  generalize toNk b = X at *
  go_enter Try.func71, Try.ntmps71
  go_wp2
  go_loop [3, 8] (fun x i => ∃ k : Nat, k ≤ n ∧ i = .int .i64 k ∧ x = .int .i64 ((X k : Nat) : Int)) (fun _ i => n - (intOf i).toNat)
  case atStart => exact ⟨0, Nat.zero_le _, rfl, by rw [H0.out]; rfl⟩
  case round =>
    obtain ⟨k, hk, rfl, rfl⟩ := hrel
    by_cases hlt : k < n
    · obtain ⟨ad, rfl, _, hc⟩ := Hr.out k hlt
      cases hb : b.getD k false with
      | true =>
        rw [hb] at hc
        have hs := hide (Hy.out k hb)
        have ho := hide (or_step (Hlt.out k (by omega)) (show k < 14 by omega))
        clear hb
        go_wp2
        go_round
        case rel => exact ⟨k + 1, by omega, by go_num, by rw [hs.out, ho.out]⟩
        case measure => simp [intOf]; omega
      | false =>
        rw [hb] at hc
        have hs := hide (Hn.out k hb)
        clear hb
        go_wp2
        go_round
        case rel => exact ⟨k + 1, by omega, by go_num, by rw [hs.out]⟩
        case measure => simp [intOf]; omega
    · have hkn : n = k := by omega
      subst hkn
      go_wp2
      go_ret
      exact ⟨rfl, rfl⟩

/-! ### a board behind a move -/
def jmpB (b : List Bool) (f t : Nat) : List Bool := ((b.set f false).set ((f + t) / 2) false).set t true
theorem jmpB_len (b : List Bool) (f t : Nat) : (jmpB b f t).length = b.length := by simp [jmpB]
theorem getD_setB (xs : List Bool) (i j : Nat) (x : Bool) (hj : j < xs.length) : (xs.set i x).getD j false = if j = i then x else xs.getD j false := by
  by_cases h : j = i
  · subst h; simp [List.getD, hj]
  · have h' : ¬ i = j := fun e => h e.symm
    simp [List.getD, List.getElem?_set, h, h']
theorem toNk_jmp {b : List Bool} {f t : Nat} (hf : f < b.length) (ht : t < b.length) : toNk (jmpB b f t) b.length = mvd (toNk b b.length) f t := by
  refine Nat.eq_of_testBit_eq fun i => ?_
  rw [mvd_bit, toNk_bit, toNk_bit]
  by_cases hi : i < b.length
  · unfold jmpB
    rw [getD_setB _ _ _ _ (by simp; omega), getD_setB _ _ _ _ (by simp; omega), getD_setB _ _ _ _ hi]
    simp only [hi, decide_true, Bool.true_and]
  · rw [if_neg (by omega), if_neg (by omega), if_neg (by omega)]
    simp [hi]
/-- 'append(out, ys...)' onto an empty slice, bools -/
theorem appRB {w : World} {ops : Array Oper} {rest : List Oper} {o : Oper} {a : Act} {Q : Exit → Act → World → Prop} {lo m c : Nat} {ad : Addr} {v : Value} {ys : List Bool}
    (hown : w.ownsRow lo 4 1 v 0 []) (hr : Rd w (some ad) m (bv ys)) (hm : 0 < m) (hn : m ≤ 1048576) (hlo : lo ≤ w.heap.size) (hgd : o.guard = none) {s x : Operand}
    (ho : o.op = .call { callee := .builtin .append, args := #[s, x], argTypes := #[37, 37] })
    (hs : a.eval s = v) (hx : a.eval x = .slice (some ad) m c)
    (h : ∀ v' w', w'.ownsRow lo 4 1 v' m (bv ys) → w.grownBy w' v.ownBlock → wpList Try.prog ops Q rest (a.put o.dst v') w') :
    wpList Try.prog ops Q (o :: rest) a w := by
  obtain ⟨i0, hi, hz0, hz1, hz2⟩ := info_parts info_bool
  have hl := hr.blen
  refine wpList_append_own_at _ hgd s x 37 ho lo 4 i0 (.bool false) 1 1 Try.underlying37 hi hz0 hz1 hz2 rfl (by decide) v 0 [] hs hown ad m c (bv ys) hx (by simpa using hl) ?_ (fun u hu => by obtain ⟨x, _, rfl⟩ := List.mem_map.1 hu; rfl) ?_ ?_ hlo ?_
  · intro j u hj
    obtain ⟨ad', e, _, hc⟩ := hr.2 hm
    injection e with e
    subst e
    exact hc j u hj
  · unfold maxLen; omega
  · omega
  · intro v' w' h1 h2 _ _
    refine h v' w' ?_ h2
    rw [Nat.zero_add, List.nil_append] at h1
    exact h1
set_option maxHeartbeats 400000 in
theorem cloneB (ad : Addr) (n c : Nat) (b : List Bool) (w : World) (hr : Rd w (some ad) n (bv b)) (hn : n ≤ 1048576) (h0 : 0 < n) :
    Calls Try.prog 77 #[.slice (some ad) n c] w fun e w' => ∃ r, e = .returned r ∧ w'.ownsRow w.heap.size 4 1 r n (bv b) ∧ Below w.heap.size w w' := by
  have q1 : ∀ (W : World) (B : Option Addr) (n k : Nat), (binOp .eql 37 (.slice B n k) (.slice none 0 0)).run Try.prog W = .ok (.bool B.isNone) W := fun W B n k => Lib.run_eql_slice_nil W _ _ B n k 0 0 Try.underlying37
  have hz : w.heap.size ≤ (w.alloc (.cells #[] 4)).heap.size := ((Below.refl w.heap.size w).alloc (Nat.le_refl _) _).size
  go_enter Try.func77, Try.ntmps77
  go_wp2_with (at_builtin; refine appRB (lo := w.heap.size) (v := .slice (some ⟨w.heap.size, 0, none⟩) 0 0) (World.ownsRow_made w #[] 0 (Nat.le_refl _) (by simp [maxLen]) (by simp)) (hr.alloc _) h0 hn hz rfl rfl rfl rfl ?_; intro v' w3 ho3 hg3)
  go_ret
  refine ⟨_, rfl, ho3, ?_⟩
  exact ((Below.refl _ _).alloc (Nat.le_refl _) _).grown hg3 hz (fun k hk => by simp [Value.ownBlock] at hk; omega)
set_option maxHeartbeats 800000 in
theorem iJumped (ad : Addr) (n c f t : Nat) (b : List Bool) (w : World) (hr : Rd w (some ad) n (bv b)) (hn : n ≤ 14) (hf : f < n) (ht : t < n) :
    Calls Try.prog 72 #[.slice (some ad) n c, .int .i64 f, .int .i64 t] w fun e w' =>
      ∃ g c', e = .returned (.slice (some ⟨g, 0, none⟩) n c') ∧ Rd w' (some ⟨g, 0, none⟩) n (bv (jmpB b f t)) ∧ Below w.heap.size w w' := by
  have hl := hr.blen
  have HC := Lib.hid (cloneB ad n c b w hr (by omega) (by omega))
  have hmn : (f + t) / 2 < n := by omega
  have HJ : Hid (jmpB b f t = ((b.set f false).set ((f + t) / 2) false).set t true) := hide rfl
  generalize jmpB b f t = J at *
  obtain ⟨m, hm⟩ : ∃ m, (f + t) / 2 = m := ⟨_, rfl⟩
  rw [hm] at HJ hmn
  have q1 : ((f : Int) + (t : Int)) / 2 = (m : Int) := by omega
  have q2 : Int.tdiv ((f : Int) + (t : Int)) 2 = (m : Int) := by rw [Int.tdiv_eq_ediv_of_nonneg (by omega)]; exact q1
  have q3 : wrap64 (m : Int) = (m : Int) := IntWalk.wrap64_in _ ⟨by omega, by omega⟩
  have q4 : (m : Int) < (n : Int) := by omega
  clear hm hr
  go_enter Try.func72, Try.ntmps72
  go_wp2_with fail
  refine HC.out.mono ?_
  rintro e w1 ⟨r, rfl, ho, hb⟩
  rcases ho.2 with ⟨_, h0⟩ | ⟨g, cap, cur, rfl, hg, _, hcap, _⟩
  · omega
  have s1 := ho.stored f (.bool false)
  have s2 := s1.1.stored m (.bool false)
  have s3 := s2.1.stored t (.bool true)
  have e3 : (((bv b).set f (.bool false)).set m (.bool false)).set t (.bool true) = bv J := by
    rw [HJ.out]; simp only [bv, List.map_set]
  rw [e3] at s3
  obtain ⟨x1, c1⟩ : ∃ x, w1.cell? ⟨g, f, none⟩ = some x := ⟨_, by rw [ho.cellAt f (by omega)]; exact bv_get (by omega)⟩
  obtain ⟨x2, c2⟩ : ∃ x, (w1.setCell ⟨g, f, none⟩ (.bool false)).cell? ⟨g, m, none⟩ = some x := ⟨_, by rw [s1.1.cellAt m (by omega), ← List.map_set]; exact bv_get (by simp; omega)⟩
  obtain ⟨x3, c3⟩ : ∃ x, ((w1.setCell ⟨g, f, none⟩ (.bool false)).setCell ⟨g, m, none⟩ (.bool false)).cell? ⟨g, t, none⟩ = some x := ⟨_, by rw [s2.1.cellAt t (by omega), ← List.map_set, ← List.map_set]; exact bv_get (by simp; omega)⟩
  have f1 := ho.frozenAt f
  have f2 := s1.1.frozenAt m
  have f3 := s2.1.frozenAt t
  have HB := hide (((hb.setCell (p := ⟨g, f, none⟩) hg (.bool false)).setCell (p := ⟨g, m, none⟩) hg (.bool false)).setCell (p := ⟨g, t, none⟩) hg (.bool true))
  have HR := hide (Rd.of_own s3.1)
  clear s1 s2 s3 ho hb e3 HJ
  go_wp2
  go_ret
  exact ⟨g, cap, rfl, HR.out, HB.out⟩

/-! ### the reference's -/
theorem ones_bit (x k : Nat) : x / 2 ^ k % 2 = if x.testBit k = true then 1 else 0 := by
  rw [Nat.testBit_eq_decide_div_mod_eq]
  have : x / 2 ^ k % 2 < 2 := Nat.mod_lt _ (by omega)
  by_cases h : x / 2 ^ k % 2 = 1
  · simp [h]
  · simp [h]; omega
theorem ones_end {x n k : Nat} (hx : x < 2 ^ n) (h : x / 2 ^ k = 0) : cntT x.testBit k = ones n x := by
  have hk : x < 2 ^ k := by
    rcases Nat.lt_or_ge x (2 ^ k) with h2 | h2
    · exact h2
    · have := Nat.div_pos h2 (Nat.two_pow_pos k)
      omega
  have key : ∀ a d : Nat, x < 2 ^ a → cntT x.testBit (a + d) = cntT x.testBit a := fun a d ha => by
    induction d with
    | zero => rfl
    | succ d ih =>
      rw [← Nat.add_assoc, cntT, ih, Nat.testBit_lt_two_pow (Nat.lt_of_lt_of_le ha (Nat.pow_le_pow_right (by omega) (by omega)))]
      rfl
  unfold ones
  rcases Nat.le_total k n with h2 | h2
  · obtain ⟨d, rfl⟩ := Nat.exists_eq_add_of_le h2
    exact (key k d hk).symm
  · obtain ⟨d, rfl⟩ := Nat.exists_eq_add_of_le h2
    exact key n d hx
set_option maxHeartbeats 400000 in
theorem sOnes (x n : Nat) (w : World) (hx : x < 2 ^ n) (hn : n ≤ 14) :
    Calls Try.prog 73 #[.int .i64 x] w fun e w' => e = .returned (.int .i64 ((ones n x : Nat) : Int)) ∧ w = w' := by
  have hx14 : x < 16384 := Nat.lt_of_lt_of_le hx (Nat.pow_le_pow_right (by omega) hn)
  have HE := hide (fun k h => ones_end (k := k) hx h)
  have HS : Hid (∀ k, cntT x.testBit (k + 1) = cntT x.testBit k + x / 2 ^ k % 2) := hide fun k => by rw [ones_bit, cntT]
  have HD : Hid (∀ k, x / 2 ^ (k + 1) = x / 2 ^ k / 2) := hide fun k => by rw [Nat.pow_succ, Nat.div_div_eq_div_mul]
  have HL : Hid (∀ k, x / 2 ^ k ≤ x) := hide fun k => Nat.div_le_self _ _
  have HC : Hid (∀ k, cntT x.testBit k ≤ k) := hide fun k => cntT_le _ _
  have H0 : Hid (x / 2 ^ 0 = x) := hide (by simp)
  have HC0 : Hid (cntT x.testBit 0 = 0) := hide rfl
  have HP : Hid (∀ k, 0 < x / 2 ^ k → k ≤ 14) := hide fun k h => by
    rcases Nat.lt_or_ge 14 k with h2 | h2
    · have : x / 2 ^ k = 0 := Nat.div_eq_of_lt (Nat.lt_of_lt_of_le hx14 (show 2 ^ 14 ≤ 2 ^ k from Nat.pow_le_pow_right (by omega) (by omega)))
      omega
    · exact h2
  generalize ones n x = O at *
  obtain ⟨C, hC⟩ : ∃ C : Nat → Nat, ∀ k, cntT x.testBit k = C k := ⟨_, fun _ => rfl⟩
  obtain ⟨D, hD⟩ : ∃ D : Nat → Nat, ∀ k, x / 2 ^ k = D k := ⟨_, fun _ => rfl⟩
  simp only [hC, hD] at HE HS HD HL HC H0 HC0 HP
  clear hC hD
  go_enter Try.func73, Try.ntmps73
  go_wp2
  go_loop [0, 3] (fun x' r => ∃ k : Nat, x' = .int .i64 (D k) ∧ r = .int .i64 (C k)) (fun x' _ => (intOf x').toNat)
  case atStart => exact ⟨0, by rw [H0.out], by rw [HC0.out]; rfl⟩
  case round =>
    obtain ⟨k, rfl, rfl⟩ := hrel
    have h1 := HL.out k
    have h2 := HC.out k
    have hs := hide (HS.out k)
    have hd := hide (HD.out k)
    have he := hide (HE.out k)
    have hp := HP.out k
    generalize C k = c at *
    generalize D k = y at *
    by_cases h0 : 0 < y
    · have h3 := hp h0
      clear hp
      have q1 : wrap64 ((y : Int) / 2) = ((y / 2 : Nat) : Int) := by rw [show (y : Int) / 2 = ((y / 2 : Nat) : Int) by simp]; exact IntWalk.wrap64_in _ ⟨by omega, by omega⟩
      have q2 : wrap64 ((c : Int) + (y : Int) % 2) = ((c + y % 2 : Nat) : Int) := by rw [show (c : Int) + (y : Int) % 2 = ((c + y % 2 : Nat) : Int) by simp]; exact IntWalk.wrap64_in _ ⟨by omega, by omega⟩
      go_wp2
      go_round
      case rel => exact ⟨k + 1, by rw [hd.out]; first | rfl | (rw [q1]) | go_num, by rw [hs.out]; first | rfl | rw [q2] | go_num⟩
      case measure => simp [intOf]; omega
    · obtain rfl : y = 0 := by omega
      have hEq := hide (he.out rfl)
      clear hp he
      go_wp2
      go_ret
      exact ⟨by rw [← hEq.out]; rfl, rfl⟩
theorem shl_nat {k : Nat} (h : k < 14) : wrap64 ((2 : Int) ^ k) = ((2 ^ k : Nat) : Int) := by
  have h1 := pow_small h
  rw [show (2 : Int) ^ k = ((2 ^ k : Nat) : Int) by simp]
  generalize 2 ^ k = p at h1
  exact IntWalk.wrap64_in _ ⟨by omega, by omega⟩
theorem and_not (a b : Nat) (ha : a < 65536) (hb : b < 65536) : bits BinOp.andNot IntKind.i64 (a : Int) (b : Int) = ((a ^^^ (a &&& b) : Nat) : Int) := by
  show IntKind.i64.wrap ((BitVec.ofInt 64 (a : Int) &&& ~~~ BitVec.ofInt 64 (b : Int)).toNat : Int) = _
  have e : (BitVec.ofInt 64 (a : Int) &&& ~~~ BitVec.ofInt 64 (b : Int)) = (BitVec.ofInt 64 (a : Int) ^^^ (BitVec.ofInt 64 (a : Int) &&& BitVec.ofInt 64 (b : Int))) := by
    apply BitVec.eq_of_getLsbD_eq
    intro i hi
    simp only [BitVec.getLsbD_and, BitVec.getLsbD_not, BitVec.getLsbD_xor, hi, decide_true, Bool.true_and]
    cases (BitVec.ofInt 64 (a : Int)).getLsbD i <;> cases (BitVec.ofInt 64 (b : Int)).getLsbD i <;> rfl
  rw [e, BitVec.toNat_xor, BitVec.toNat_and, ofInt_u64 a (by omega), ofInt_u64 b (by omega)]
  have h1 : a &&& b < 2 ^ 16 := Nat.and_lt_two_pow a (by omega)
  have : a ^^^ (a &&& b) < 2 ^ 16 := Nat.xor_lt_two_pow (by omega) h1
  exact Lib.wrap_i64_small _ (by omega)
set_option maxHeartbeats 400000 in
theorem sMoved (x f t : Nat) (w : World) (hx : x < 16384) (hf : f < 14) (ht : t < 14) :
    Calls Try.prog 59 #[.int .i64 x, .int .i64 f, .int .i64 t] w fun e w' => e = .returned (.int .i64 ((mvd x f t : Nat) : Int)) ∧ w = w' := by
  obtain ⟨m, hm⟩ : ∃ m, (f + t) / 2 = m := ⟨_, rfl⟩
  have hm14 : m < 14 := by omega
  have H : Hid (bits .or .i64 (bits .andNot .i64 (x : Int) (bits .or .i64 (wrap64 (2 ^ f)) (wrap64 (2 ^ m)))) (wrap64 (2 ^ t)) = ((mvd x f t : Nat) : Int)) := hide (by
    have b1 := pow_small hf
    have b2 := pow_small hm14
    have b3 := pow_small ht
    have h1 : 2 ^ f ||| 2 ^ m < 2 ^ 16 := Nat.or_lt_two_pow (by omega) (by omega)
    have h2 : x &&& (2 ^ f ||| 2 ^ m) < 2 ^ 16 := Nat.and_lt_two_pow x h1
    have h3 : x ^^^ (x &&& (2 ^ f ||| 2 ^ m)) < 2 ^ 16 := Nat.xor_lt_two_pow (by omega) h2
    rw [shl_nat hf, shl_nat hm14, shl_nat ht, bits_or _ _ (by omega) (by omega), and_not _ _ (by omega) (by omega), bits_or _ _ (by omega) (by omega)]
    unfold mvd
    rw [hm])
  have q1 : ((f : Int) + (t : Int)) / 2 = (m : Int) := by omega
  have q2 : Int.tdiv ((f : Int) + (t : Int)) 2 = (m : Int) := by rw [Int.tdiv_eq_ediv_of_nonneg (by omega)]; exact q1
  have q3 : wrap64 (m : Int) = (m : Int) := IntWalk.wrap64_in _ ⟨by omega, by omega⟩
  clear hm
  go_enter Try.func59, Try.ntmps59
  go_wp2
  go_ret
  exact ⟨ret_int (by rw [← H.out]), rfl⟩
set_option maxHeartbeats 400000 in
theorem sMinN (x y : Nat) (w : World) (hx : x < 65536) (hy : y < 65536) :
    Calls Try.prog 74 #[.int .i64 x, .int .i64 y] w fun e w' => e = .returned (.int .i64 ((min x y : Nat) : Int)) ∧ w = w' := by
  by_cases h : x < y
  · rw [Nat.min_eq_left (by omega)]
    go_enter Try.func74, Try.ntmps74
    go_wp2
    go_ret
    exact ⟨rfl, rfl⟩
  · rw [Nat.min_eq_right (by omega)]
    go_enter Try.func74, Try.ntmps74
    go_wp2
    go_ret
    exact ⟨rfl, rfl⟩
set_option maxHeartbeats 400000 in
theorem sTold (n : Nat) (w : World) (hn : n ≤ 14) :
    Calls Try.prog 58 #[.int .i64 n] w fun e w' => e = .returned (.slice (some ⟨w.heap.size, 0, none⟩) (2 ^ n) (2 ^ n)) ∧ Bk w' w.heap.size 2 (iv (List.replicate (2 ^ n) 0)) ∧ Below w.heap.size w w' := by
  have h2 : 2 ^ n ≤ 2 ^ 14 := Nat.pow_le_pow_right (by omega) hn
  have e1 : wrap64 ((2 : Int) ^ n) = ((2 ^ n : Nat) : Int) := by
    rw [show (2 : Int) ^ n = ((2 ^ n : Nat) : Int) by simp]
    generalize 2 ^ n = p at h2
    exact IntWalk.wrap64_in _ ⟨by omega, by omega⟩
  have E1 := hide e1
  clear e1
  generalize 2 ^ n = p at *
  have E2 : Hid (Value.int .i64 (wrap64 (2 ^ n)) = .int .i64 (p : Int)) := hide (by rw [E1.out])
  clear E1
  go_enter Try.func58, Try.ntmps58
  go_wp2_with (at_make; refine mk1 (n := p) (by omega) rfl rfl E2.out E2.out ?_; intro w1 hB hb hs)
  go_ret
  exact ⟨rfl, hB, hb⟩
end Go.Proofs.Ytkbeelbklganaaa
