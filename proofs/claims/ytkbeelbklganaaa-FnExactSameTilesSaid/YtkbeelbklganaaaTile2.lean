/- Contracts of SameTiles and AreTiles, both sides. Conditions: lengths at most 2^20. -/
import Derived.Test.YtkbeelbklganaaaTile
namespace Go.Proofs.Ytkbeelbklganaaa
open Go.ChangeShapes Go.WideShapes Go.ChangeAt Go.RowKit

theorem neqT (a b c d : Int) (W : World) : (binOp .neq 52 (.agg #[.int .i64 a, .int .i64 b]) (.agg #[.int .i64 c, .int .i64 d])).run Try.prog W = .ok (.bool (!(a == c && b == d))) W := by
  have ht : Try.prog.underlying 52 = some (.struct (Try.prog.fieldsOf 52)) := by kernel_rfl
  have hp : Try.prog.stoodInHeld 52 = false := by kernel_rfl
  have hf : ((Try.prog.fieldsOf 52).toList.map fun f => (f.name == "_", f.type, f.offset)) = [(false, 2, 0), (false, 2, 1)] := by kernel_rfl
  have hpart : ∀ (xs : Array Value) (k : Nat) (v : Value) (W : World), xs[k]? = some v → (part 2 xs k).run Try.prog W = .ok v W := fun xs k v W h => by
    have hag : (isAgg 2).run Try.prog W = .ok false W := by kernel_rfl
    simp [part, hag, h]
  rw [run_neq_struct, run_equalIn_agg _ _ _ _ _ ht hp]
  generalize (Try.prog.fieldsOf 52).toList = fs at hf
  rcases fs with _ | ⟨f0, _ | ⟨f1, _ | ⟨f2, l⟩⟩⟩
  · cases hf
  · simp at hf
  · simp only [List.map_cons, List.map_nil, List.cons.injEq, Prod.mk.injEq, and_true] at hf
    obtain ⟨⟨n0, t0, o0⟩, n1, t1, o1⟩ := hf
    have n0' : f0.name ≠ "_" := by simpa using n0
    have n1' : f1.name ≠ "_" := by simpa using n1
    simp only [Op.eqFields, n0', n1', t0, t1, o0, o1, ne_eq, not_false_eq_true, if_true, Sem.run_bind]
    rw [hpart #[.int .i64 a, .int .i64 b] 0 (.int .i64 a) _ rfl]
    simp only [Result.andThen_ok]
    rw [hpart #[.int .i64 c, .int .i64 d] 0 (.int .i64 c) _ rfl]
    simp only [Result.andThen_ok]
    rw [run_equalIn_int _ _ _ _ .i64 _ _ Try.underlying2]
    simp only [Result.andThen_ok]
    cases h1 : (a == c) with
    | false => simp
    | true =>
      simp only [Bool.not_true, Bool.false_eq_true, if_false, Sem.run_bind]
      rw [hpart #[.int .i64 a, .int .i64 b] 1 (.int .i64 b) _ rfl]
      simp only [Result.andThen_ok]
      rw [hpart #[.int .i64 c, .int .i64 d] 1 (.int .i64 d) _ rfl]
      simp only [Result.andThen_ok]
      rw [run_equalIn_int _ _ _ _ .i64 _ _ Try.underlying2]
      simp only [Result.andThen_ok]
      cases h2 : (b == d) <;> simp
  · simp at hf

def eqP (ts us : List (Int × Int)) : Bool := decide (ts = us)
theorem eqP_len {ts us : List (Int × Int)} (h : ts.length ≠ us.length) : eqP ts us = false := decide_eq_false fun e => h (by rw [e])
theorem eqP_at {ts us : List (Int × Int)} {k : Nat} (h : ts.getD k (0, 0) ≠ us.getD k (0, 0)) : eqP ts us = false := decide_eq_false fun e => h (by rw [e])
theorem eqP_all {ts us : List (Int × Int)} (hl : ts.length = us.length) (h : ∀ k, k < ts.length → ts.getD k (0, 0) = us.getD k (0, 0)) : eqP ts us = true := by
  refine decide_eq_true (List.ext_getElem hl fun k h1 h2 => ?_)
  have := h k h1
  simpa [List.getD, h1, h2] using this

set_option maxRecDepth 100000 in
set_option maxHeartbeats 800000 in
theorem sSameT (A B : Option Addr) (n m c d : Nat) (ts us : List (Int × Int)) (w : World) (hr : RdT w A n ts) (hr2 : RdT w B m us) (hn : n ≤ 1048576) (hm : m ≤ 1048576) :
    Calls Try.prog 16 #[.slice A n c, .slice B m d] w fun e w' => e = .returned (.bool (eqP ts us)) ∧ ∃ q, w' = w.drewN q := by
  have hl1 := hr.len
  have hl2 := hr2.len
  by_cases hnm : n = m
  · subst hnm
    have Hbad : Hid (∀ k, ts.getD k (0, 0) ≠ us.getD k (0, 0) → eqP ts us = false) := hide fun k h => eqP_at h
    have Hok : Hid ((∀ k, k < n → ts.getD k (0, 0) = us.getD k (0, 0)) → eqP ts us = true) := hide fun h => eqP_all (by rw [hl1, hl2]) (by rw [hl1]; exact h)
    generalize eqP ts us = R at *
    clear hl1 hl2
    go_enter Try.func16, Try.ntmps16
    go_wp2
    go_loopw [5] (fun i wr => ∃ k : Nat, k ≤ n ∧ i = .int .i64 k ∧ Hid (∀ j, j < k → ts.getD j (0, 0) = us.getD j (0, 0)) ∧ Hid (∃ q, wr = w.drewN q)) (fun i _ => n - (intOf i).toNat)
    case atStart => exact ⟨0, Nat.zero_le _, rfl, hide fun j hj => absurd hj (by omega), hide ⟨0, rfl⟩⟩
    case round =>
      obtain ⟨k, hk, rfl, hfa, hq0⟩ := hrel
      obtain ⟨q0, rfl⟩ := hq0.out
      by_cases hlt : k < n
      · obtain ⟨ad, rfl, hbl, hc1, hc2⟩ := hr.at hlt
        rw [add_one'] at hc2
        obtain ⟨bd, rfl, hbl2, hd1, hd2⟩ := hr2.at hlt
        rw [add_one'] at hd2
        have HB := hide (Hbad.out k)
        generalize hp : ts.getD k (0, 0) = p at *
        generalize hq : us.getD k (0, 0) = q at *
        obtain ⟨a1, a2⟩ := p
        obtain ⟨b1, b2⟩ := q
        simp only at hc1 hc2 hd1 hd2
        have HP := hide hp
        have HQ := hide hq
        clear hp hq
        have dk : decide (k < n) = true := decide_eq_true hlt
        have f1 : (0 : Int) ≤ (k : Int) := by omega
        have f2 : (k : Int) < (n : Int) := by omega
        skip
        cases h1 : (a1 != b1) with
        | true =>
          have e1 : (a1 == b1) = false := by simpa [bne] using h1
          have HR := hide (HB.out (by intro e; injection e with e _; rw [e] at e1; simp at e1))
          go_wp2
          go_quiet (fail)
          go_wp2
          go_ret
          exact ⟨ret_bool HR.out.symm, by repeat (first | exact ⟨_, rfl⟩ | exact drew2 _ _ _)⟩
        | false =>
          have e1 : (a1 == b1) = true := by simpa [bne] using h1
          cases h2 : (a2 != b2) with
          | true =>
            have e2 : (a2 == b2) = false := by simpa [bne] using h2
            have HR := hide (HB.out (by intro e; injection e with _ e; rw [e] at e2; simp at e2))
            go_wp2
            go_quiet (fail)
            go_wp2
            go_ret
            exact ⟨ret_bool HR.out.symm, by repeat (first | exact ⟨_, rfl⟩ | exact drew2 _ _ _)⟩
          | false =>
            have e2 : (a2 == b2) = true := by simpa [bne] using h2
            have Hg : Hid ((a1, a2) = (b1, b2)) := hide (by rw [show a1 = b1 from by simpa using e1, show a2 = b2 from by simpa using e2])
            go_wp2
            go_quiet (fail)
            go_wp2
            go_roundw
            case measure => simp [intOf]; omega
            case rel =>
              refine ⟨k + 1, by omega, by go_num, hide fun j hj => ?_, hide (by repeat (first | exact ⟨_, rfl⟩ | exact drew2 _ _ _))⟩
              by_cases e : j = k
              · subst e
                rw [HP.out, HQ.out]; exact Hg.out
              · exact hfa.out j (by omega)
      · have hkn : k = n := by omega
        subst hkn
        have HR := hide (Hok.out hfa.out)
        go_wp2
        go_ret
        exact ⟨ret_bool HR.out.symm, _, rfl⟩
  · have HR := hide (eqP_len (ts := ts) (us := us) (by rw [hl1, hl2]; exact hnm))
    have b1 : ((n : Int) != (m : Int)) = true := by simp; omega
    have b2 : (n != m) = true := by simpa using hnm
    clear hl1 hl2
    go_enter Try.func16, Try.ntmps16
    go_wp2
    go_ret
    exact ⟨ret_bool HR.out.symm, 0, rfl⟩

set_option maxRecDepth 100000 in
set_option maxHeartbeats 800000 in
theorem libEqT (A B : Option Addr) (n m c d : Nat) (ts us : List (Int × Int)) (w : World) (hr : RdT w A n ts) (hr2 : RdT w B m us) (hn : n ≤ 1048576) (hm : m ≤ 1048576) :
    Calls Try.prog 43 #[.slice A n c, .slice B m d] w fun e w' => e = .returned (.bool (eqP ts us)) ∧ ∃ q, w' = w.drewN q := by
  have hl1 := hr.len
  have hl2 := hr2.len
  by_cases hnm : n = m
  · subst hnm
    have Hbad : Hid (∀ k, ts.getD k (0, 0) ≠ us.getD k (0, 0) → eqP ts us = false) := hide fun k h => eqP_at h
    have Hok : Hid ((∀ k, k < n → ts.getD k (0, 0) = us.getD k (0, 0)) → eqP ts us = true) := hide fun h => eqP_all (by rw [hl1, hl2]) (by rw [hl1]; exact h)
    generalize eqP ts us = R at *
    clear hl1 hl2
    go_enter Try.func43, Try.ntmps43
    go_wp2
    go_loopw [5, 13] (fun _ i wr => ∃ k : Nat, k ≤ n ∧ i = .int .i64 k ∧ Hid (∀ j, j < k → ts.getD j (0, 0) = us.getD j (0, 0)) ∧ Hid (∃ q, wr = w.drewN q)) (fun _ i _ => n - (intOf i).toNat)
    case atStart => exact ⟨0, Nat.zero_le _, rfl, hide fun j hj => absurd hj (by omega), hide ⟨0, rfl⟩⟩
    case round =>
      obtain ⟨k, hk, rfl, hfa, hq0⟩ := hrel
      obtain ⟨q0, rfl⟩ := hq0.out
      by_cases hlt : k < n
      · obtain ⟨ad, rfl, hbl, hc1, hc2⟩ := hr.at hlt
        rw [add_one'] at hc2
        obtain ⟨bd, rfl, hbl2, hd1, hd2⟩ := hr2.at hlt
        rw [add_one'] at hd2
        have HB := hide (Hbad.out k)
        generalize hp : ts.getD k (0, 0) = p at *
        generalize hq : us.getD k (0, 0) = q at *
        obtain ⟨a1, a2⟩ := p
        obtain ⟨b1, b2⟩ := q
        simp only at hc1 hc2 hd1 hd2
        have HP := hide hp
        have HQ := hide hq
        clear hp hq
        have dk : decide (k < n) = true := decide_eq_true hlt
        have f1 : (0 : Int) ≤ (k : Int) := by omega
        have f2 : (k : Int) < (n : Int) := by omega
        have hneq := fun W => neqT a1 a2 b1 b2 W
        cases h1 : (a1 != b1) with
        | true =>
          have e1 : (a1 == b1) = false := by simpa [bne] using h1
          have HR := hide (HB.out (by intro e; injection e with e _; rw [e] at e1; simp at e1))
          go_wp2
          go_quiet (fail)
          go_wp2
          go_ret
          exact ⟨ret_bool HR.out.symm, by repeat (first | exact ⟨_, rfl⟩ | exact drew2 _ _ _)⟩
        | false =>
          have e1 : (a1 == b1) = true := by simpa [bne] using h1
          cases h2 : (a2 != b2) with
          | true =>
            have e2 : (a2 == b2) = false := by simpa [bne] using h2
            have HR := hide (HB.out (by intro e; injection e with _ e; rw [e] at e2; simp at e2))
            go_wp2
            go_quiet (fail)
            go_wp2
            go_ret
            exact ⟨ret_bool HR.out.symm, by repeat (first | exact ⟨_, rfl⟩ | exact drew2 _ _ _)⟩
          | false =>
            have e2 : (a2 == b2) = true := by simpa [bne] using h2
            have Hg : Hid ((a1, a2) = (b1, b2)) := hide (by rw [show a1 = b1 from by simpa using e1, show a2 = b2 from by simpa using e2])
            go_wp2
            go_quiet (fail)
            go_wp2
            go_roundw
            case measure => simp [intOf]; omega
            case rel =>
              refine ⟨k + 1, by omega, by go_num, hide fun j hj => ?_, hide (by repeat (first | exact ⟨_, rfl⟩ | exact drew2 _ _ _))⟩
              by_cases e : j = k
              · subst e
                rw [HP.out, HQ.out]; exact Hg.out
              · exact hfa.out j (by omega)
      · have hkn : k = n := by omega
        subst hkn
        have HR := hide (Hok.out hfa.out)
        go_wp2
        go_ret
        exact ⟨ret_bool HR.out.symm, _, rfl⟩
  · have HR := hide (eqP_len (ts := ts) (us := us) (by rw [hl1, hl2]; exact hnm))
    have b1 : ((n : Int) != (m : Int)) = true := by simp; omega
    have b2 : (n != m) = true := by simpa using hnm
    clear hl1 hl2
    go_enter Try.func43, Try.ntmps43
    go_wp2
    go_ret
    exact ⟨ret_bool HR.out.symm, 0, rfl⟩
end Go.Proofs.Ytkbeelbklganaaa
